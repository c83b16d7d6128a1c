/-
  ServeAlone: what lies in memory while the law runs.
  ServeAlone: the law's state, and what each call makes of it.
-/
import Derived.Test.YtllpoaoboieijaaGreatSa30
import Derived.Test.YtllpoaoboieijaaGreatSa31
import Derived.Test.YtllpoaoboieijaaGreatSa39
/-
  ServeAlone: what lies in memory while the law runs.
-/
namespace Go.Proofs.YtllpoaoboieijaaGreat
open Go.RowKit

/-- A block that neither the server nor the stream writes. -/
def Oth (xb : Nat) (own : Nat → Lb) (b : Nat) : Prop := own b = .other ∧ b ≠ xb
/-- From w to w' no such block was written. -/
structure Mv (xb : Nat) (own : Nat → Lb) (w : World) (own' : Nat → Lb) (w' : World) : Prop where
  size : w.heap.size ≤ w'.heap.size
  lab : ∀ b, b < w.heap.size → own' b = own b
  keep : ∀ b, b < w.heap.size → Oth xb own b → w'.heap[b]? = w.heap[b]?
section
variable {xb : Nat} {own own' own2 : Nat → Lb} {w w' w2 : World}
theorem Mv.trans (h : Mv xb own w own' w') (k : Mv xb own' w' own2 w2) : Mv xb own w own2 w2 :=
  ⟨Nat.le_trans h.size k.size, fun b hb => (k.lab b (Nat.lt_of_lt_of_le hb h.size)).trans (h.lab b hb), fun b hb ho =>
    (k.keep b (Nat.lt_of_lt_of_le hb h.size) ⟨(h.lab b hb).trans ho.1, ho.2⟩).trans (h.keep b hb ho)⟩
theorem Mv.ext {T : Lb → Prop} (x : Ext own w own' w' T) (hT : ¬ T .other) : Mv xb own w own' w' := ⟨x.size, x.lab, fun b hb ho => x.keep b hb (by rw [ho.1]; exact hT)⟩
theorem Mv.of_keep (k : Keep xb w w') : Mv xb own w (relab own w.heap.size .other) w' := ⟨k.size, fun _ hb => relab_old _ hb, fun b hb ho => k.block b hb ho.2⟩
theorem Mv.oth (h : Mv xb own w own' w') {b : Nat} (hb : b < w.heap.size) (ho : Oth xb own b) : Oth xb own' b := ⟨(h.lab b hb).trans ho.1, ho.2⟩
theorem Ext.of_keep (k : Keep xb w w') (hx : own xb = .other) : Ext own w (relab own w.heap.size .other) w' (fun l => l = .other) :=
  ⟨k.os, k.tape, k.output, k.size, fun _ hb => relab_old _ hb, fun b hb hn => k.block b hb (fun e => hn (by rw [e]; exact hx))⟩
/-- A block of ours, known whole. -/
def BlkO (xb : Nat) (own : Nat → Lb) (w : World) (b : Nat) (l : List Value) (t : TypeId) : Prop := Blk w b l t ∧ Oth xb own b
theorem BlkO.mv (h : Mv xb own w own' w') {b : Nat} {l : List Value} {t : TypeId} (k : BlkO xb own w b l t) : BlkO xb own' w' b l t := by
  have hl := k.1.lt
  refine ⟨?_, h.oth hl k.2⟩
  have := k.1
  unfold Blk at this ⊢
  rw [h.keep b hl k.2]; exact this
def RdAtO (xb : Nat) (own : Nat → Lb) (w : World) (q : Pl) (l : List Int) : Prop := RdAt w q.b q.o q.c l ∧ Oth xb own q.b
theorem RdAtO.mv (h : Mv xb own w own' w') {q : Pl} {l : List Int} (h0 : 0 < l.length) (k : RdAtO xb own w q l) : RdAtO xb own' w' q l := by
  have hl := k.1.lt h0
  refine ⟨⟨k.1.1, k.1.2.1, fun i hi => ?_⟩, h.oth hl k.2⟩
  rw [World.cell?_of_block (a := ⟨q.b, q.o + i, none⟩) (h.keep q.b hl k.2)]
  exact k.1.2.2 i hi
structure DemO (xb : Nat) (own : Nat → Lb) (w : World) (p : MPl) : Prop where
  cuts : RdAtO xb own w p.cuts demoM.cuts
  embed : RdAtO xb own w p.embed demoM.embed
  place : RdAtO xb own w p.place demoM.place
  mix : RdAtO xb own w p.mix demoM.mix
  out : RdAtO xb own w p.out demoM.out
  soft : RdAtO xb own w p.soft demoM.soft
  odds : RdAtO xb own w p.odds demoM.odds
theorem demo_pos : 0 < demoM.cuts.length ∧ 0 < demoM.embed.length ∧ 0 < demoM.place.length ∧ 0 < demoM.mix.length ∧ 0 < demoM.out.length ∧ 0 < demoM.soft.length ∧ 0 < demoM.odds.length := by decide +kernel
theorem DemO.mv (h : Mv xb own w own' w') {p : MPl} (k : DemO xb own w p) : DemO xb own' w' p :=
  ⟨k.cuts.mv h demo_pos.1, k.embed.mv h demo_pos.2.1, k.place.mv h demo_pos.2.2.1, k.mix.mv h demo_pos.2.2.2.1, k.out.mv h demo_pos.2.2.2.2.1, k.soft.mv h demo_pos.2.2.2.2.2.1, k.odds.mv h demo_pos.2.2.2.2.2.2⟩
theorem DemO.at' {p : MPl} (k : DemO xb own w p) : DemoAt w p := ⟨k.cuts.1, k.embed.1, k.place.1, k.mix.1, k.out.1, k.soft.1, k.odds.1⟩
theorem DemO.mk' {p : MPl} (k : DemoAt w p) {n : Nat} (hf : DemoFrom n p) (ho : ∀ b, n ≤ b → Oth xb own b) : DemO xb own w p := by
  obtain ⟨a, b, c, d, e, f, g⟩ := hf
  exact ⟨⟨k.cuts, ho _ a⟩, ⟨k.embed, ho _ b⟩, ⟨k.place, ho _ c⟩, ⟨k.mix, ho _ d⟩, ⟨k.out, ho _ e⟩, ⟨k.soft, ho _ f⟩, ⟨k.odds, ho _ g⟩⟩
theorem St.ext {T : Lb → Prop} {V : Value} {Ls : List Int} {K : Nat} (h : St w xb V Ls K) (x : Ext own w own' w' T) (hT : ¬ T .other) (hx : own xb = .other) (hv : 0 < Ls.length → ∀ b, V.ownBlock = some b → own b = .other) : St w' xb V Ls K := by
  obtain ⟨a, h1, h2, h3, h4⟩ := h
  exact ⟨a, h1, h2.ext x (by rw [hx]; exact hT), h3.block fun b hb hvb h0 => x.keep b hb (by rw [hv h0 b hvb]; exact hT), h4⟩

/-- A request that was asked and taken, and where its prompt lies. -/
structure AQ where
  q : Ask
  A : Option Addr
  c : Nat
def AQ.cells (a : AQ) : List Value := a.q.cells a.A a.c
def AQ.sl (a : AQ) : Value := .slice a.A a.q.prompt.length a.c
theorem aq_cells_len (a : AQ) : a.cells.length = 5 := rfl
theorem aq_get : ∀ (qs : List AQ) (i j : Nat) (hi : i < qs.length), j < 5 → (qs.flatMap AQ.cells)[i * 5 + j]? = qs[i].cells[j]?
  | a :: qs, 0, j, _, hj => by
    rw [List.flatMap_cons, List.getElem?_append_left (by rw [aq_cells_len]; omega)]
    simp
  | a :: qs, i + 1, j, hi, hj => by
    rw [List.flatMap_cons, List.getElem?_append_right (by rw [aq_cells_len]; omega), aq_cells_len, show (i + 1) * 5 + j - 5 = i * 5 + j by omega, aq_get qs i j (by simpa using hi) hj]
    rfl
structure QRow (xb : Nat) (own : Nat → Lb) (w : World) (base : Nat) (v : Value) (qs : List AQ) : Prop where
  row : w.ownsRow base 41 5 v qs.length (qs.flatMap AQ.cells)
  lab : ∀ g, v.ownBlock = some g → Oth xb own g
  prm : ∀ a, a ∈ qs → RdV w a.sl (ints a.q.prompt) ∧ 0 < a.q.prompt.length ∧ ∀ k, a.sl.ownBlock = some k → Oth xb own k ∧ v.ownBlock ≠ some k
theorem QRow.nil (xb : Nat) (own : Nat → Lb) (w : World) (base : Nat) : QRow xb own w base (.slice none 0 0) [] :=
  ⟨World.ownsRow_nil _ _ _ _, fun g h => by simp [Value.ownBlock] at h, fun a ha => by cases ha⟩
theorem RdV.block {v : Value} {xs : List Value} (h : RdV w v xs) (hb : ∀ b, b < w.heap.size → v.ownBlock = some b → w'.heap[b]? = w.heap[b]?) : RdV w' v xs := by
  by_cases h0 : 0 < xs.length
  · have hlt := h.lt h0
    obtain ⟨A, c, rfl, h1, h2, h3⟩ := h
    obtain ⟨b, o, rfl, hc⟩ := h3 h0
    refine ⟨_, c, rfl, h1, h2, fun _ => ⟨b, o, rfl, fun i hi => ?_⟩⟩
    rw [World.cell?_of_block (a := ⟨b, o + i, none⟩) (hb b (hlt b rfl) rfl)]
    exact hc i hi
  · obtain ⟨A, c, rfl, h1, h2, h3⟩ := h
    exact ⟨A, c, rfl, h1, h2, fun h => absurd h h0⟩
theorem ownsRow_block {base : Nat} {e : TypeId} {size : Nat} {v : Value} {n : Nat} {xs : List Value} (h : w.ownsRow base e size v n xs) (hb : ∀ b, b < w.heap.size → v.ownBlock = some b → w'.heap[b]? = w.heap[b]?) : w'.ownsRow base e size v n xs := by
  have hlt := h.lt
  refine ⟨h.1, ?_⟩
  rcases h.2 with a | ⟨g, cap, cur, hv, a3, a4, a5⟩
  · exact .inl a
  · have hg : v.ownBlock = some g := by rw [hv]; rfl
    exact .inr ⟨g, cap, cur, hv, a3, by rw [hb g (hlt g hg).2 hg]; exact a4, a5⟩
theorem QRow.mv (h : Mv xb own w own' w') {base : Nat} {v : Value} {qs : List AQ} (k : QRow xb own w base v qs) : QRow xb own' w' base v qs := by
  have hlt := k.row.lt
  refine ⟨ownsRow_block k.row fun b hb hv => h.keep b hb (k.lab b hv), fun g hg => h.oth (hlt g hg).2 (k.lab g hg), fun a ha => ?_⟩
  obtain ⟨h1, h0, h2⟩ := k.prm a ha
  have hl := h1.lt (by rw [ints_length]; exact h0)
  exact ⟨h1.block fun b hb hv => h.keep b hb (h2 b hv).1, h0, fun b hb => ⟨h.oth (hl b hb) (h2 b hb).1, (h2 b hb).2⟩⟩
theorem Oth.relab {b : Nat} (h : Oth xb own b) (n : Nat) : Oth xb (relab own n .other) b := by
  refine ⟨?_, h.2⟩
  by_cases hb : b < n
  · rw [relab_old _ hb]; exact h.1
  · rw [relab_new _ (by omega)]
/-- One more. -/
theorem QRow.app {base : Nat} {v : Value} {qs : List AQ} (k : QRow xb own w base v qs) (a : AQ) (ha : RdV w a.sl (ints a.q.prompt)) (h0 : 0 < a.q.prompt.length) (hap : ∀ b, a.sl.ownBlock = some b → Oth xb own b ∧ v.ownBlock ≠ some b) (hxb : xb < w.heap.size) (o : Obj) {n : Nat} (hn : qs.length = n) {g cap : Nat}
    (hown : w'.ownsRow base 41 5 (.slice (some ⟨g, 0, none⟩) (n + 1) cap) (n + 1) (qs.flatMap AQ.cells ++ a.cells)) (hg : (w.alloc o).grownBy w' v.ownBlock) (hat : v.ownBlock = some g ∨ g = (w.alloc o).heap.size) :
    QRow xb (relab own w.heap.size .other) w' base (.slice (some ⟨g, 0, none⟩) (n + 1) cap) (qs ++ [a]) := by
  subst hn
  have hsz := alloc_le w o
  have keep : ∀ b, b < w.heap.size → v.ownBlock ≠ some b → w'.heap[b]? = w.heap[b]? := fun b hb hne => by
    rw [hg.block b (by omega) (fun e => hne e.symm), Below.heap_alloc _ _ _ hb]
  have hgo : Oth xb (relab own w.heap.size .other) g := by
    rcases hat with e | e
    · exact (k.lab g e).relab _
    · exact ⟨relab_new _ (by omega), by omega⟩
  have fix : ∀ (x : AQ), RdV w x.sl (ints x.q.prompt) → 0 < x.q.prompt.length → (∀ b, x.sl.ownBlock = some b → Oth xb own b ∧ v.ownBlock ≠ some b) →
      RdV w' x.sl (ints x.q.prompt) ∧ 0 < x.q.prompt.length ∧ ∀ b, x.sl.ownBlock = some b → Oth xb (relab own w.heap.size .other) b ∧ (Value.slice (some (⟨g, 0, none⟩ : Addr)) (qs.length + 1) cap).ownBlock ≠ some b := fun x h1 h2 h3 => by
    refine ⟨h1.block fun b hb hv => keep b hb (h3 b hv).2, h2, fun b hb => ⟨(h3 b hb).1.relab _, fun e => ?_⟩⟩
    have hlt := h1.lt (by rw [ints_length]; exact h2) b hb
    have hbg : g = b := by simpa [Value.ownBlock] using e
    rcases hat with e' | e'
    · exact (h3 b hb).2 (by rw [e', hbg])
    · omega
  refine ⟨by rw [List.length_append, List.flatMap_append]; simpa using hown, fun x hx => ?_, fun x hx => ?_⟩
  · have : g = x := by simpa [Value.ownBlock] using hx
    rw [← this]; exact hgo
  · rcases List.mem_append.1 hx with hx | hx
    · obtain ⟨h1, h2, h3⟩ := k.prm x hx
      exact fix x h1 h2 h3
    · rw [List.mem_singleton.1 hx]
      exact fix a ha h0 hap
end
end Go.Proofs.YtllpoaoboieijaaGreat
/-
  ServeAlone: the law's state, and what each call makes of it.
-/
namespace Go.Proofs.YtllpoaoboieijaaGreat
open Go.RowKit

def Ask.sig (q : Ask) : Int × Int × List Int × Int × Int := (q.id, q.deadline, q.prompt, q.most, q.seed)
/-- Blocks that lie ahead of the model's. -/
structure Far (N xb mb : Nat) (p : MPl) (V : Value) (Ls : List Int) : Prop where
  n : N ≤ mb
  x : xb < mb
  v : 0 < Ls.length → ∀ b, V.ownBlock = some b → b < mb
  d : p.cuts.b < mb ∧ p.embed.b < mb ∧ p.place.b < mb ∧ p.mix.b < mb ∧ p.out.b < mb ∧ p.soft.b < mb ∧ p.odds.b < mb
structure LS (w0 : World) (V : Value) (Ls : List Int) (p : MPl) (xb mb : Nat) (own : Nat → Lb) (w : World) (sb : Nat) (L : Lay) (S : Srv) (K : Nat) (qs : List AQ) (v : Value) : Prop where
  srv : SrvAt own w sb L S
  inv : SInv S
  st : St w xb V Ls K
  stl : own xb = .other
  vl : 0 < Ls.length → ∀ b, V.ownBlock = some b → own b = .other
  mdl : BlkO xb own w mb (demoCells p) 27
  dem : DemO xb own w p
  row : QRow xb own w (mb + 1) v qs
  low : ∀ b, b < w0.heap.size → Oth xb own b
  bel : Below w0.heap.size w0 w
  sig : ∀ a, a ∈ qs → ∃ r, r ∈ S.reqs ∧ r.sig = a.q.sig
  far : Far w0.heap.size xb mb p V Ls
section
variable {w0 : World} {V : Value} {Ls : List Int} {p : MPl} {xb mb : Nat} {own own' : Nat → Lb} {w w' : World} {sb : Nat} {L L' : Lay} {S S' : Srv} {K : Nat} {qs : List AQ} {v : Value}
theorem LS.asks (h : LS w0 V Ls p xb mb own w sb L S K qs v) {K' : Nat} (ha : Asks xb V Ls K' w w') : LS w0 V Ls p xb mb (relab own w.heap.size .other) w' sb L S K' qs v := by
  have hm : Mv xb own w (relab own w.heap.size .other) w' := Mv.of_keep ha.1
  have hx := h.st.lt
  refine ⟨h.srv.other (Ext.of_keep ha.1 h.stl) (fun _ e => e), h.inv, ha.2, by rw [relab_old _ hx]; exact h.stl, fun h0 b hb => ?_, h.mdl.mv hm, h.dem.mv hm, h.row.mv hm, fun b hb => (h.low b hb).relab _, ?_, h.sig, h.far⟩
  · by_cases c : b < w.heap.size
    · rw [relab_old _ c]; exact h.vl h0 b hb
    · exact relab_new _ (by omega)
  · exact h.bel.trans ⟨ha.1.os, ha.1.tape, ha.1.output, ha.1.size, fun b hb => ha.1.block b (by have := h.bel.size; omega) (h.low b hb).2⟩
theorem LS.below (h : LS w0 V Ls p xb mb own w sb L S K qs v) (hb : Below w.heap.size w w') : LS w0 V Ls p xb mb (relab own w.heap.size .other) w' sb L S K qs v :=
  h.asks ⟨Keep.of_below hb, h.st.below hb⟩
theorem LS.go (h : LS w0 V Ls p xb mb own w sb L S K qs v) {T : Lb → Prop} (x : Ext own w own' w' T) (hT : ¬ T .other) (h' : SrvAt own' w' sb L' S') (hi : SInv S') (hs : ∀ r, r ∈ S.reqs → ∃ r', r' ∈ S'.reqs ∧ r'.sig = r.sig) : LS w0 V Ls p xb mb own' w' sb L' S' K qs v := by
  have hm : Mv xb own w own' w' := Mv.ext x hT
  have hx := h.st.lt
  refine ⟨h', hi, h.st.ext x hT h.stl h.vl, by rw [x.lab xb hx]; exact h.stl, fun h0 b hb => ?_, h.mdl.mv hm, h.dem.mv hm, h.row.mv hm, fun b hb => hm.oth (by have := h.bel.size; omega) (h.low b hb), ?_, fun a ha => ?_, h.far⟩
  · have hlt : b < w.heap.size := by
      obtain ⟨_, _, _, h3, _⟩ := h.st
      exact h3.lt h0 b hb
    rw [x.lab b hlt]; exact h.vl h0 b hb
  · exact h.bel.trans (Below.of_ext x h.bel.size (fun b hb => by rw [(h.low b hb).1]; exact hT))
  · obtain ⟨r, hr, e⟩ := h.sig a ha
    obtain ⟨r', hr', e'⟩ := hs r hr
    exact ⟨r', hr', e'.trans e⟩
theorem LS.mono (h : LS w0 V Ls p xb mb own w sb L S K qs v) {K' : Nat} (hk : K ≤ K') : LS w0 V Ls p xb mb own w sb L S K' qs v := { h with st := h.st.mono hk }

/-- What is asked, as it lies. -/
structure AQAt (xb : Nat) (own : Nat → Lb) (w : World) (v : Value) (a : AQ) : Prop where
  rd : RdV w a.sl (ints a.q.prompt)
  oth : 0 < a.q.prompt.length → ∀ k, a.sl.ownBlock = some k → Oth xb own k ∧ v.ownBlock ≠ some k
theorem AQAt.mv (h : Mv xb own w own' w') {a : AQ} (k : AQAt xb own w v a) : AQAt xb own' w' v a := by
  by_cases h0 : 0 < a.q.prompt.length
  · have hl := k.rd.lt (by rw [ints_length]; exact h0)
    exact ⟨k.rd.block fun b hb hv => h.keep b hb (k.oth h0 b hv).1, fun _ b hb => ⟨h.oth (hl b hb) (k.oth h0 b hb).1, (k.oth h0 b hb).2⟩⟩
  · refine ⟨?_, fun h => absurd h h0⟩
    obtain ⟨A, c, hv, h1, h2, h3⟩ := k.rd
    exact ⟨A, c, hv, h1, h2, fun h => absurd h (by rw [ints_length]; exact h0)⟩
theorem RdAtO.low {q : Pl} {l : List Int} (k : RdAtO xb own w q l) (n : Nat) (hk : w'.heap[q.b]? = w.heap[q.b]?) : RdAtO xb (relab own n .other) w' q l := by
  refine ⟨⟨k.1.1, k.1.2.1, fun i hi => ?_⟩, k.2.relab _⟩
  rw [World.cell?_of_block (a := ⟨q.b, q.o + i, none⟩) hk]
  exact k.1.2.2 i hi
/-- One more was asked and taken. -/
theorem LS.app (h : LS w0 V Ls p xb mb own w sb L S K qs v) (a : AQ) (hq : AQAt xb own w v a) (h0 : 0 < a.q.prompt.length) (hs : ∃ r, r ∈ S.reqs ∧ r.sig = a.q.sig) (o : Obj) {n : Nat} (hn : qs.length = n) {g cap : Nat}
    (hown : w'.ownsRow (mb + 1) 41 5 (.slice (some ⟨g, 0, none⟩) (n + 1) cap) (n + 1) (qs.flatMap AQ.cells ++ a.cells)) (hg : (w.alloc o).grownBy w' v.ownBlock) (hat : v.ownBlock = some g ∨ g = (w.alloc o).heap.size) :
    LS w0 V Ls p xb mb (relab own w.heap.size .other) w' sb L S K (qs ++ [a]) (.slice (some ⟨g, 0, none⟩) (n + 1) cap) := by
  have hlt := h.row.row.lt
  have hsz := alloc_le w o
  have hx := h.st.lt
  have keep : ∀ b, b < w.heap.size → v.ownBlock ≠ some b → w'.heap[b]? = w.heap[b]? := fun b hb hne => by
    rw [hg.block b (by omega) (fun e => hne e.symm), Below.heap_alloc _ _ _ hb]
  have klow : ∀ b, b < w.heap.size → b ≤ mb → w'.heap[b]? = w.heap[b]? := fun b hb hm => keep b hb fun e => by
    have := (hlt b e).1; omega
  have hsize : w.heap.size ≤ w'.heap.size := Nat.le_trans hsz hg.size
  have x : Ext own w (relab own w.heap.size .other) w' (fun l => l = .other) :=
    ⟨hg.os, hg.tape, hg.output, hsize, fun _ hb => relab_old _ hb, fun b hb hn => keep b hb fun e => hn (h.row.lab b e).1⟩
  have hm := h.mdl.1.lt
  have hf := h.far
  obtain ⟨f1, f2, f3, f4, f5, f6, f7⟩ := hf.d
  have hd := h.dem
  refine ⟨h.srv.other x (fun _ e => e), h.inv, ?_, by rw [relab_old _ hx]; exact h.stl, fun h0 b hb => ?_, ⟨?_, h.mdl.2.relab _⟩, ⟨hd.cuts.low _ (klow _ (by omega) (by omega)), hd.embed.low _ (klow _ (by omega) (by omega)), hd.place.low _ (klow _ (by omega) (by omega)), hd.mix.low _ (klow _ (by omega) (by omega)), hd.out.low _ (klow _ (by omega) (by omega)), hd.soft.low _ (klow _ (by omega) (by omega)), hd.odds.low _ (klow _ (by omega) (by omega))⟩,
    h.row.app a hq.rd h0 (hq.oth h0) hx o hn hown hg hat, fun b hb => (h.low b hb).relab _, ?_, fun b hb => ?_, hf⟩
  · obtain ⟨i, h1, h2, h3, h4⟩ := h.st
    refine ⟨i, h1, ?_, h3.block fun b hb hvb h0 => klow b hb (by have := hf.v h0 b hvb; omega), h4⟩
    unfold Blk at h2 ⊢
    rw [klow xb hx (by have := hf.x; omega)]; exact h2
  · by_cases c : b < w.heap.size
    · rw [relab_old _ c]; exact h.vl h0 b hb
    · exact relab_new _ (by omega)
  · have := h.mdl.1
    unfold Blk at this ⊢
    rw [klow mb hm (Nat.le_refl _)]; exact this
  · exact h.bel.trans ⟨hg.os, hg.tape, hg.output, hsize, fun b hb => klow b (by have := h.bel.size; omega) (by have := hf.n; omega)⟩
  · rcases List.mem_append.1 hb with hb | hb
    · exact h.sig b hb
    · rw [List.mem_singleton.1 hb]; exact hs
theorem loglen (h : SInv S) (hr : S.records ≤ 10000) : S.log.length ≤ 10000000 := by have := h.log; omega
theorem law_tick (h : LS w0 V Ls p xb mb own w sb L S K qs v) (hnow : 0 ≤ S.now ∧ S.now ≤ 1000) (hrec : S.records ≤ 10000) :
    Calls Tryz.prog 14 #[.pointer (some ⟨sb, 0, none⟩)] w fun e w' => e = .returned (.int .i64 0) ∧ ∃ own' L' S', Hid (LS w0 V Ls p xb mb own' w' sb L' S' K qs v) ∧ Hid (TickInv S S') := by
  refine (tick_any compute_any next_said tokOk own sb L S w h.srv h.inv.wf (by have := h.inv.few; omega) (loglen h.inv hrec) (by omega)).mono ?_
  rintro e w' ⟨ys, zs, hy, hz, rfl, own', L', h', -, x⟩
  have ht := tick_inv h.inv ⟨hnow.1, by omega⟩ (by omega) hy hz
  refine ⟨rfl, own', L', _, Lib.hid (h.go x Tin_other h' ht.inv fun r hr => ?_), Lib.hid ht⟩
  exact sig_mem ht.sig.symm hr
theorem rdv_row {base : Nat} {xs : List Value} {A : Option Addr} {n c : Nat} (h : w.ownsRow base 3 1 (.slice A n c) n xs) : RdV w (.slice A n c) xs := by
  have hl : xs.length = n := by have := h.1; omega
  rcases h.2 with ⟨hv, hn⟩ | ⟨g, cap, cur, hv, a3, a4, a5, a6, a7, a8⟩
  · injection hv with e1 e2 e3
    subst e1 e2 e3
    exact ⟨none, 0, by rw [hl], by omega, Nat.zero_le _, fun h0 => by omega⟩
  · injection hv with e1 e2 e3
    subst e1 e3
    refine ⟨_, c, by rw [hl], by omega, a6, fun _ => ⟨g, 0, rfl, fun i hi => ?_⟩⟩
    unfold World.cell?
    simp only [a4, Nat.zero_add]
    simp only [Nat.mul_one] at a8
    have : xs[i]? = cur.toList[i]? := by rw [← a8, List.getElem?_take]; simp; omega
    rw [List.getElem?_eq_getElem hi] at this
    simpa using this.symm
theorem law_asked (h : LS w0 V Ls p xb mb own w sb L S K qs v) (hK : K ≤ 400000) (now : Int) (hnow : 0 ≤ now ∧ now ≤ 1000000) :
    Calls Tryz.prog 11 #[.pointer (some ⟨xb, 0, none⟩), .agg (demoCells p).toArray, .int .i64 now] w fun e w' => ∃ a : AQ, e = .returned (a.q.val a.A a.c) ∧ ∃ own', Hid (LS w0 V Ls p xb mb own' w' sb L S (K + 40) qs v) ∧ Hid (AQAt xb own' w' v a) ∧ Hid (a.q.id ≤ 9 ∧ a.q.deadline ≤ now + 30 ∧ a.q.prompt.length ≤ 40) ∧ Hid (Keep xb w w') ∧ Hid (∀ k, a.sl.ownBlock = some k → w.heap.size ≤ k) := by
  refine (Asked_st xb V Ls (Request_st xb V Ls) p now hnow K hK w h.st).mono ?_
  rintro e w' ⟨q, A, c, rfl, h9, hd, h40, hrow, ha⟩
  refine ⟨⟨q, A, c⟩, rfl, _, Lib.hid (h.asks ha.out), Lib.hid ⟨rdv_row hrow.out, fun _ k hk => ?_⟩, Lib.hid ⟨h9.out, hd.out, h40.out⟩, Lib.hid ha.out.1, Lib.hid fun k hk => (hrow.out.lt k hk).1⟩
  have hk' := (hrow.out.lt k hk).1
  have hx := h.st.lt
  exact ⟨⟨relab_new _ hk', by omega⟩, fun e => by have := (h.row.row.lt k e).2; omega⟩
/-- What was asked lies in a box, wherever that was made. -/
theorem LS.ask (h : LS w0 V Ls p xb mb own w sb L S K qs v) {K' : Nat} (ha : Asks xb V Ls K' w w') {a : AQ} (hr : RdV w' a.sl (ints a.q.prompt)) (hk : ∀ k, a.sl.ownBlock = some k → w.heap.size ≤ k) {gb : Nat} (hg : w.heap.size ≤ gb) :
    LS w0 V Ls p xb mb (relab own w.heap.size .other) w' sb L S K' qs v ∧ AQAt xb (relab own w.heap.size .other) w' v a ∧ Oth xb (relab own w.heap.size .other) gb := by
  have hx := h.st.lt
  refine ⟨h.asks ha, ⟨hr, fun _ k hkk => ⟨⟨relab_new _ (hk k hkk), by have := hk k hkk; omega⟩, fun e => ?_⟩⟩, relab_new _ hg, by omega⟩
  have h1 := (h.row.row.lt k e).2
  have h2 := hk k hkk
  omega
theorem RdV.far {v : Value} {xs : List Value} (h : RdV w v xs) {b : Nat} (hb : v.ownBlock ≠ some b) (o : Nat) (x : Value) : RdV (w.setCell ⟨b, o, none⟩ x) v xs := h.block fun k _ hv => Below.heap_setCell _ _ _ _ (show k ≠ b from fun e => hb (by rw [hv, e]))
theorem law_submit (h : LS w0 V Ls p xb mb own w sb L S K qs v) (hrec : S.records ≤ 10000) (a : AQ) (hq : AQAt xb own w v a) (h9 : a.q.id ≤ 9) (hd : a.q.deadline ≤ 100) :
    Calls Tryz.prog 13 #[.pointer (some ⟨sb, 0, none⟩), a.q.val a.A a.c] w fun e w' => ∃ r : Int, e = .returned (.int .i64 r) ∧ ∃ own' L' S', Hid (LS w0 V Ls p xb mb own' w' sb L' S' K qs v) ∧ Hid (Mv xb own w own' w') ∧ Hid (S'.now = S.now ∧ S'.records ≤ S.records + 1) ∧ Hid (r = 0 → 0 < a.q.prompt.length ∧ ∃ r', r' ∈ S'.reqs ∧ r'.sig = a.q.sig) := by
  have hf := h.inv.few
  have hacc : ∀ (own : Nat → Lb) (w : World), SrvAt own w sb L S → RdV w (.slice a.A a.q.prompt.length a.c) (ints a.q.prompt) → Calls Tryz.prog 32 #[.pointer (some ⟨sb, 0, none⟩), a.q.val a.A a.c] w fun e w' => e = .returned (.int .i64 (accAll S a.q)) ∧ ∃ own', SrvAt own' w' sb L S ∧ Ext own w own' w' Tloc := fun own w hs hr =>
    acc_any own sb L S a.q a.A a.c w hs (by rw [h.inv.voc]; decide) hr (by omega) h.inv.pn (by have := h.inv.wf.size0; have := h.inv.wf.size1; omega)
  by_cases hz : accAll S a.q = 0
  · have hok := askOk hz
    have hp0 := hok.p0
    rw [hz] at hacc
    obtain ⟨ti, tn, tr, treq⟩ := took_inv h.inv (by omega) hok h9 hd
    obtain ⟨A0, c0, hv, h1, h2, h3⟩ := hq.rd
    obtain ⟨b, o, hA, hc⟩ := h3 (by rw [ints_length]; omega)
    have hA' : a.A = some ⟨b, o, none⟩ := by injection hv with e1; rw [e1, hA]
    have hrd : RdO own w (.slice (some ⟨b, o, none⟩) a.q.prompt.length a.c) (ints a.q.prompt) := by
      rw [← hA']
      exact ⟨hq.rd, fun _ k hk => ((hq.oth (by omega) k hk).1).1⟩
    rw [hA'] at hacc ⊢
    refine (submit_ok own sb L S a.q b o a.c w h.srv hrd hacc ⟨by omega, hok.p1⟩ hok.new (loglen h.inv hrec)).mono ?_
    rintro e w' ⟨rfl, own', L', h', x⟩
    refine ⟨0, rfl, own', L', _, Lib.hid (h.go x Tin_other h' ti fun r hr => ⟨r, ?_, rfl⟩), Lib.hid (Mv.ext x Tin_other), Lib.hid ⟨tn, ?_⟩, Lib.hid fun _ => ⟨by omega, newReq a.q, ?_, rfl⟩⟩
    · show r ∈ (S.took a.q).reqs
      rw [treq]; exact List.mem_append_left _ hr
    · show (S.took a.q).records ≤ _
      omega
    · show newReq a.q ∈ (S.took a.q).reqs
      rw [treq]; simp
  · refine (submit_no own sb L S a.q a.A a.c _ hz w h.srv hq.rd hacc).mono ?_
    rintro e w' ⟨rfl, own', h', x⟩
    have hT : ¬ Tloc .other := fun e => by cases e
    exact ⟨_, rfl, own', L, S, Lib.hid (h.go x hT h' h.inv fun r hr => ⟨r, hr, rfl⟩), Lib.hid (Mv.ext x hT), Lib.hid ⟨rfl, by omega⟩, Lib.hid fun e => absurd e hz⟩
theorem law_wait (h : LS w0 V Ls p xb mb own w sb L S K qs v) :
    Calls Tryz.prog 15 #[.pointer (some ⟨sb, 0, none⟩)] w fun e w' => ∃ (ys : List Req) (A : Option Addr) (c : Nat), e = .returned (.slice A ys.length c) ∧ Opens S ys ∧ ∃ own', Hid (LS w0 V Ls p xb mb own' w' sb L S K qs v) := by
  refine (waiting_any own sb L S w h.srv (by have := h.inv.few; omega)).mono ?_
  rintro e w' ⟨ys, v', own', rfl, hy, h', ⟨⟨A, c, rfl, -⟩, -⟩, x⟩
  have hT : ¬ Tloc .other := fun e => by cases e
  refine ⟨ys, A, c, by simp [ints], hy, own', Lib.hid (h.go x hT h' h.inv fun r hr => ⟨r, hr, rfl⟩)⟩
end
end Go.Proofs.YtllpoaoboieijaaGreat
