/-
  models: Alone.
-/
import Derived.Test.YtdbhlkejfecffaaGreatDoorSa11
import Derived.Test.YtdbhlkejfecffaaGreatDoorSa17
/-
  models: Alone.
-/
namespace Go.Proofs.YtdbhlkejfecffaaGreatDoor
open Go.RowKit SteadyPlain

theorem infoSS : (Tryz.prog.info? 22).map (fun i => (i.zero, i.size, i.bytes)) = some (some (.slice none 0 0), 1, 24) := by kernel_rfl
def entVals (P : Nat → Pl) (LE k : Nat) : List Value := (List.range k).map fun i => Value.slice (some ⟨(P i).b, (P i).o, none⟩) LE (P i).c
theorem entVals_succ (P : Nat → Pl) (LE k : Nat) : entVals P LE (k + 1) = entVals P LE k ++ [Value.slice (some ⟨(P k).b, (P k).o, none⟩) LE (P k).c] := by simp [entVals, List.range_succ]
/-- A row of entries that grows. -/
structure EntRow (base : Nat) (w : World) (v : Value) (n : Nat) (E : List (List Int)) (LE : Nat) (P : Nat → Pl) : Prop where
  n_eq : n = E.length
  row : w.ownsRow base 22 1 v n (entVals P LE n)
  rd : ∀ i, i < n → RdAt w (P i).b (P i).o (P i).c (eAt E i)
  len : ∀ i, i < n → (eAt E i).length = LE
  ne : ∀ i, i < n → ∀ g, v.ownBlock = some g → (P i).b ≠ g
theorem EntRow.nil (base : Nat) (w : World) (LE : Nat) (P : Nat → Pl) : EntRow base w (.slice none 0 0) 0 [] LE P :=
  ⟨rfl, World.ownsRow_nil _ _ _ _, fun i h => absurd h (by omega), fun i h => absurd h (by omega), fun i h => absurd h (by omega)⟩
section
variable {base : Nat} {w w' w3 : World} {v : Value} {n LE : Nat} {E : List (List Int)} {P : Nat → Pl}
theorem EntRow.below (h : EntRow base w v n E LE P) (hb : Below w.heap.size w w') : EntRow base w' v n E LE P :=
  ⟨h.n_eq, ownsRow_below h.row hb, fun i hi => (h.rd i hi).below hb, h.len, h.ne⟩
theorem EntRow.ents {g c : Nat} (h : EntRow base w (.slice (some ⟨g, 0, none⟩) n c) n E LE P) : EntsAt w g 0 E LE P := by
  have hn := h.n_eq
  refine ⟨fun i hi => ?_, fun i hi => h.rd i (by omega), fun i hi => h.len i (by omega)⟩
  have hi' : i < n := by omega
  have := h.row.cells (g := g) rfl i (Value.slice (some ⟨(P i).b, (P i).o, none⟩) LE (P i).c) (by simp [entVals, hi'])
  rw [add_plain] at this
  exact this
def Pl.ins (P : Nat → Pl) (k : Nat) (q : Pl) : Nat → Pl := fun i => if i = k then q else P i
theorem entVals_ins (P : Nat → Pl) (LE k : Nat) (q : Pl) : entVals (Pl.ins P k q) LE k = entVals P LE k := by
  unfold entVals
  apply List.map_congr_left
  intro i hi
  rw [List.mem_range] at hi
  simp [Pl.ins, show i ≠ k by omega]
theorem eAt_old {E : List (List Int)} {e : List Int} {i : Nat} (h : i < E.length) : eAt (E ++ [e]) i = eAt E i := by simp [eAt, List.getD, List.getElem?_append_left h]
theorem eAt_new {E : List (List Int)} {e : List Int} {i : Nat} (h : i = E.length) : eAt (E ++ [e]) i = e := by subst h; simp [eAt, List.getD]
/-- One entry more. -/
theorem EntRow.app (h : EntRow base w v n E LE P) {g c : Nat} {e : List Int} (hr : RdAt w g 0 c e) (hl : e.length = LE) (hLE : 0 < LE) (hne : ∀ gr, v.ownBlock = some gr → g ≠ gr)
    (o : Obj) {g' cap : Nat} (h3 : w3.ownsRow base 22 1 (.slice (some ⟨g', 0, none⟩) (n + 1) cap) (n + 1) (entVals P LE n ++ [.slice (some ⟨g, 0, none⟩) LE c])) (hg : (w.alloc o).grownBy w3 v.ownBlock) (hat : v.ownBlock = some g' ∨ g' = (w.alloc o).heap.size) :
    EntRow base w3 (.slice (some ⟨g', 0, none⟩) (n + 1) cap) (n + 1) (E ++ [e]) LE (Pl.ins P n ⟨g, 0, c⟩) := by
  have hb : Below w.heap.size w (w.alloc o) := (Below.refl _ _).alloc (Nat.le_refl _) o
  have hgl := hr.lt (by omega)
  have hsz : w.heap.size ≤ (w.alloc o).heap.size := hb.size
  have hn := h.n_eq
  refine ⟨by rw [List.length_append, hn]; rfl, ?_, fun i hi => ?_, fun i hi => ?_, fun i hi gr hgr => ?_⟩
  · rw [entVals_succ, entVals_ins]
    simpa [Pl.ins] using h3
  · by_cases e : i = n
    · rw [eAt_new (by omega)]
      subst e
      simp only [Pl.ins, if_true]
      exact (hr.below hb).grown hg (fun e => hne g e.symm rfl)
    · rw [eAt_old (by omega)]
      simp only [Pl.ins, if_neg e]
      exact ((h.rd i (by omega)).below hb).grown hg (fun e2 => h.ne i (by omega) _ e2.symm rfl)
  · by_cases e : i = n
    · rw [eAt_new (by omega)]; exact hl
    · rw [eAt_old (by omega)]; exact h.len i (by omega)
  · have : g' = gr := by simpa [Value.ownBlock] using hgr
    subst this
    by_cases e : i = n
    · subst e
      simp only [Pl.ins, if_true]
      rcases hat with a | a
      · exact hne g' a
      · omega
    · simp only [Pl.ins, if_neg e]
      rcases hat with a | a
      · exact h.ne i (by omega) g' a
      · have := (h.rd i (by omega)).lt (by rw [h.len i (by omega)]; omega)
        omega
theorem EntRow.grown (h : EntRow base w v n E LE P) {row : Option Nat} (hg : w.grownBy w3 row) (h1 : ∀ g, v.ownBlock = some g → row ≠ some g) (h2 : ∀ i, i < n → row ≠ some (P i).b) : EntRow base w3 v n E LE P :=
  ⟨h.n_eq, ownsRow_grown h.row hg h1, fun i hi => (h.rd i hi).grown hg (fun e => h2 i hi e.symm), h.len, h.ne⟩
end
/-- A slice's block is none of those of a row of entries. -/
def ApartE (vo v : Value) (k : Nat) (P : Nat → Pl) : Prop := ∀ g, vo.ownBlock = some g → v.ownBlock ≠ some g ∧ ∀ i, i < k → (P i).b ≠ g
theorem ApartE.nil (v : Value) (k : Nat) (P : Nat → Pl) : ApartE (.slice none 0 0) v k P := fun g hg => by simp [Value.ownBlock] at hg
theorem ApartE.out {vo v : Value} {k : Nat} {P : Nat → Pl} (h : ApartE vo v k P) {N N' g' n c : Nat} (h1 : ∀ g, v.ownBlock = some g → g < N) (h2 : ∀ i, i < k → (P i).b < N) (hN : N ≤ N') (hat : vo.ownBlock = some g' ∨ g' = N') : ApartE (.slice (some ⟨g', 0, none⟩) n c) v k P := by
  intro g hg
  have : g' = g := by simpa [Value.ownBlock] using hg
  subst this
  rcases hat with a | a
  · exact h g' a
  · exact ⟨fun e => by have := h1 g' e; omega, fun i hi e => by have := h2 i hi; omega⟩
theorem ApartE.ent {vo v : Value} {k : Nat} {P : Nat → Pl} (h : ApartE vo v k P) {N N' g g' n c cc : Nat} (h1 : ∀ x, vo.ownBlock = some x → x < N) (hg : N ≤ g) (hN : N ≤ N') (hat : v.ownBlock = some g' ∨ g' = N') : ApartE vo (.slice (some ⟨g', 0, none⟩) n c) (k + 1) (Pl.ins P k ⟨g, 0, cc⟩) := by
  intro x hx
  have hxN := h1 x hx
  refine ⟨fun e => ?_, fun i hi => ?_⟩
  · have : g' = x := by simpa [Value.ownBlock] using e
    subst this
    rcases hat with a | a
    · exact (h g' hx).1 a
    · omega
  · by_cases e : i = k
    · subst e; simp only [Pl.ins, if_true]; omega
    · simp only [Pl.ins, if_neg e]; exact (h x hx).2 i (by omega)
theorem entL_len {m : MD} {W V T Q : Nat} (hd : m.Dim W V T Q) (t a : Nat) (ht : t < V) : (entL m W t a).length = lenE m W := by
  unfold entL lenE
  split
  · exact mkL_len _ _
  · exact xL_len hd t a ht
/-- A request as a value. -/
def reqC (id dl : Int) (pb po np pc : Nat) (most seed : Int) : List Value := [.int .i64 id, .int .i64 dl, .slice (some ⟨pb, po, none⟩) np pc, .int .i64 most, .int .i64 seed]
def nxF (m : MD) (W V : Nat) (seed : Int) (E : List (List Int)) (k : Nat) : Int := (tokI m W V E (drawI seed k) : Int)
def enF (m : MD) (W : Nat) (t : Int) (a : Nat) : List Int := entL m W t.toNat a
/-- The entries of the first tokens of a prompt. -/
def promE (m : MD) (W : Nat) (pr : List Int) : Nat → List (List Int)
  | 0 => []
  | k + 1 => promE m W pr k ++ [enF m W (pr.getD k 0) k]
theorem promE_len (m : MD) (W : Nat) (pr : List Int) (k : Nat) : (promE m W pr k).length = k := by
  induction k with
  | zero => rfl
  | succ k ih => rw [promE, List.length_append, ih]; rfl
/-- The tokens of a request. -/
def toksOf (m : MD) (W V : Nat) (pr : List Int) (seed : Int) (most : Nat) : List Int := gen (nxF m W V seed) (enF m W) most 0 (promE m W pr pr.length)
theorem gen_stop {nx : List (List Int) → Nat → Int} {en : Int → Nat → List Int} {n k : Nat} {E : List (List Int)} (h : nx E k = 0) : gen nx en (n + 1) k E = [0] := by rw [gen, if_pos h]
theorem gen_last {nx : List (List Int) → Nat → Int} {en : Int → Nat → List Int} {k : Nat} {E : List (List Int)} : gen nx en 1 k E = [nx E k] := by
  rw [gen]; split
  · rename_i h; rw [h]
  · rfl
theorem gen_more {nx : List (List Int) → Nat → Int} {en : Int → Nat → List Int} {n k : Nat} {E : List (List Int)} (h : nx E k ≠ 0) : gen nx en (n + 1) k E = nx E k :: gen nx en n (k + 1) (E ++ [en (nx E k) E.length]) := by rw [gen, if_neg h]

set_option maxRecDepth 100000 in
set_option maxHeartbeats 6400000 in
theorem alone_any (m : MD) (p : MPl) (W V T Q : Nat) (hm : m.Ok) (hd : m.Dim W V T Q) (id dl seed : Int) (most : Nat) (pr : List Int) (pb po pc np : Nat) (hnp : np = pr.length) (hp0 : 1 ≤ np) (hp1 : np ≤ 32) (hmo : 1 ≤ most ∧ most ≤ 32) (hse : -2147483648 ≤ seed ∧ seed ≤ 2147483647) (hin : ∀ t, t ∈ pr → 0 ≤ t ∧ t < V)
    (w : World) (h : ModAt w m p) (hr : RdAt w pb po pc pr) :
    Calls Tryz.prog 8 #[.agg (modV m p W).toArray, .agg (reqC id dl pb po np pc most seed).toArray] w fun e w' => ∃ v, e = .returned (.tuple #[v, .int .i64 0]) ∧ Hid (Below w.heap.size w w') ∧ Hid (w'.ownsRow w.heap.size 3 1 v (toksOf m W V pr seed most).length (ints (toksOf m W V pr seed most))) := by
  obtain ⟨wb, hwb, hbel, hblk⟩ : ∃ wb, w.alloc (.cells (modV m p W).toArray 27) = wb ∧ Below w.heap.size w wb ∧ Blk wb w.heap.size (modV m p W) 27 := ⟨_, rfl, (Below.refl _ _).alloc (Nat.le_refl _) _, heap_alloc_new w _⟩
  obtain ⟨wc, hwc, hbel2, hblk2⟩ : ∃ wc, wb.alloc (.cells (reqC id dl pb po np pc most seed).toArray 32) = wc ∧ Below wb.heap.size wb wc ∧ Blk wc wb.heap.size (reqC id dl pb po np pc most seed) 32 := ⟨_, rfl, (Below.refl _ _).alloc (Nat.le_refl _) _, heap_alloc_new wb _⟩
  have HQ := Lib.hid (fun (wx : World) (hb : Below wc.heap.size wc wx) => ((hblk.below hbel2).below hb).cell)
  have HQ2 := Lib.hid (fun (wx : World) (hb : Below wc.heap.size wc wx) => (hblk2.below hb).cell)
  have q0 := (hblk.below hbel2).cell
  have q1 := hblk2.cell
  have hdc := (h.below hbel).below hbel2
  have HB := Lib.hid (hbel.trans (hbel2.mono hbel.size))
  have HD := Lib.hid hdc
  have HDM := Lib.hid hd
  have HR := Lib.hid ((hr.below hbel).below hbel2)
  have HC := Lib.hid (show Calls Tryz.prog 16 #[.agg (modV m p W).toArray] wc fun e w' => e = .returned (.int .i64 0) ∧ Hid (Below wc.heap.size wc w') from by
    have := check_ok m p.mp hm wc hdc.mat
    rw [modC_mp, modC_V hd] at this; exact this)
  have HEY := Lib.hid (fun (wx : World) (hb : Below wc.heap.size wc wx) (t a : Nat) (ht : t < V) (ha : a < 1000) => (by
    have := mentry_any m p W V T Q hm hd t a ht ha wx (hdc.below hb)
    rw [modC_V hd] at this; exact this : Calls Tryz.prog 20 #[.agg (modV m p W).toArray, .int .i64 t, .int .i64 a] wx fun e w' => ∃ g c, e = .returned (.slice (some ⟨g, 0, none⟩) (lenE m W) c) ∧ Hid (Below wx.heap.size wx w') ∧ Hid (RdAt w' g 0 c (entL m W t a) ∧ wx.heap.size ≤ g)))
  have HIN := Lib.hid hin
  have hw1 := hd.w1
  have hv1 := hd.v1
  have HALL := Lib.hid (fun (wx : World) (hx : RdAt wx pb po pc pr) => all_ok pr 0 ((V : Int) - 1) (fun x hx => by have := hin x hx; omega) (some ⟨pb, po, none⟩) np pc wx (by rw [hnp]; exact hx.rd) hnp (by omega))
  have HNX := Lib.hid (fun (wx : World) (hb : Below wc.heap.size wc wx) (g c n : Nat) (E : List (List Int)) (P : Nat → Pl) (hn : n = E.length) (h0 : 0 < n) (hn2 : n ≤ 64) (dr : Int) (hdr : 0 ≤ dr ∧ dr ≤ 4294967295) (he : EntsAt wx g 0 E (lenE m W) P) => next_any m p W V T Q hm hd g 0 c n E P hn h0 hn2 dr hdr wx (hdc.below hb) he)
  have HTL := Lib.hid (fun E k => tokI_lt hm W V (by omega) E (drawI seed k) (by have := drawI_in seed k; omega))
  have HLE := Lib.hid (show 0 < lenE m W by unfold lenE; split <;> omega)
  have HEL := Lib.hid (fun t a ht => entL_len hd t a ht)
  have hvv := hd.vocab
  have HN := Lib.hid hnp
  have t1 : (1 : Int) ≤ (most : Int) ∧ (most : Int) ≤ 32 := by omega
  have t2 : (1 : Int) ≤ (np : Int) ∧ (np : Int) ≤ 32 := by omega
  have HT1 := Lib.hid t1
  have HT2 := Lib.hid t2
  have HT3 := Lib.hid hse
  obtain ⟨LE, hLE⟩ : ∃ LE, LE = lenE m W := ⟨_, rfl⟩
  rw [← hLE] at HEY HNX HLE HEL
  have HOUT := Lib.hid (show toksOf m W V pr seed most = gen (nxF m W V seed) (enF m W) most 0 (promE m W pr np) by unfold toksOf; rw [hnp])
  simp only [modV, reqC, hvv] at q0 q1 HQ HQ2 HC HEY HNX hwb hwc ⊢
  clear hbel hblk h hbel2 hblk2 hr hin hdc hd hm hvv hnp t1 t2 hse hLE
  go_enter Tryz.func8, Tryz.ntmps8
  go_upto_region 10 with (first | (go_at_call 19; have _g := HB1; clear _g; refine (HALL.out w1 (HR.out.below HB1.out)).mono ?_; rintro e w2 ⟨rfl, HB2'⟩; have HB2 := Lib.hid (HB1.out.trans (HB2'.out.mono HB1.out.size)); have r0 := HQ.out _ HB2.out; have r1 := HQ2.out _ HB2.out) | (go_at_call 16; refine HC.out.mono ?_; rintro e w1 ⟨rfl, HB1⟩; have p0 := HQ.out _ HB1.out; have p1 := HQ2.out _ HB1.out) | (go_at_call 17; refine (mwithin_yes _ _ _ (by first | exact HT1.out | exact HT2.out) _).mono ?_; rintro e wz ⟨rfl, hz⟩; subst wz) | (go_at_call 18; refine (mword_yes _ HT3.out _).mono ?_; rintro e wz ⟨rfl, hz⟩; subst wz))
  obtain ⟨i0, hi, hz0, hz1, hz2⟩ := info_parts infoSS
  clear p0 p1 q0 q1
  go_wp2
  go_loopg [7, 47] np (fun gk s7 s47 wx => ∃ (k : Nat) (P : Nat → Pl), s47 = .int .i64 k ∧ k ≤ np ∧ Hid (Below wc.heap.size wc wx) ∧ Hid (EntRow wc.heap.size wx s7 k (promE m W pr k) LE P) ∧ gk = np - k)
  case atStart => exact ⟨0, fun _ => ⟨0, 0, 0⟩, rfl, Nat.zero_le _, HB2, Lib.hid (EntRow.nil _ _ _ _), rfl⟩
  case round =>
    obtain ⟨k, P, rfl, hk, HB3, HE3, rfl⟩ := hrel
    have d0 := HQ.out wr HB3.out
    have d1 := HQ2.out wr HB3.out
    obtain ⟨A4, c4, hv4⟩ := ownsRow_shape HE3.out.row
    subst hv4
    clear r0 r1
    by_cases hlt : k < np
    · have ct := (HR.out.below HB3.out).2.2 k (by rw [← HN.out]; exact hlt)
      have htk := HIN.out _ (getD_mem (l := pr) (i := k) (by rw [← HN.out]; exact hlt))
      obtain ⟨t, ht⟩ : ∃ t : Nat, pr.getD k 0 = (t : Int) := ⟨(pr.getD k 0).toNat, by omega⟩
      have HEK := Lib.hid (show promE m W pr (k + 1) = promE m W pr k ++ [entL m W t k] by rw [promE, ht]; rfl)
      rw [ht] at ct htk
      have htV : t < V := by omega
      have HTV := Lib.hid htV
      have hb1 : k + 1 ≤ maxLen := by unfold maxLen; omega
      have hb2 : (k + 1) * 24 ≤ 140737488355328 := by omega
      have hka : k < 1000 := by omega
      clear ht htV
      go_wp2_with (first | (at_builtin; refine wpList_append_lies _ rfl _ _ 47 rfl wc.heap.size 22 i0 (.slice none 0 0) 1 24 Tryz.underlying47 hi hz0 hz1 hz2 rfl (by decide) _ k _ rfl (ownsRow_below HE4.out.row (Below.alloc (Below.refl _ _) (Nat.le_refl _) _)) ⟨w4.heap.size, 0, none⟩ 1 1 [.slice (some ⟨g2, 0, none⟩) LE c2] rfl rfl (news1' _ _ _) (one_slice _ _ _) Nat.one_pos hb1 hb2 (Nat.le_trans HB4.out.size (alloc_le _ _)) _ rfl ?_; intro g3 cap3 w5 hown3 hgrow3 hat3 hlt3; have HE5 := Lib.hid (EntRow.app HE4.out HR4.out.1 (HEL.out t k HTV.out) HLE.out (fun gr hgr => by have := (HE3.out.row.lt gr hgr).2; have := HR4.out.2; omega) _ hown3 hgrow3 hat3); have HB5 := Lib.hid (Below.trans (HB4.out.alloc HB4.out.size _) (Below.ofGrown hgrow3 (Nat.le_trans HB4.out.size (alloc_le _ _)) (ownsRow_base HE3.out.row))); clear hown3 hgrow3 hat3 hlt3) | (go_at_call 20; refine (HEY.out wr HB3.out t k HTV.out hka).mono ?_; rintro e w4 ⟨g2, c2, rfl, HB4', HR4⟩; have HB4 := Lib.hid (HB3.out.trans (HB4'.out.mono HB3.out.size)); have HE4 := Lib.hid (HE3.out.below HB4'.out)))
      go_roundg (np - (k + 1))
      case measure => omega
      case rel => exact ⟨k + 1, _, by go_num, by omega, HB5, Lib.hid (by rw [HEK.out]; exact HE5.out), rfl⟩
    · obtain rfl : np = k := by omega
      obtain ⟨nx, hnx⟩ : ∃ nx, nx = nxF m W V seed := ⟨_, rfl⟩
      obtain ⟨en, hen⟩ : ∃ en, en = enF m W := ⟨_, rfl⟩
      have HNXF := Lib.hid (fun E (k : Nat) => show nx E k = ((tokI m W V E (drawI seed k) : Nat) : Int) by rw [hnx]; rfl)
      have HENF := Lib.hid (fun (t a : Nat) => show en (t : Int) a = entL m W t a by rw [hen]; rfl)
      rw [← hnx, ← hen] at HOUT
      generalize promE m W pr np = E0 at *
      obtain ⟨R, hR⟩ : ∃ R, R = toksOf m W V pr seed most := ⟨_, rfl⟩
      rw [← hR] at HOUT
      have HRR := Lib.hid hR
      clear hnx hen hR
      have hmo1 : 0 < most := hmo.1
      go_wp2
      go_loopg [7, 10, 62] most (fun gk s7 s10 s62 wx => ∃ (j : Nat) (P : Nat → Pl) (E : List (List Int)) (out : List Int), s62 = .int .i64 j ∧ j < most ∧ Hid (Below wc.heap.size wc wx) ∧ Hid (EntRow wc.heap.size wx s7 (np + j) E LE P) ∧ Hid (wx.ownsRow wc.heap.size 3 1 s10 j (ints out)) ∧ Hid (ApartE s10 s7 (np + j) P) ∧ Hid (out.length = j ∧ R = out ++ gen nx en (most - j) j E) ∧ gk = most - j)
      case atStart => exact ⟨0, P, E0, [], rfl, hmo1, HB3, HE3, Lib.hid (World.ownsRow_nil _ _ _ _), Lib.hid (ApartE.nil _ _ _), Lib.hid ⟨rfl, by rw [HOUT.out]; rfl⟩, rfl⟩
      case round =>
        obtain ⟨j, P2, E, out, rfl, hj, HB6, HE6, HO6, HA6, HG6, rfl⟩ := hrel
        have e0 := HQ.out wr HB6.out
        have e1 := HQ2.out wr HB6.out
        clear d0 d1
        obtain ⟨A7, c7, hv7⟩ := ownsRow_shape HE6.out.row
        subst hv7
        obtain ⟨g7, hA7⟩ : ∃ g7, A7 = some ⟨g7, 0, none⟩ := by
          rcases HE6.out.row.2 with ⟨hv, hz⟩ | ⟨g, cap, cur, hv, -⟩
          · omega
          · injection hv with a; exact ⟨g, a⟩
        subst hA7
        obtain ⟨A10, c10, hv10⟩ := ownsRow_shape HO6.out
        subst hv10
        have HNE := Lib.hid HE6.out.n_eq
        have HES := Lib.hid HE6.out.ents
        have HNX1 := Lib.hid (fun (wx : World) (hb : Below wr.heap.size wr wx) => HNX.out wx (HB6.out.trans (hb.mono HB6.out.size)) g7 c7 (np + j) E P2 HNE.out (by omega) (by omega) (drawI seed j) (by have := drawI_in seed j; omega) (by have := HES.out.below hb; exact this))
        have HS := Lib.hid (fun (wx : World) (hb : Below wc.heap.size wc wx) => And.intro (HQ.out wx hb) (HQ2.out wx hb))
        have HTV := Lib.hid (HTL.out E j)
        have HXF := Lib.hid (HNXF.out E j)
        generalize tokI m W V E (drawI seed j) = t at *
        have tj : (j : Int) < (most : Int) := by omega
        have tj' : decide ((j : Int) < (most : Int)) = true := decide_eq_true tj
        go_upto_region 20 with fail
        go_region_held3 (fun wy : World => (∀ o, wy.cell? ⟨w.heap.size, o, none⟩ = ([Value.int .i64 m.kind, .int .i64 V, .int .i64 W, .int .i64 m.top, .slice (some ⟨p.cuts.b, p.cuts.o, none⟩) 4 p.cuts.c, .slice (some ⟨p.embed.b, p.embed.o, none⟩) m.embed.length p.embed.c, .slice (some ⟨p.place.b, p.place.o, none⟩) m.place.length p.place.c, .slice (some ⟨p.mix.b, p.mix.o, none⟩) m.mix.length p.mix.c, .slice (some ⟨p.out.b, p.out.o, none⟩) m.out.length p.out.c, .slice (some ⟨p.soft.b, p.soft.o, none⟩) m.soft.length p.soft.c, .slice (some ⟨p.odds.b, p.odds.o, none⟩) m.odds.length p.odds.c] : List Value)[o]?) ∧ (∀ o, wy.cell? ⟨wb.heap.size, o, none⟩ = ([Value.int .i64 id, .int .i64 dl, .slice (some ⟨pb, po, none⟩) np pc, .int .i64 most, .int .i64 seed] : List Value)[o]?)) (first | exact HS.out _ HB7.out | exact HS.out _ HB6.out.drew) (first
          | (go_at_call 22; refine (draw_any _ _ _).mono ?_; rintro e wz ⟨rfl, hz⟩; subst wz; dsimp only)
          | (go_at_call 21; refine (HNX1.out _ (Below.refl _ _).drew).mono ?_; rintro e w7 ⟨rfl, hb7⟩; have HB67 := Lib.hid (below_undrew hb7); have HB7 := Lib.hid (HB6.out.trans (HB67.out.mono HB6.out.size)); clear hb7; dsimp only))
        have HE7 := Lib.hid (HE6.out.below HB67.out)
        have HO7 := Lib.hid (ownsRow_below HO6.out HB67.out)
        obtain ⟨i1, hi', hz0', hz1', hz2'⟩ := info_parts info3
        have hb1 : j + 1 ≤ maxLen := by unfold maxLen; omega
        have hb2 : (j + 1) * 8 ≤ 140737488355328 := by omega
        have hb3 : np + j + 1 ≤ maxLen := by unfold maxLen; omega
        have hb4 : (np + j + 1) * 24 ≤ 140737488355328 := by omega
        clear e0 e1
        go_upto_region 22 with (at_builtin; refine wpList_append_lies _ rfl _ _ 22 rfl wc.heap.size 3 i1 (.int .i64 0) 1 8 Tryz.underlying22 hi' hz0' hz1' hz2' rfl (by decide) _ j _ rfl (ownsRow_below HO7.out (Below.alloc (Below.refl _ _) (Nat.le_refl _) _)) ⟨w7.heap.size, 0, none⟩ 1 1 [.int .i64 t] rfl rfl (news1' _ _ _) (one_int _ _) Nat.one_pos hb1 hb2 (Nat.le_trans HB7.out.size (alloc_le _ _)) _ rfl ?_; intro g8 cap8 w8 hown8 hgrow8 hat8 hlt8; have HO8 := Lib.hid (show w8.ownsRow wc.heap.size 3 1 (.slice (some ⟨g8, 0, none⟩) (j + 1) cap8) (j + 1) (ints (out ++ [(t : Int)])) by rw [ints, List.map_append]; exact hown8); have HB8 := Lib.hid (Below.trans (HB7.out.alloc HB7.out.size _) (Below.ofGrown hgrow8 (Nat.le_trans HB7.out.size (alloc_le _ _)) (ownsRow_base HO7.out))); have HE8 := Lib.hid ((HE7.out.below (Below.alloc (Below.refl _ _) (Nat.le_refl _) _)).grown hgrow8 (fun g hg e => (HA6.out g e).1 hg) (fun i hi e => (HA6.out _ e).2 i hi rfl)); have HA8 := Lib.hid (ApartE.out HA6.out (N := w7.heap.size) (n := j + 1) (c := cap8) (fun g hg => (HE7.out.row.lt g hg).2) (fun i hi => (HE7.out.rd i hi).lt (by rw [HE7.out.len i hi]; exact HLE.out)) (alloc_le _ _) hat8); clear hown8 hgrow8 hat8 hlt8)
        have r0 := HQ.out _ HB8.out
        have r1 := HQ2.out _ HB8.out
        have hmj : most - j = most - (j + 1) + 1 := by omega
        by_cases h0 : t = 0
        · have b0 : ((t : Int) == 0) = true := by simp [h0]
          have HST := Lib.hid (show R = out ++ [(t : Int)] ∧ R.length = j + 1 from by
            have : R = out ++ [(t : Int)] := by rw [HG6.out.2, hmj, gen_stop (by rw [HXF.out, h0]; rfl), h0]; rfl
            exact ⟨this, by rw [this, List.length_append, HG6.out.1]; rfl⟩)
          clear h0 hmj
          go_wp2
          go_ret2
          refine ⟨_, rfl, Lib.hid (HB.out.trans (HB8.out.mono HB.out.size)), Lib.hid ?_⟩
          rw [← HRR.out, HST.out.2, HST.out.1]
          exact ownsRow_mono HO8.out HB.out.size
        · have b0 : ((t : Int) == 0) = false := by simp; omega
          have w1' : IntKind.i64.wrap ((j : Int) + 1) = (j : Int) + 1 := IntWalk.i64_in _ (by omega)
          by_cases hm1 : j + 1 = most
          · have b1 : ((j : Int) + 1 == (most : Int)) = true := by simp; omega
            have HST := Lib.hid (show R = out ++ [(t : Int)] ∧ R.length = j + 1 from by
              have : R = out ++ [(t : Int)] := by rw [HG6.out.2, hmj, show most - (j + 1) = 0 by omega, gen_last, HXF.out]
              exact ⟨this, by rw [this, List.length_append, HG6.out.1]; rfl⟩)
            clear h0 hm1 hmj
            go_wp2
            go_ret2
            refine ⟨_, rfl, Lib.hid (HB.out.trans (HB8.out.mono HB.out.size)), Lib.hid ?_⟩
            rw [← HRR.out, HST.out.2, HST.out.1]
            exact ownsRow_mono HO8.out HB.out.size
          · have b1 : ((j : Int) + 1 == (most : Int)) = false := by simp; omega
            have HGN := Lib.hid (show (out ++ [(t : Int)]).length = j + 1 ∧ R = (out ++ [(t : Int)]) ++ gen nx en (most - (j + 1)) (j + 1) (E ++ [entL m W t (np + j)]) from
              ⟨by rw [List.length_append, HG6.out.1]; rfl, by rw [HG6.out.2, hmj, gen_more (by rw [HXF.out]; omega), HXF.out, HENF.out, ← HNE.out, List.append_assoc]; rfl⟩)
            have hm2 : j + 1 < most := by omega
            have HM2 := Lib.hid hm2
            have hka : np + j < 1000 := by omega
            have heyy := HEY.out w8 HB8.out t (np + j) HTV.out hka
            rw [show ((np + j : Nat) : Int) = (np : Int) + (j : Int) by omega] at heyy
            have HEYY := Lib.hid heyy
            clear h0 hm1 hm2 heyy hmj
            go_wp2_with (first | (at_builtin; refine wpList_append_lies _ rfl _ _ 47 rfl wc.heap.size 22 i0 (.slice none 0 0) 1 24 Tryz.underlying47 hi hz0 hz1 hz2 rfl (by decide) _ (np + j) _ rfl (ownsRow_below HE9.out.row (Below.alloc (Below.refl _ _) (Nat.le_refl _) _)) ⟨w9.heap.size, 0, none⟩ 1 1 [.slice (some ⟨g2, 0, none⟩) LE c2] rfl rfl (news1' _ _ _) (one_slice _ _ _) Nat.one_pos hb3 hb4 (Nat.le_trans HB9.out.size (alloc_le _ _)) _ rfl ?_; intro g3 cap3 w5 hown3 hgrow3 hat3 hlt3; have HE5 := Lib.hid (EntRow.app HE9.out HR9.out.1 (HEL.out t (np + j) HTV.out) HLE.out (fun gr hgr => by have := (HE8.out.row.lt gr hgr).2; have := HR9.out.2; omega) _ hown3 hgrow3 hat3); have HB5 := Lib.hid (Below.trans (HB9.out.alloc HB9.out.size _) (Below.ofGrown hgrow3 (Nat.le_trans HB9.out.size (alloc_le _ _)) (ownsRow_base HE8.out.row))); have HO5 := Lib.hid (ownsRow_grown (ownsRow_below HO9.out (Below.alloc (Below.refl _ _) (Nat.le_refl _) _)) hgrow3 (fun g hg e => (HA8.out g hg).1 e)); have HA5 := Lib.hid (ApartE.ent HA8.out (N := w8.heap.size) (n := np + j + 1) (c := cap3) (cc := c2) (fun x hx => (HO8.out.lt x hx).2) HR9.out.2 (Nat.le_trans HB89.out.size (alloc_le _ _)) hat3); clear hown3 hgrow3 hat3 hlt3) | (go_at_call 20; refine HEYY.out.mono ?_; rintro e w9 ⟨g2, c2, rfl, HB89, HR9⟩; have HB9 := Lib.hid (HB8.out.trans (HB89.out.mono HB8.out.size)); have HE9 := Lib.hid (HE8.out.below HB89.out); have HO9 := Lib.hid (ownsRow_below HO8.out HB89.out)))
            go_roundg (most - (j + 1))
            case measure => omega
            case rel => exact ⟨j + 1, _, _, _, by go_num, HM2.out, HB5, HE5, HO5, HA5, HGN, rfl⟩
end Go.Proofs.YtdbhlkejfecffaaGreatDoor
