/-
  The memory of a server: who owns which block, and how the world may go on.
  A server as plain data, and how it lies in memory.
-/
import Derived.BigQuiet
import Derived.Deep.DeepCutAuto
import Derived.Deep.DeepFit
import Derived.Deep.QuietTactic
import Derived.Lib.Hide
import Derived.StillTailTactics
import Derived.Test.YtllpoaoboieijaaGreatRows
import Derived.WalkKit
import Derived.WalkLawsBesides
import Derived.WalkSpells
/-
  The memory of a server: who owns which block, and how the world may go on.
-/
namespace Go.Proofs.YtllpoaoboieijaaGreat
open Go.RowKit

/-- Whose block it is. -/
inductive Lb where
  | other
  | loc
  | srv
  | mp
  | pgs
  | log
  | mdl
  | req (i : Int)
  | tok (i : Int)
  | hold (i : Int)
  | prm (i : Int)
  | ptok (k : Nat)

/-- From world w to world w' only blocks of the owners T were written; new blocks have owners of their own. -/
structure Ext (own : Nat → Lb) (w : World) (own' : Nat → Lb) (w' : World) (T : Lb → Prop) : Prop where
  os : w'.os = w.os
  tape : w'.tape = w.tape
  output : w'.output = w.output
  size : w.heap.size ≤ w'.heap.size
  lab : ∀ b, b < w.heap.size → own' b = own b
  keep : ∀ b, b < w.heap.size → ¬ T (own b) → w'.heap[b]? = w.heap[b]?

theorem Ext.refl (own : Nat → Lb) (w : World) (T : Lb → Prop) : Ext own w own w T := ⟨rfl, rfl, rfl, Nat.le_refl _, fun _ _ => rfl, fun _ _ _ => rfl⟩
theorem Ext.trans {o1 o2 o3 : Nat → Lb} {w1 w2 w3 : World} {T : Lb → Prop} (h : Ext o1 w1 o2 w2 T) (k : Ext o2 w2 o3 w3 T) : Ext o1 w1 o3 w3 T :=
  ⟨k.os.trans h.os, k.tape.trans h.tape, k.output.trans h.output, Nat.le_trans h.size k.size,
   fun b hb => (k.lab b (Nat.lt_of_lt_of_le hb h.size)).trans (h.lab b hb),
   fun b hb ht => (k.keep b (Nat.lt_of_lt_of_le hb h.size) (by rw [h.lab b hb]; exact ht)).trans (h.keep b hb ht)⟩
theorem Ext.mono {o1 o2 : Nat → Lb} {w1 w2 : World} {T T' : Lb → Prop} (h : Ext o1 w1 o2 w2 T) (ht : ∀ l, T l → T' l) : Ext o1 w1 o2 w2 T' :=
  ⟨h.os, h.tape, h.output, h.size, h.lab, fun b hb hn => h.keep b hb (fun x => hn (ht _ x))⟩
theorem Ext.drewN {o1 o2 : Nat → Lb} {w1 w2 : World} {T : Lb → Prop} (h : Ext o1 w1 o2 w2 T) (n : Nat) : Ext o1 w1 o2 (w2.drewN n) T := ⟨h.os, h.tape, h.output, h.size, h.lab, h.keep⟩
theorem Ext.drew {o1 o2 : Nat → Lb} {w1 w2 : World} {T : Lb → Prop} (h : Ext o1 w1 o2 w2 T) : Ext o1 w1 o2 w2.drew T := ⟨h.os, h.tape, h.output, h.size, h.lab, h.keep⟩
/-- New blocks get the owner l. -/
def relab (own : Nat → Lb) (n : Nat) (l : Lb) : Nat → Lb := fun b => if b < n then own b else l
theorem relab_old {own : Nat → Lb} {n b : Nat} (l : Lb) (h : b < n) : relab own n l b = own b := by simp [relab, h]
theorem relab_new {own : Nat → Lb} {n b : Nat} (l : Lb) (h : n ≤ b) : relab own n l b = l := by simp [relab]; omega
theorem Ext.below {own : Nat → Lb} {w w' : World} (h : Below w.heap.size w w') (T : Lb → Prop) (l : Lb) : Ext own w (relab own w.heap.size l) w' T :=
  ⟨h.os, h.tape, h.output, h.size, fun _ hb => relab_old _ hb, fun b hb _ => h.block b hb⟩
theorem Ext.alloc {own : Nat → Lb} {w : World} (o : Obj) (T : Lb → Prop) (l : Lb) : Ext own w (relab own w.heap.size l) (w.alloc o) T :=
  Ext.below ((Below.refl _ _).alloc (Nat.le_refl _) o) T l
theorem Ext.setCell {own : Nat → Lb} {w : World} {T : Lb → Prop} (p : Addr) (v : Value) (ht : T (own p.block)) : Ext own w own (w.setCell p v) T :=
  ⟨rfl, rfl, rfl, by simp [World.setCell], fun _ _ => rfl, fun b _ hn => Below.heap_setCell _ _ _ _ (fun e => hn (by rw [e]; exact ht))⟩
theorem Ext.grown {own : Nat → Lb} {w w' : World} {T : Lb → Prop} {row : Option Nat} (hg : w.grownBy w' row) (l : Lb) (ht : ∀ k, row = some k → T (own k)) : Ext own w (relab own w.heap.size l) w' T :=
  ⟨hg.os, hg.tape, hg.output, hg.size, fun _ hb => relab_old _ hb, fun b hb hn => hg.block b hb (fun e => hn (ht b e.symm))⟩

/-- A block that is known whole. -/
def Blk (w : World) (b : Nat) (l : List Value) (t : TypeId) : Prop := w.heap[b]? = some (.cells l.toArray t (0, 0))
theorem Blk.cell {w : World} {b : Nat} {l : List Value} {t : TypeId} (h : Blk w b l t) (o : Nat) : w.cell? ⟨b, o, none⟩ = l[o]? := by
  unfold Blk at h; simp [World.cell?, h]
theorem Blk.frozen {w : World} {b : Nat} {l : List Value} {t : TypeId} (h : Blk w b l t) (o : Nat) : w.frozen? ⟨b, o, none⟩ = false := by
  unfold Blk at h; simp [World.frozen?, h]
theorem Blk.lt {w : World} {b : Nat} {l : List Value} {t : TypeId} (h : Blk w b l t) : b < w.heap.size := by
  unfold Blk at h; rcases Nat.lt_or_ge b w.heap.size with h1 | h1
  · exact h1
  · simp [Array.getElem?_eq_none h1] at h
theorem Blk.set {w : World} {b : Nat} {l : List Value} {t : TypeId} (h : Blk w b l t) (o : Nat) (v : Value) : Blk (w.setCell ⟨b, o, none⟩ v) b (l.set o v) t := by
  unfold Blk at h ⊢
  simp [World.setCell, Array.getElem?_modify, h]
theorem Blk.far {w : World} {b : Nat} {l : List Value} {t : TypeId} (h : Blk w b l t) {p : Addr} (hne : b ≠ p.block) (v : Value) : Blk (w.setCell p v) b l t := by
  unfold Blk at h ⊢
  rw [Below.heap_setCell _ _ _ _ hne]; exact h
theorem Blk.alloc {w : World} {b : Nat} {l : List Value} {t : TypeId} (h : Blk w b l t) (o : Obj) : Blk (w.alloc o) b l t := by
  have := h.lt; unfold Blk at h ⊢
  rw [Below.heap_alloc _ _ _ this]; exact h
theorem Blk.drewN {w : World} {b : Nat} {l : List Value} {t : TypeId} (h : Blk w b l t) (n : Nat) : Blk (w.drewN n) b l t := h
theorem Blk.drew {w : World} {b : Nat} {l : List Value} {t : TypeId} (h : Blk w b l t) : Blk w.drew b l t := h
theorem Blk.ext {o1 o2 : Nat → Lb} {w w' : World} {T : Lb → Prop} (e : Ext o1 w o2 w' T) {b : Nat} {l : List Value} {t : TypeId} (h : Blk w b l t) (ht : ¬ T (o1 b)) : Blk w' b l t := by
  have := h.lt; unfold Blk at h ⊢
  rw [e.keep b this ht]; exact h

theorem Blk.grown {w w' : World} {row : Option Nat} (hg : w.grownBy w' row) {b : Nat} {l : List Value} {t : TypeId} (h : Blk w b l t) (hne : some b ≠ row) : Blk w' b l t := by
  have := h.lt; unfold Blk at h ⊢
  rw [hg.block b this hne]; exact h
theorem Blk.below {w w' : World} (hb : Below w.heap.size w w') {b : Nat} {l : List Value} {t : TypeId} (h : Blk w b l t) : Blk w' b l t := by
  have := h.lt; unfold Blk at h ⊢
  rw [hb.block b this]; exact h
/-- A slice that its owner alone writes. -/
def Owns (own : Nat → Lb) (lb : Lb) (w : World) (e : TypeId) (size : Nat) (v : Value) (n : Nat) (xs : List Value) : Prop :=
  w.ownsRow 0 e size v n xs ∧ ∀ k, v.ownBlock = some k → own k = lb
theorem Owns.ext {o1 o2 : Nat → Lb} {lb : Lb} {w w' : World} {T : Lb → Prop} (x : Ext o1 w o2 w' T) {e : TypeId} {size : Nat} {v : Value} {n : Nat} {xs : List Value}
    (h : Owns o1 lb w e size v n xs) (ht : ¬ T lb) : Owns o2 lb w' e size v n xs := by
  obtain ⟨h1, h2⟩ := h
  have hlt := h1.lt
  refine ⟨⟨h1.1, ?_⟩, fun k hk => by rw [x.lab k (hlt k hk).2]; exact h2 k hk⟩
  rcases h1.2 with h | ⟨g, cap, cur, hv, h3, h4, h5, h6, h7, h8⟩
  · exact .inl h
  · have hg : v.ownBlock = some g := by rw [hv]; rfl
    refine .inr ⟨g, cap, cur, hv, h3, ?_, h5, h6, h7, h8⟩
    rw [x.keep g (hlt g hg).2 (by rw [h2 g hg]; exact ht)]; exact h4
theorem Owns.nil (own : Nat → Lb) (lb : Lb) (w : World) (e : TypeId) (size : Nat) : Owns own lb w e size (.slice none 0 0) 0 [] :=
  ⟨World.ownsRow_nil w 0 e size, fun k hk => by simp [Value.ownBlock] at hk⟩

def ints (l : List Int) : List Value := l.map (Value.int .i64)
theorem ints_length (l : List Int) : (ints l).length = l.length := by simp [ints]
end Go.Proofs.YtllpoaoboieijaaGreat
/-
  A server as plain data, and how it lies in memory.
-/
namespace Go.Proofs.YtllpoaoboieijaaGreat
open Go.RowKit

structure Req where
  id : Int
  deadline : Int
  prompt : List Int
  most : Int
  seed : Int
  tokens : List Int
  made : Int
  holds : List Int
  entries : Int
  ended : Bool
  err : Int
  kept : Int
  worked : Bool
  lost : Bool

structure Pg where
  start : Int
  toks : List Int
  owners : Int
  used : Int

def Pg.zero : Pg := ⟨0, [], 0, 0⟩

/-- A model, as plain data. -/
structure Mdl where
  kind : Int
  vocab : Int
  width : Int
  top : Int
  cuts : List Int
  embed : List Int
  place : List Int
  mix : List Int
  out : List Int
  soft : List Int
  odds : List Int

structure Srv where
  m : Mdl
  pagesN : Int
  pageSize : Int
  batch : Int
  queue : Int
  vocab : Int
  now : Int
  reqs : List Req
  pages : List Pg
  log : List Int
  records : Int
  synced : Int
  replay : Bool

/-- Where a model's lists lie. -/
structure MV where
  cuts : Value
  embed : Value
  place : Value
  mix : Value
  out : Value
  soft : Value
  odds : Value

/-- Where all of a server lies. -/
structure Lay where
  mv : MV
  mb : Nat
  born : Int → Nat
  clock : Nat
  pb : Nat
  pt : Nat → Value
  logv : Value
  rb : Int → Nat
  rp : Int → Value
  rt : Int → Value
  rh : Int → Value

def mdlCells (m : Mdl) (v : MV) : List Value :=
  [.int .i64 m.kind, .int .i64 m.vocab, .int .i64 m.width, .int .i64 m.top, v.cuts, v.embed, v.place, v.mix, v.out, v.soft, v.odds]

/-- A slice of whole numbers that can be read. -/
def Rd (w : World) (v : Value) (xs : List Int) : Prop :=
  ∃ A c, v = .slice A xs.length c ∧ xs.length ≤ c ∧ c ≤ maxLen ∧ (0 < xs.length → ∃ b o, A = some ⟨b, o, none⟩ ∧ ∀ i (h : i < xs.length), w.cell? ⟨b, o + i, none⟩ = some (.int .i64 xs[i]))
theorem Rd.nil (w : World) : Rd w (.slice none 0 0) [] := ⟨none, 0, rfl, Nat.le_refl _, Nat.zero_le _, fun h => absurd h (by simp)⟩
theorem Rd.drewN {w : World} {v : Value} {xs : List Int} (h : Rd w v xs) (n : Nat) : Rd (w.drewN n) v xs := h
theorem Rd.of_cells {w w' : World} {v : Value} {xs : List Int} (h : Rd w v xs) (hc : ∀ b, v.ownBlock = some b → w'.heap[b]? = w.heap[b]?) : Rd w' v xs := by
  obtain ⟨A, c, rfl, h1, h2, h3⟩ := h
  refine ⟨A, c, rfl, h1, h2, fun h0 => ?_⟩
  obtain ⟨b, o, rfl, hr⟩ := h3 h0
  refine ⟨b, o, rfl, fun i hi => ?_⟩
  rw [World.cell?_of_block (a := ⟨b, o + i, none⟩) (hc b rfl)]; exact hr i hi
theorem Rd.lt {w : World} {v : Value} {xs : List Int} (h : Rd w v xs) (h0 : 0 < xs.length) : ∀ b, v.ownBlock = some b → b < w.heap.size := by
  obtain ⟨A, c, rfl, h1, h2, h3⟩ := h
  obtain ⟨b, o, rfl, hr⟩ := h3 h0
  intro b' hb
  have : b = b' := by simpa [Value.ownBlock] using hb
  subst this
  exact World.block_lt_of_cell? w _ (hr 0 h0)
theorem Rd.below {w w' : World} {v : Value} {xs : List Int} (h : Rd w v xs) (hb : Below w.heap.size w w') : Rd w' v xs := by
  by_cases h0 : 0 < xs.length
  · exact h.of_cells fun b hv => hb.block b (h.lt h0 b hv)
  · obtain ⟨A, c, rfl, h1, h2, h3⟩ := h
    exact ⟨A, c, rfl, h1, h2, fun h => absurd h h0⟩
/-- The same, in blocks of an owner. -/
def Rdl (own : Nat → Lb) (lb : Lb) (w : World) (v : Value) (xs : List Int) : Prop := Rd w v xs ∧ (0 < xs.length → ∀ k, v.ownBlock = some k → own k = lb)
theorem Rdl.ext {o1 o2 : Nat → Lb} {lb : Lb} {w w' : World} {T : Lb → Prop} (x : Ext o1 w o2 w' T) {v : Value} {xs : List Int} (h : Rdl o1 lb w v xs) (ht : ¬ T lb) : Rdl o2 lb w' v xs := by
  obtain ⟨h1, h2⟩ := h
  by_cases h0 : 0 < xs.length
  · exact ⟨h1.of_cells fun b hv => x.keep b (h1.lt h0 b hv) (by rw [h2 h0 b hv]; exact ht), fun _ k hk => by rw [x.lab k (h1.lt h0 k hk)]; exact h2 h0 k hk⟩
  · obtain ⟨A, c, rfl, h3, h4, h5⟩ := h1
    exact ⟨⟨A, c, rfl, h3, h4, fun h => absurd h h0⟩, fun h => absurd h h0⟩

structure MdlAt (own : Nat → Lb) (lb : Lb) (w : World) (m : Mdl) (v : MV) : Prop where
  cuts : Rdl own lb w v.cuts m.cuts
  embed : Rdl own lb w v.embed m.embed
  place : Rdl own lb w v.place m.place
  mix : Rdl own lb w v.mix m.mix
  out : Rdl own lb w v.out m.out
  soft : Rdl own lb w v.soft m.soft
  odds : Rdl own lb w v.odds m.odds
theorem MdlAt.ext {o1 o2 : Nat → Lb} {lb : Lb} {w w' : World} {T : Lb → Prop} (x : Ext o1 w o2 w' T) {m : Mdl} {v : MV} (h : MdlAt o1 lb w m v) (ht : ¬ T lb) : MdlAt o2 lb w' m v :=
  ⟨h.cuts.ext x ht, h.embed.ext x ht, h.place.ext x ht, h.mix.ext x ht, h.out.ext x ht, h.soft.ext x ht, h.odds.ext x ht⟩

def srvCells (S : Srv) (L : Lay) : List Value :=
  [.int .i64 S.m.kind, .int .i64 S.m.vocab, .int .i64 S.m.width, .int .i64 S.m.top, L.mv.cuts, L.mv.embed, L.mv.place, L.mv.mix, L.mv.out, L.mv.soft, L.mv.odds,
   .int .i64 S.pagesN, .int .i64 S.pageSize, .int .i64 S.batch, .int .i64 S.queue,
   .int .i64 S.vocab, .int .i64 S.now, .map (some L.mb), .slice (some ⟨L.pb, 0, none⟩) S.pages.length S.pages.length, L.logv, .int .i64 S.records, .int .i64 S.synced, .bool S.replay]

def reqCells (r : Req) (pv tv hv : Value) : List Value :=
  [.int .i64 r.id, .int .i64 r.deadline, pv, .int .i64 r.most, .int .i64 r.seed, tv, .int .i64 r.made, hv, .int .i64 r.entries, .bool r.ended, .int .i64 r.err, .int .i64 r.kept, .bool r.worked, .bool r.lost]

def pgCells (p : Pg) (tv : Value) : List Value := [.int .i64 p.start, tv, .int .i64 p.owners, .int .i64 p.used]
def pgsCells (ps : List Pg) (pt : Nat → Value) : List Value := (ps.mapIdx fun k p => pgCells p (pt k)).flatten

structure ReqAt (own : Nat → Lb) (w : World) (L : Lay) (r : Req) : Prop where
  blk : Blk w (L.rb r.id) (reqCells r (L.rp r.id) (L.rt r.id) (L.rh r.id)) 75
  lab : own (L.rb r.id) = .req r.id
  prm : Owns own (.prm r.id) w 3 1 (L.rp r.id) r.prompt.length (ints r.prompt)
  tok : Owns own (.tok r.id) w 3 1 (L.rt r.id) r.tokens.length (ints r.tokens)
  hold : Owns own (.hold r.id) w 3 1 (L.rh r.id) r.holds.length (ints r.holds)

structure SrvAt (own : Nat → Lb) (w : World) (sb : Nat) (L : Lay) (S : Srv) : Prop where
  blk : Blk w sb (srvCells S L) 70
  lab : own sb = .srv
  mdl : MdlAt own .mdl w S.m L.mv
  mmap : w.heap[L.mb]? = some (.map (S.reqs.map fun r => ({ key := .int .i64 r.id, val := .pointer (some ⟨L.rb r.id, 0, none⟩), born := L.born r.id } : MapEntry)).toArray L.clock)
  mlab : own L.mb = .mp
  pgs : Blk w L.pb (pgsCells S.pages L.pt) 106
  plab : own L.pb = .pgs
  ptok : ∀ k p, S.pages[k]? = some p → Owns own (.ptok k) w 3 1 (L.pt k) p.toks.length (ints p.toks)
  log : Owns own .log w 5 1 L.logv S.log.length (S.log.map (Value.int .u8))
  req : ∀ r, r ∈ S.reqs → ReqAt own w L r
  uniq : (S.reqs.map Req.id).Nodup
  bnd : ((S.reqs.map Req.id).map L.born).Nodup
  blt : ∀ i, i ∈ S.reqs.map Req.id → L.born i < L.clock

theorem pgsCells_nil (pt : Nat → Value) : pgsCells [] pt = [] := rfl
theorem pgsCells_get (ps : List Pg) : ∀ (pt : Nat → Value) (k i : Nat), i < 4 → (pgsCells ps pt)[k * 4 + i]? = (ps[k]?).bind fun p => (pgCells p (pt k))[i]? := by
  induction ps with
  | nil => intro pt k i _; simp [pgsCells]
  | cons p ps ih =>
    intro pt k i hi
    have e : pgsCells (p :: ps) pt = pgCells p (pt 0) ++ pgsCells ps (fun j => pt (j + 1)) := by
      simp [pgsCells, List.mapIdx_cons]
    rw [e]
    have hl : (pgCells p (pt 0)).length = 4 := rfl
    cases k with
    | zero => rw [List.getElem?_append_left (by omega)]; simp
    | succ k =>
      rw [List.getElem?_append_right (by omega), hl, show (k + 1) * 4 + i - 4 = k * 4 + i by omega, ih _ k i hi]
      simp
theorem pgsCells_length (ps : List Pg) : ∀ (pt : Nat → Value), (pgsCells ps pt).length = 4 * ps.length := by
  induction ps with
  | nil => intro pt; rfl
  | cons p ps ih =>
    intro pt
    have e : pgsCells (p :: ps) pt = pgCells p (pt 0) ++ pgsCells ps (fun j => pt (j + 1)) := by
      simp [pgsCells, List.mapIdx_cons]
    rw [e, List.length_append, ih]; simp [pgCells]; omega
/-- Two rows of pages are equal if they are so page by page. -/
theorem pgsCells_ext {l : List Value} {ps : List Pg} {pt : Nat → Value} (hl : l.length = 4 * ps.length)
    (h : ∀ k p i, ps[k]? = some p → i < 4 → l[k * 4 + i]? = (pgCells p (pt k))[i]?) : l = pgsCells ps pt := by
  apply List.ext_getElem?
  intro j
  have hj : j = j / 4 * 4 + j % 4 := by omega
  by_cases hlt : j < l.length
  · rw [hj, pgsCells_get _ _ _ _ (by omega)]
    have hk : j / 4 < ps.length := by omega
    rw [h (j / 4) ps[j / 4] (j % 4) (by simp [hk]) (by omega)]
    simp [hk]
  · rw [List.getElem?_eq_none (by omega), List.getElem?_eq_none (by rw [pgsCells_length]; omega)]

/-- Cell i of page k. -/
theorem SrvAt.page {own : Nat → Lb} {w : World} {sb : Nat} {L : Lay} {S : Srv} (h : SrvAt own w sb L S) {k : Nat} {p : Pg} (hk : S.pages[k]? = some p) (i : Nat) (hi : i < 4) :
    w.cell? ⟨L.pb, k * 4 + i, none⟩ = (pgCells p (L.pt k))[i]? := by
  rw [h.pgs.cell, pgsCells_get _ _ _ _ hi, hk]; rfl

theorem ReqAt.ext {o1 o2 : Nat → Lb} {w w' : World} {T : Lb → Prop} (x : Ext o1 w o2 w' T) {L : Lay} {r : Req} (h : ReqAt o1 w L r)
    (t1 : ¬ T (.req r.id)) (t2 : ¬ T (.prm r.id)) (t3 : ¬ T (.tok r.id)) (t4 : ¬ T (.hold r.id)) : ReqAt o2 w' L r :=
  ⟨h.blk.ext x (by rw [h.lab]; exact t1), by rw [x.lab _ h.blk.lt]; exact h.lab, h.prm.ext x t2, h.tok.ext x t3, h.hold.ext x t4⟩
theorem lt_of_heap {w : World} {b : Nat} {o : Obj} (h : w.heap[b]? = some o) : b < w.heap.size := by
  rcases Nat.lt_or_ge b w.heap.size with h1 | h1
  · exact h1
  · simp [Array.getElem?_eq_none h1] at h
/-- The pages are written anew, nothing else. -/
theorem SrvAt.pages_upd {own own' : Nat → Lb} {w w' : World} {sb : Nat} {L : Lay} {S : Srv} {T : Lb → Prop} (h : SrvAt own w sb L S) (x : Ext own w own' w' T)
    (hT : ∀ l, T l → l = .pgs ∨ (∃ k, l = .ptok k) ∨ l = .other) {ps : List Pg} {pt : Nat → Value} (hl : ps.length = S.pages.length) (hb : Blk w' L.pb (pgsCells ps pt) 106)
    (ht : ∀ k p, ps[k]? = some p → Owns own' (.ptok k) w' 3 1 (pt k) p.toks.length (ints p.toks)) : SrvAt own' w' sb { L with pt := pt } { S with pages := ps } := by
  have n : ∀ l, (∀ h : l = .pgs, False) → (∀ k, l = .ptok k → False) → (∀ h : l = .other, False) → ¬ T l := fun l a b c t => by
    rcases hT l t with e | ⟨k, e⟩ | e
    · exact a e
    · exact b k e
    · exact c e
  have ns : ¬ T .srv := n _ (by intro e; cases e) (by intro _ e; cases e) (by intro e; cases e)
  have nm : ¬ T .mdl := n _ (by intro e; cases e) (by intro _ e; cases e) (by intro e; cases e)
  have np : ¬ T .mp := n _ (by intro e; cases e) (by intro _ e; cases e) (by intro e; cases e)
  have nl : ¬ T .log := n _ (by intro e; cases e) (by intro _ e; cases e) (by intro e; cases e)
  refine ⟨?_, by rw [x.lab _ h.blk.lt]; exact h.lab, h.mdl.ext x nm, ?_, by rw [x.lab _ (lt_of_heap h.mmap)]; exact h.mlab, hb, by rw [x.lab _ h.pgs.lt]; exact h.plab, ht, h.log.ext x nl, fun r hr => ?_, h.uniq, h.bnd, h.blt⟩
  · have := h.blk.ext x (by rw [h.lab]; exact ns)
    simpa [srvCells, hl] using this
  · rw [x.keep _ (lt_of_heap h.mmap) (by rw [h.mlab]; exact np)]; exact h.mmap
  · have hr' := (h.req r hr).ext x (n _ (by intro e; cases e) (by intro _ e; cases e) (by intro e; cases e)) (n _ (by intro e; cases e) (by intro _ e; cases e) (by intro e; cases e))
      (n _ (by intro e; cases e) (by intro _ e; cases e) (by intro e; cases e)) (n _ (by intro e; cases e) (by intro _ e; cases e) (by intro e; cases e))
    exact ⟨hr'.blk, hr'.lab, hr'.prm, hr'.tok, hr'.hold⟩
theorem Owns.shape {own : Nat → Lb} {lb : Lb} {w : World} {e : TypeId} {size : Nat} {v : Value} {n : Nat} {xs : List Value} (h : Owns own lb w e size v n xs) : ∃ A c, v = .slice A n c ∧ n ≤ c ∧ (n = 0 ∨ ∃ g, A = some ⟨g, 0, none⟩) := by
  rcases h.1.2 with ⟨hv, hn⟩ | ⟨g, cap, cur, hv, _, _, h5, _⟩
  · subst hn; exact ⟨none, 0, hv, Nat.le_refl _, .inl rfl⟩
  · exact ⟨_, _, hv, h5, .inr ⟨g, rfl⟩⟩
/-- The cells of an owned slice of numbers. -/
theorem Owns.cell {own : Nat → Lb} {lb : Lb} {w : World} {e : TypeId} {xs : List Int} {v : Value} (h : Owns own lb w e 1 v xs.length (ints xs)) {g : Nat} {c : Nat} (hv : v = .slice (some ⟨g, 0, none⟩) xs.length c) {j : Nat} (hj : j < xs.length) :
    w.cell? ⟨g, j, none⟩ = some (.int .i64 xs[j]) := by
  have := h.1.cells (g := g) (by rw [hv]; rfl) j (.int .i64 xs[j]) (by simp [ints, hj])
  simpa [Addr.add] using (by
    by_cases h0 : j = 0
    · subst h0; simpa [Addr.add] using this
    · simpa [Addr.add, h0] using this)

def updv (f : Int → Value) (i : Int) (v : Value) : Int → Value := fun j => if j = i then v else f j
theorem updv_same (f : Int → Value) (i : Int) (v : Value) : updv f i v i = v := by simp [updv]
theorem updv_other (f : Int → Value) {i j : Int} (v : Value) (h : j ≠ i) : updv f i v j = f j := by simp [updv, h]
theorem updv_self (f : Int → Value) (i : Int) : updv f i (f i) = f := by funext j; by_cases h : j = i <;> simp [updv, h]

/-- A request is written anew. -/
def Srv.put (S : Srv) (r' : Req) : Srv := { S with reqs := S.reqs.map fun r => if r.id = r'.id then r' else r }
theorem put_ids (S : Srv) (r' : Req) : (S.put r').reqs.map Req.id = S.reqs.map Req.id := by
  simp only [Srv.put, List.map_map]
  apply List.map_congr_left
  intro r _
  simp only [Function.comp]
  split
  · rename_i e; exact e.symm
  · rfl
theorem mem_put {S : Srv} {r' r : Req} (h : r ∈ (S.put r').reqs) : r = r' ∨ r ∈ S.reqs ∧ r.id ≠ r'.id := by
  simp only [Srv.put, List.mem_map] at h
  obtain ⟨a, ha, e⟩ := h
  split at e
  · exact .inl e.symm
  · rename_i hne; subst e; exact .inr ⟨ha, hne⟩

/-- Labels of one request. -/
def Lb.ofReq (i : Int) (l : Lb) : Prop := l = .req i ∨ l = .prm i ∨ l = .tok i ∨ l = .hold i ∨ l = .other

theorem SrvAt.put_upd {own own' : Nat → Lb} {w w' : World} {sb : Nat} {L : Lay} {S : Srv} {T : Lb → Prop} (h : SrvAt own w sb L S) (x : Ext own w own' w' T) (r' : Req)
    (hT : ∀ l, T l → Lb.ofReq r'.id l) (pv tv hv : Value) (hr : ReqAt own' w' { L with rp := updv L.rp r'.id pv, rt := updv L.rt r'.id tv, rh := updv L.rh r'.id hv } r') :
    SrvAt own' w' sb { L with rp := updv L.rp r'.id pv, rt := updv L.rt r'.id tv, rh := updv L.rh r'.id hv } (S.put r') := by
  have n : ∀ l, ¬ Lb.ofReq r'.id l → ¬ T l := fun l a t => a (hT l t)
  have n1 : ¬ T .srv := n _ (by simp [Lb.ofReq])
  have n2 : ¬ T .mdl := n _ (by simp [Lb.ofReq])
  have n3 : ¬ T .mp := n _ (by simp [Lb.ofReq])
  have n4 : ¬ T .pgs := n _ (by simp [Lb.ofReq])
  have n5 : ¬ T .log := n _ (by simp [Lb.ofReq])
  refine ⟨?_, by rw [x.lab _ h.blk.lt]; exact h.lab, h.mdl.ext x n2, ?_, by rw [x.lab _ (lt_of_heap h.mmap)]; exact h.mlab, h.pgs.ext x (by rw [h.plab]; exact n4),
    by rw [x.lab _ h.pgs.lt]; exact h.plab, fun k p hp => (h.ptok k p hp).ext x (n _ (by simp [Lb.ofReq])), h.log.ext x n5, fun r hrm => ?_, by rw [put_ids]; exact h.uniq, by rw [put_ids]; exact h.bnd, by rw [put_ids]; exact h.blt⟩
  · have := h.blk.ext x (by rw [h.lab]; exact n1)
    exact this
  · rw [x.keep _ (lt_of_heap h.mmap) (by rw [h.mlab]; exact n3), h.mmap]
    congr 3
    simp only [Srv.put, List.map_map]
    apply List.map_congr_left
    intro r _
    simp only [Function.comp]
    split
    · rename_i e; rw [e]
    · rfl
  · rcases mem_put hrm with rfl | ⟨hm, hne⟩
    · exact hr
    · have hq := (h.req r hm).ext x (n _ (by simp [Lb.ofReq, hne])) (n _ (by simp [Lb.ofReq, hne])) (n _ (by simp [Lb.ofReq, hne])) (n _ (by simp [Lb.ofReq, hne]))
      refine ⟨?_, hq.lab, ?_, ?_, ?_⟩
      · have := hq.blk; simpa [updv_other _ _ hne] using this
      · have := hq.prm; simpa [updv_other _ _ hne] using this
      · have := hq.tok; simpa [updv_other _ _ hne] using this
      · have := hq.hold; simpa [updv_other _ _ hne] using this
theorem Owns.rd {own : Nat → Lb} {lb : Lb} {w : World} {e : TypeId} {xs : List Int} {v : Value} (h : Owns own lb w e 1 v xs.length (ints xs)) : Rd w v xs := by
  rcases h.1.2 with ⟨hv, hn⟩ | ⟨g, cap, cur, hv, _, _, h5, h6, _⟩
  · exact ⟨none, 0, by rw [hv, hn], by omega, Nat.zero_le _, fun h => by omega⟩
  · exact ⟨_, cap, hv, h5, h6, fun _ => ⟨g, 0, rfl, fun i hi => by rw [Nat.zero_add]; exact h.cell hv hi⟩⟩
/-- What lies elsewhere is written. -/
theorem SrvAt.other {own own' : Nat → Lb} {w w' : World} {sb : Nat} {L : Lay} {S : Srv} {T : Lb → Prop} (h : SrvAt own w sb L S) (x : Ext own w own' w' T) (hT : ∀ l, T l → l = .other) : SrvAt own' w' sb L S := by
  have n1 : ¬ T .pgs := fun t => by have := hT _ t; cases this
  have n2 : ∀ k, ¬ T (.ptok k) := fun k t => by have := hT _ t; cases this
  exact h.pages_upd x (fun l t => .inr (.inr (hT l t))) rfl (h.pgs.ext x (by rw [h.plab]; exact n1)) (fun k p hp => (h.ptok k p hp).ext x (n2 k))
theorem SrvAt.below {own : Nat → Lb} {w w' : World} {sb : Nat} {L : Lay} {S : Srv} (h : SrvAt own w sb L S) (hb : Below w.heap.size w w') : SrvAt (relab own w.heap.size .other) w' sb L S :=
  h.other (Ext.below hb (fun _ => False) .other) (fun _ f => f.elim)
theorem SrvAt.drewN {own : Nat → Lb} {w : World} {sb : Nat} {L : Lay} {S : Srv} (h : SrvAt own w sb L S) (n : Nat) : SrvAt own (w.drewN n) sb L S :=
  h.other ((Ext.refl own w (fun _ => False)).drewN n) (fun _ f => f.elim)
end Go.Proofs.YtllpoaoboieijaaGreat
