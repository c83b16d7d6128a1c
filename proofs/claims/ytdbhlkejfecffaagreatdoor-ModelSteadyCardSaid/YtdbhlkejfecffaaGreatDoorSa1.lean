/-
  What lies in memory: blocks, slices that can be read, slices of the call's own.
-/
import Derived.BigQuiet
import Derived.Deep.AppendLies
import Derived.Deep.CutBlock
import Derived.Deep.DeepCutAuto
import Derived.Deep.DeepFit
import Derived.Deep.LoopGhost
import Derived.Deep.QuietTactic
import Derived.Deep.RegionHeld3
import Derived.Deep.RegionLaw
import Derived.Deep.RegionWith
import Derived.IntWalk
import Derived.Laws.ResultCell
import Derived.Laws.Rows
import Derived.Lib.Hide
import Derived.Lib.SliceRun
import Derived.OwnWalk
import Derived.StillTailTactics
import Derived.Test.YtdbhlkejfecffaaGreatDoorRows
import Derived.WalkKit
import Derived.WalkLawsBesides
import Derived.WalkSpells
/-
  What lies in memory: blocks, slices that can be read, slices of the call's own.
-/
namespace Go.Proofs.YtdbhlkejfecffaaGreatDoor
open Go.RowKit

/-- A block that is known whole. -/
def Blk (w : World) (b : Nat) (l : List Value) (t : TypeId) : Prop := w.heap[b]? = some (.cells l.toArray t (0, 0))
theorem Blk.cell {w : World} {b : Nat} {l : List Value} {t : TypeId} (h : Blk w b l t) (o : Nat) : w.cell? ⟨b, o, none⟩ = l[o]? := by
  unfold Blk at h; simp [World.cell?, h]
theorem Blk.frozen {w : World} {b : Nat} {l : List Value} {t : TypeId} (h : Blk w b l t) (o : Nat) : w.frozen? ⟨b, o, none⟩ = false := by
  unfold Blk at h; simp [World.frozen?, h]
theorem Blk.lt {w : World} {b : Nat} {l : List Value} {t : TypeId} (h : Blk w b l t) : b < w.heap.size := by
  unfold Blk at h; rcases Nat.lt_or_ge b w.heap.size with h1 | h1
  · exact h1
  · simp [Array.getElem?_eq_none h1] at h
theorem Blk.set {w : World} {b : Nat} {l : List Value} {t : TypeId} (h : Blk w b l t) (o : Nat) (v : Value) : Blk (w.setCell ⟨b, o, none⟩ v) b (l.set o v) t := by
  unfold Blk at h ⊢
  simp [World.setCell, Array.getElem?_modify, h]
theorem Blk.far {w : World} {b : Nat} {l : List Value} {t : TypeId} (h : Blk w b l t) {p : Addr} (hne : b ≠ p.block) (v : Value) : Blk (w.setCell p v) b l t := by
  unfold Blk at h ⊢
  rw [Below.heap_setCell _ _ _ _ hne]; exact h
theorem Blk.alloc {w : World} {b : Nat} {l : List Value} {t : TypeId} (h : Blk w b l t) (o : Obj) : Blk (w.alloc o) b l t := by
  have := h.lt; unfold Blk at h ⊢
  rw [Below.heap_alloc _ _ _ this]; exact h
theorem Blk.drewN {w : World} {b : Nat} {l : List Value} {t : TypeId} (h : Blk w b l t) (n : Nat) : Blk (w.drewN n) b l t := h
theorem Blk.drew {w : World} {b : Nat} {l : List Value} {t : TypeId} (h : Blk w b l t) : Blk w.drew b l t := h
theorem Blk.grown {w w' : World} {row : Option Nat} (hg : w.grownBy w' row) {b : Nat} {l : List Value} {t : TypeId} (h : Blk w b l t) (hne : some b ≠ row) : Blk w' b l t := by
  have := h.lt; unfold Blk at h ⊢
  rw [hg.block b this hne]; exact h
theorem Blk.below {w w' : World} (hb : Below w.heap.size w w') {b : Nat} {l : List Value} {t : TypeId} (h : Blk w b l t) : Blk w' b l t := by
  have := h.lt; unfold Blk at h ⊢
  rw [hb.block b this]; exact h
def ints (l : List Int) : List Value := l.map (Value.int .i64)
theorem ints_length (l : List Int) : (ints l).length = l.length := by simp [ints]
/-- A slice of whole numbers that can be read. -/
def Rd (w : World) (v : Value) (xs : List Int) : Prop :=
  ∃ A c, v = .slice A xs.length c ∧ xs.length ≤ c ∧ c ≤ maxLen ∧ (0 < xs.length → ∃ b o, A = some ⟨b, o, none⟩ ∧ ∀ i (h : i < xs.length), w.cell? ⟨b, o + i, none⟩ = some (.int .i64 xs[i]))
theorem Rd.nil (w : World) : Rd w (.slice none 0 0) [] := ⟨none, 0, rfl, Nat.le_refl _, Nat.zero_le _, fun h => absurd h (by simp)⟩
theorem Rd.drewN {w : World} {v : Value} {xs : List Int} (h : Rd w v xs) (n : Nat) : Rd (w.drewN n) v xs := h
theorem Rd.of_cells {w w' : World} {v : Value} {xs : List Int} (h : Rd w v xs) (hc : ∀ b, v.ownBlock = some b → w'.heap[b]? = w.heap[b]?) : Rd w' v xs := by
  obtain ⟨A, c, rfl, h1, h2, h3⟩ := h
  refine ⟨A, c, rfl, h1, h2, fun h0 => ?_⟩
  obtain ⟨b, o, rfl, hr⟩ := h3 h0
  refine ⟨b, o, rfl, fun i hi => ?_⟩
  rw [World.cell?_of_block (a := ⟨b, o + i, none⟩) (hc b rfl)]; exact hr i hi
theorem Rd.lt {w : World} {v : Value} {xs : List Int} (h : Rd w v xs) (h0 : 0 < xs.length) : ∀ b, v.ownBlock = some b → b < w.heap.size := by
  obtain ⟨A, c, rfl, h1, h2, h3⟩ := h
  obtain ⟨b, o, rfl, hr⟩ := h3 h0
  intro b' hb
  have : b = b' := by simpa [Value.ownBlock] using hb
  subst this
  exact World.block_lt_of_cell? w _ (hr 0 h0)
theorem Rd.below {w w' : World} {v : Value} {xs : List Int} (h : Rd w v xs) (hb : Below w.heap.size w w') : Rd w' v xs := by
  by_cases h0 : 0 < xs.length
  · exact h.of_cells fun b hv => hb.block b (h.lt h0 b hv)
  · obtain ⟨A, c, rfl, h1, h2, h3⟩ := h
    exact ⟨A, c, rfl, h1, h2, fun h => absurd h h0⟩
theorem lt_of_heap {w : World} {b : Nat} {o : Obj} (h : w.heap[b]? = some o) : b < w.heap.size := by
  rcases Nat.lt_or_ge b w.heap.size with h1 | h1
  · exact h1
  · simp [Array.getElem?_eq_none h1] at h
theorem below_drewN {B : Nat} {w w' : World} (h : Below B w w') (n : Nat) : Below B w (w'.drewN n) := ⟨h.os, h.tape, h.output, h.size, h.block⟩
/-- A slice of values that can be read. -/
def RdV (w : World) (v : Value) (xs : List Value) : Prop :=
  ∃ A c, v = .slice A xs.length c ∧ xs.length ≤ c ∧ c ≤ maxLen ∧ (0 < xs.length → ∃ b o, A = some ⟨b, o, none⟩ ∧ ∀ i (h : i < xs.length), w.cell? ⟨b, o + i, none⟩ = some xs[i])
theorem RdV.lt {w : World} {v : Value} {xs : List Value} (h : RdV w v xs) (h0 : 0 < xs.length) : ∀ b, v.ownBlock = some b → b < w.heap.size := by
  obtain ⟨A, c, rfl, h1, h2, h3⟩ := h
  obtain ⟨b, o, rfl, hr⟩ := h3 h0
  intro b' hb
  have : b = b' := by simpa [Value.ownBlock] using hb
  subst this
  exact World.block_lt_of_cell? w _ (hr 0 h0)
/-- What can be read of a list of pointers. -/
theorem RdV.get {w : World} {v : Value} {xs : List Value} (h : RdV w v xs) {i : Nat} (hi : i < xs.length) : ∃ b o c, v = .slice (some ⟨b, o, none⟩) xs.length c ∧ w.cell? ⟨b, o + i, none⟩ = some xs[i] := by
  obtain ⟨A, c, hv, h1, h2, h3⟩ := h
  obtain ⟨b, o, hA, hc⟩ := h3 (by omega)
  exact ⟨b, o, c, by rw [hv, hA], hc i hi⟩
theorem RdV.below {w w' : World} {v : Value} {xs : List Value} (h : RdV w v xs) (hb : Below w.heap.size w w') : RdV w' v xs := by
  by_cases h0 : 0 < xs.length
  · have hlt := h.lt h0
    obtain ⟨A, c, rfl, a1, a2, a3⟩ := h
    obtain ⟨b, o, rfl, hr⟩ := a3 h0
    exact ⟨_, c, rfl, a1, a2, fun _ => ⟨b, o, rfl, fun i hi => by
      rw [World.cell?_of_block (a := ⟨b, o + i, none⟩) (hb.block b (hlt b rfl))]; exact hr i hi⟩⟩
  · obtain ⟨A, c, rfl, a1, a2, a3⟩ := h
    exact ⟨A, c, rfl, a1, a2, fun h => absurd h h0⟩
theorem RdV.drewN {w : World} {v : Value} {xs : List Value} (h : RdV w v xs) (n : Nat) : RdV (w.drewN n) v xs := h
theorem add_plain (b o j : Nat) : (⟨b, o, none⟩ : Addr).add j = ⟨b, o + j, none⟩ := by
  by_cases h : j = 0 <;> simp [Addr.add, h]
def bys (l : List Int) : List Value := l.map (Value.int .u8)
theorem bys_length (l : List Int) : (bys l).length = l.length := by simp [bys]
theorem ownsRow_alloc {w : World} {base : Nat} {e : TypeId} {size : Nat} {v : Value} {n : Nat} {xs : List Value} (h : w.ownsRow base e size v n xs) (o : Obj) (d : Nat) : ((w.alloc o).drewN d).ownsRow base e size v n xs := by
  refine ⟨h.1, ?_⟩
  rcases h.2 with h | ⟨g, cap, cur, hv, h3, h4, h5, h6, h7, h8⟩
  · exact .inl h
  · refine .inr ⟨g, cap, cur, hv, h3, ?_, h5, h6, h7, h8⟩
    show (w.alloc o).heap[g]? = _
    rw [Below.heap_alloc _ _ _ (lt_of_heap h4)]; exact h4
theorem Below.ofGrown {B : Nat} {w w' : World} {row : Option Nat} (hg : w.grownBy w' row) (hB : B ≤ w.heap.size) (hr : ∀ k, row = some k → B ≤ k) : Below B w w' :=
  ⟨hg.os, hg.tape, hg.output, hg.size, fun b hb => hg.block b (by omega) (fun e => by have := hr b e.symm; omega)⟩
theorem ownsRow_base {w : World} {base : Nat} {e : TypeId} {size : Nat} {v : Value} {n : Nat} {xs : List Value} (h : w.ownsRow base e size v n xs) : ∀ k, v.ownBlock = some k → base ≤ k := by
  intro k hk
  rcases h.2 with ⟨hv, _⟩ | ⟨g, cap, cur, hv, h3, _⟩
  · rw [hv] at hk; simp [Value.ownBlock] at hk
  · rw [hv] at hk
    have : g = k := by simpa [Value.ownBlock] using hk
    omega
theorem alloc_le (w : World) (o : Obj) : w.heap.size ≤ (w.alloc o).heap.size := ((Below.refl w.heap.size w).alloc (Nat.le_refl _) o).size
theorem info3 : (Tryz.prog.info? 3).map (fun i => (i.zero, i.size, i.bytes)) = some (some (.int .i64 0), 1, 8) := by kernel_rfl
theorem info5 : (Tryz.prog.info? 5).map (fun i => (i.zero, i.size, i.bytes)) = some (some (.int .u8 0), 1, 1) := by kernel_rfl
theorem news1' (w : World) (u : Value) (t : TypeId) : ∀ (j : Nat) v, [u][j]? = some v → (w.alloc (.cells #[u] t)).cell? ((⟨w.heap.size, 0, none⟩ : Addr).add j) = some v :=
  World.news_of_block (w := (w.alloc (.cells #[u] t))) (cs := #[u]) (t := t) (fr := (0, 0)) (heap_alloc_new w _)
theorem one_int (k : IntKind) (x : Int) : ∀ u ∈ [Value.int k x], u.oneCell' = true := by simp [Value.oneCell']
theorem one_slice (A : Option Addr) (n c : Nat) : ∀ u ∈ [Value.slice A n c], u.oneCell' = true := by simp [Value.oneCell']
theorem wrap64_in {x : Int} (h : -9223372036854775808 ≤ x ∧ x ≤ 9223372036854775807) : wrap64 x = x := by unfold wrap64; omega
theorem ownsRow_shape {w : World} {base : Nat} {e : TypeId} {size : Nat} {v : Value} {n : Nat} {xs : List Value} (h : w.ownsRow base e size v n xs) : ∃ A c, v = .slice A n c := by
  rcases h.2 with ⟨hv, hn⟩ | ⟨g, cap, cur, hv, -⟩
  · rw [hn]; exact ⟨_, _, hv⟩
  · exact ⟨_, _, hv⟩
theorem ownsRow_below {w w' : World} {base : Nat} {e : TypeId} {size : Nat} {v : Value} {n : Nat} {xs : List Value} (h : w.ownsRow base e size v n xs) (hb : Below w.heap.size w w') : w'.ownsRow base e size v n xs := by
  refine ⟨h.1, ?_⟩
  rcases h.2 with h | ⟨g, cap, cur, hv, h3, h4, h5, h6, h7, h8⟩
  · exact .inl h
  · exact .inr ⟨g, cap, cur, hv, h3, by rw [hb.block g (lt_of_heap h4)]; exact h4, h5, h6, h7, h8⟩
theorem ownsRow_grown {w w' : World} {base : Nat} {e : TypeId} {size : Nat} {v : Value} {n : Nat} {xs : List Value} {row : Option Nat} (h : w.ownsRow base e size v n xs) (hg : w.grownBy w' row) (hne : ∀ g, v.ownBlock = some g → row ≠ some g) : w'.ownsRow base e size v n xs := by
  refine ⟨h.1, ?_⟩
  rcases h.2 with h | ⟨g, cap, cur, hv, h3, h4, h5, h6, h7, h8⟩
  · exact .inl h
  · exact .inr ⟨g, cap, cur, hv, h3, by rw [hg.block g (lt_of_heap h4) (fun e => hne g (by rw [hv]; rfl) e.symm)]; exact h4, h5, h6, h7, h8⟩
theorem ownsRow_mono {w : World} {base base' : Nat} {e : TypeId} {size : Nat} {v : Value} {n : Nat} {xs : List Value} (h : w.ownsRow base e size v n xs) (hb : base' ≤ base) : w.ownsRow base' e size v n xs := by
  refine ⟨h.1, ?_⟩
  rcases h.2 with h | ⟨g, cap, cur, hv, h3, h4⟩
  · exact .inl h
  · exact .inr ⟨g, cap, cur, hv, by omega, h4⟩
theorem news_blk (w : World) (l : List Value) (t : TypeId) : Blk (w.alloc (.cells l.toArray t)) w.heap.size l t := heap_alloc_new w _
theorem rdv_cells {w : World} {b o n c : Nat} {l : List Int} (h : RdV w (.slice (some ⟨b, o, none⟩) n c) (bys l)) (hn : n = l.length) : ∀ i, i < n → w.cell? ((⟨b, o, none⟩ : Addr).add i) = some (.int .u8 (l.getD i 0)) := by
  intro i hi
  obtain ⟨b', o', c', hv, hc⟩ := h.get (i := i) (by rw [bys_length]; omega)
  have hbb : b' = b ∧ o' = o := by injection hv with e1; injection e1 with e1; injection e1 with e2 e3; exact ⟨e2.symm, e3.symm⟩
  obtain ⟨rfl, rfl⟩ := hbb
  rw [add_plain, hc]
  simp [bys, List.getD, show i < l.length by omega]
/-- A part of some bytes. -/
theorem rdv_part {w : World} {b o n c : Nat} {l : List Int} (h : RdV w (.slice (some ⟨b, o, none⟩) n c) (bys l)) (hn : n = l.length) (lo m : Nat) (hm : lo + m ≤ n) : RdV w (.slice (some ⟨b, o + lo, none⟩) m (c - lo)) (bys ((l.drop lo).take m)) := by
  have hcells := rdv_cells h hn
  obtain ⟨A0, c0, hv, h1, h2, -⟩ := h
  have hc : c = c0 := by injection hv
  subst hc
  rw [bys_length] at h1
  have hl : ((l.drop lo).take m).length = m := by simp; omega
  refine ⟨_, c - lo, by rw [bys_length, hl], by rw [bys_length, hl]; omega, by omega, fun _ => ⟨b, o + lo, rfl, fun i hi => ?_⟩⟩
  rw [bys_length, hl] at hi
  have := hcells (lo + i) (by omega)
  rw [add_plain, ← Nat.add_assoc] at this
  rw [this]
  simp [bys, List.getD, show lo + i < l.length by omega]
theorem rdv_first {w : World} {b o n c : Nat} {l : List Int} (h : RdV w (.slice (some ⟨b, o, none⟩) n c) (bys l)) (hn : n = l.length) (m : Nat) (hm : m ≤ n) : RdV w (.slice (some ⟨b, o, none⟩) m c) (bys (l.take m)) := by
  have := rdv_part h hn 0 m (by omega)
  simpa using this
/-- The rest of some bytes, wherever an empty rest lies. -/
theorem rdv_rest {w : World} {b o n c : Nat} {l : List Int} (h : RdV w (.slice (some ⟨b, o, none⟩) n c) (bys l)) (hn : n = l.length) (lo : Nat) (hm : lo ≤ n) (A : Option Addr) (hA : c ≠ lo → A = some ⟨b, o + lo, none⟩) : RdV w (.slice A (n - lo) (c - lo)) (bys (l.drop lo)) := by
  by_cases e : c = lo
  · obtain ⟨A0, c0, hv, h1, h2, -⟩ := h
    have hc : c = c0 := by injection hv
    subst hc
    rw [bys_length] at h1
    have hl : (l.drop lo).length = n - lo := by simp; omega
    exact ⟨A, c - lo, by rw [bys_length, hl], by rw [bys_length, hl]; omega, by omega, fun h0 => by rw [bys_length, hl] at h0; omega⟩
  · rw [hA e]
    have := rdv_part h hn lo (n - lo) (by omega)
    rwa [List.take_of_length_le (by simp; omega)] at this
theorem RdV.caps {w : World} {A : Option Addr} {n c : Nat} {xs : List Value} (h : RdV w (.slice A n c) xs) : n = xs.length ∧ n ≤ c ∧ c ≤ maxLen := by
  obtain ⟨A0, c0, hv, h1, h2, -⟩ := h
  injection hv with e1 e2 e3
  subst e2 e3
  exact ⟨rfl, h1, h2⟩
theorem drew_eq (w : World) (a b : Nat) : (w.drewN a).drewN b = w.drewN (a + b) := by simp [World.drewN, Nat.add_assoc]
theorem row_some2 {w : World} {base : Nat} {t : TypeId} {sz : Nat} {A : Option Addr} {n c j : Nat} {xs : List Value} (h : w.ownsRow base t sz (.slice A n c) n xs) (hj : j < n) : ∃ g, A = some ⟨g, 0, none⟩ := by
  rcases h.2 with ⟨hv, hn⟩ | ⟨g, cap, cur, hv, -⟩
  · omega
  · injection hv with e; exact ⟨g, e⟩
theorem one_bys (l : List Int) : ∀ u ∈ bys l, u.oneCell' = true := by
  intro u hu
  obtain ⟨x, -, rfl⟩ := List.mem_map.1 hu
  rfl
theorem one_cells (l : List Int) : ∀ u ∈ ints l, u.oneCell' = true := by
  intro u hu
  obtain ⟨x, -, rfl⟩ := List.mem_map.1 hu
  rfl
section
variable {w w' : World} {v : Value}
theorem RdV.block {v : Value} {xs : List Value} (h : RdV w v xs) (hb : ∀ b, b < w.heap.size → v.ownBlock = some b → w'.heap[b]? = w.heap[b]?) : RdV w' v xs := by
  by_cases h0 : 0 < xs.length
  · have hlt := h.lt h0
    obtain ⟨A, c, rfl, h1, h2, h3⟩ := h
    obtain ⟨b, o, rfl, hc⟩ := h3 h0
    refine ⟨_, c, rfl, h1, h2, fun _ => ⟨b, o, rfl, fun i hi => ?_⟩⟩
    rw [World.cell?_of_block (a := ⟨b, o + i, none⟩) (hb b (hlt b rfl) rfl)]
    exact hc i hi
  · obtain ⟨A, c, rfl, h1, h2, h3⟩ := h
    exact ⟨A, c, rfl, h1, h2, fun h => absurd h h0⟩
theorem ownsRow_block {base : Nat} {e : TypeId} {size : Nat} {v : Value} {n : Nat} {xs : List Value} (h : w.ownsRow base e size v n xs) (hb : ∀ b, b < w.heap.size → v.ownBlock = some b → w'.heap[b]? = w.heap[b]?) : w'.ownsRow base e size v n xs := by
  have hlt := h.lt
  refine ⟨h.1, ?_⟩
  rcases h.2 with a | ⟨g, cap, cur, hv, a3, a4, a5⟩
  · exact .inl a
  · have hg : v.ownBlock = some g := by rw [hv]; rfl
    exact .inr ⟨g, cap, cur, hv, a3, by rw [hb g (hlt g hg).2 hg]; exact a4, a5⟩
theorem rdv_row {base : Nat} {xs : List Value} {A : Option Addr} {n c : Nat} (h : w.ownsRow base 3 1 (.slice A n c) n xs) : RdV w (.slice A n c) xs := by
  have hl : xs.length = n := by have := h.1; omega
  rcases h.2 with ⟨hv, hn⟩ | ⟨g, cap, cur, hv, a3, a4, a5, a6, a7, a8⟩
  · injection hv with e1 e2 e3
    subst e1 e2 e3
    exact ⟨none, 0, by rw [hl], by omega, Nat.zero_le _, fun h0 => by omega⟩
  · injection hv with e1 e2 e3
    subst e1 e3
    refine ⟨_, c, by rw [hl], by omega, a6, fun _ => ⟨g, 0, rfl, fun i hi => ?_⟩⟩
    unfold World.cell?
    simp only [a4, Nat.zero_add]
    simp only [Nat.mul_one] at a8
    have : xs[i]? = cur.toList[i]? := by rw [← a8, List.getElem?_take]; simp; omega
    rw [List.getElem?_eq_getElem hi] at this
    simpa using this.symm
theorem RdV.far {v : Value} {xs : List Value} (h : RdV w v xs) {b : Nat} (hb : v.ownBlock ≠ some b) (o : Nat) (x : Value) : RdV (w.setCell ⟨b, o, none⟩ x) v xs := h.block fun k _ hv => Below.heap_setCell _ _ _ _ (show k ≠ b from fun e => hb (by rw [hv, e]))
theorem rd_owned {base : Nat} {xs : List Int} {n : Nat} (h : w.ownsRow base 3 1 v n (ints xs)) : Rd w v xs := by
  have hl : (ints xs).length = n := by have := h.1; omega
  rw [ints_length] at hl
  rcases h.2 with ⟨hv, hn⟩ | ⟨g, cap, cur, hv, a3, a4, a5, a6, a7, a8⟩
  · exact ⟨none, 0, by rw [hv, hl, hn], by omega, Nat.zero_le _, fun h0 => by omega⟩
  · refine ⟨_, cap, by rw [hv, hl], by omega, a6, fun _ => ⟨g, 0, rfl, fun i hi => ?_⟩⟩
    unfold World.cell?
    simp only [a4, Nat.zero_add]
    simp only [Nat.mul_one] at a8
    have : (ints xs)[i]? = cur.toList[i]? := by rw [← a8, List.getElem?_take]; simp; omega
    rw [show (ints xs)[i]? = some (.int .i64 xs[i]) by simp [ints, hi]] at this
    simpa using this.symm
end
theorem quiet_add_same {P : Program} {f : FuncId} {args : Array Value} {w : World} {a n : Nat} {v : Value}
    (h : Calls P f args (w.drewN (a + n)) fun e w' => e = .returned v ∧ w' = w.drewN (a + n)) :
    Calls P f args (w.drewN (a + n)) fun e w'' => e = .returned v ∧ ∃ m, w'' = w.drewN (a + m) :=
  h.mono fun _ _ ⟨he, hm⟩ => ⟨he, n, hm⟩
theorem below_drawn (w : World) (k : Nat) : Below w.heap.size w (w.drewN k) := ⟨rfl, rfl, rfl, Nat.le_refl _, fun _ _ => rfl⟩
theorem below_undrew {B : Nat} {w w' : World} (h : Below B w.drew w') : Below B w w' := ⟨h.os, h.tape, h.output, h.size, h.block⟩
end Go.Proofs.YtdbhlkejfecffaaGreatDoor
