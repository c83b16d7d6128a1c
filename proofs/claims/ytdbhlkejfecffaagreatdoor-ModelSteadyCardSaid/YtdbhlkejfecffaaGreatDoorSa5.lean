/-
  Numbers of any size in memory: their digits can be read.
-/
import Derived.Deep.AppendLies
import Derived.Laws.MakeOwn
import Derived.LoopN
import Derived.Test.YtdbhlkejfecffaaGreatDoorSa1
import Derived.Test.YtdbhlkejfecffaaGreatDoorSa4
/-
  Numbers of any size in memory: their digits can be read.
-/
namespace Go.Proofs.YtdbhlkejfecffaaGreatDoor
open Go.RowKit KeepPlain

theorem infoU : (Tryz.prog.info? 127).map (fun i => (i.zero, i.size, i.bytes)) = some (some (.int .u32 0), 1, 4) := by kernel_rfl
theorem partsU : ∃ i, Tryz.prog.info? 127 = some i ∧ i.zero = some (.int .u32 0) ∧ i.size = 1 ∧ i.bytes = 4 := info_parts infoU
def us (l : List Nat) : List Value := l.map (fun (x : Nat) => Value.int .u32 (x : Int))
theorem us_length (l : List Nat) : (us l).length = l.length := by simp [us]
theorem us_set (l : List Nat) (p x : Nat) : (us l).set p (.int .u32 (x : Int)) = us (l.set p x) := by simp [us, List.map_set]
theorem us_snoc (l : List Nat) (x : Nat) : us l ++ [.int .u32 (x : Int)] = us (l ++ [x]) := by simp [us]
theorem us_get (l : List Nat) (i : Nat) (h : i < l.length) : (us l)[i]? = some (.int .u32 (dg l i : Nat)) := by
  rw [dg_get l i h]; simp [us, h]
theorem us_take (l : List Nat) (n : Nat) : (us l).take n = us (l.take n) := by simp [us, List.map_take]
theorem one_us (l : List Nat) : ∀ u ∈ us l, u.oneCell' = true := by
  intro u hu
  obtain ⟨x, -, rfl⟩ := List.mem_map.1 hu
  rfl
/-- A list of digits that can be read. -/
def RdU (w : World) (v : Value) (l : List Nat) : Prop := RdV w v (us l)
theorem RdU.below {w w' : World} {v : Value} {l : List Nat} (h : RdU w v l) (hb : Below w.heap.size w w') : RdU w' v l := RdV.below h hb
theorem RdU.nil (w : World) (c : Nat) (hc : c ≤ maxLen) (A : Option Addr) : RdU w (.slice A 0 c) [] := ⟨A, c, rfl, Nat.zero_le _, hc, fun h => absurd h (by simp [us])⟩
theorem RdU.open {w : World} {v : Value} {l : List Nat} (h : RdU w v l) : ∃ A c, v = .slice A l.length c ∧ l.length ≤ c ∧ c ≤ maxLen ∧ ∀ i, i < l.length → ∃ b o, A = some ⟨b, o, none⟩ ∧ b < w.heap.size ∧ w.cell? ⟨b, o + i, none⟩ = some (.int .u32 (dg l i : Nat)) := by
  obtain ⟨A, c, rfl, h1, h2, h3⟩ := h
  rw [us_length] at h1
  refine ⟨A, c, by rw [us_length], h1, h2, fun i hi => ?_⟩
  obtain ⟨b, o, hA, hc⟩ := h3 (by rw [us_length]; omega)
  have h4 := hc i (by rw [us_length]; exact hi)
  have h5 : (us l)[i]'(by rw [us_length]; exact hi) = .int .u32 (dg l i : Nat) := by
    have := us_get l i hi
    rw [List.getElem?_eq_getElem (by rw [us_length]; exact hi)] at this
    exact Option.some.inj this
  rw [h5] at h4
  exact ⟨b, o, hA, World.block_lt_of_cell? w _ h4, h4⟩
/-- A number that can be read. -/
def NV (w : World) (v : Value) (n : Nat) : Prop := RdU w v (nd n)
theorem NV.below {w w' : World} {v : Value} {n : Nat} (h : NV w v n) (hb : Below w.heap.size w w') : NV w' v n := RdU.below h hb
theorem NV.nil (w : World) : NV w (.slice none 0 0) 0 := by
  unfold NV; rw [nd_zero]; exact RdU.nil w 0 (Nat.zero_le _) none
/-- A part of a block of digits can be read. -/
theorem rdu_blk {w : World} {g : Nat} {l : List Nat} (h : Blk w g (us l) 127) (o n c : Nat) (hn : o + n ≤ l.length) (hnc : n ≤ c) (hc : c ≤ maxLen) : RdU w (.slice (some ⟨g, o, none⟩) n c) ((l.drop o).take n) := by
  have hl : ((l.drop o).take n).length = n := by simp; omega
  refine ⟨_, c, by rw [us_length, hl], by rw [us_length, hl]; exact hnc, hc, fun _ => ⟨g, o, rfl, fun i hi => ?_⟩⟩
  rw [us_length, hl] at hi
  rw [h.cell (o + i), us_get l (o + i) (by omega), dg_get l (o + i) (by omega)]
  simp [us]
theorem rdu_row {w : World} {base : Nat} {A : Option Addr} {n c : Nat} {l : List Nat} (h : w.ownsRow base 127 1 (.slice A n c) n (us l)) : RdU w (.slice A n c) l := by
  have hl : l.length = n := by have := h.1; rw [us_length] at this; omega
  rcases h.2 with ⟨hv, hn⟩ | ⟨g, cap, cur, hv, a3, a4, a5, a6, a7, a8⟩
  · injection hv with e1 e2 e3
    subst e1 e3
    have : l = [] := List.length_eq_zero_iff.1 (by omega)
    subst this hn
    exact RdU.nil w 0 (Nat.zero_le _) none
  · injection hv with e1 e2 e3
    subst e1 e3
    refine ⟨_, c, by rw [us_length, hl], by rw [us_length]; omega, a6, fun _ => ⟨g, 0, rfl, fun i hi => ?_⟩⟩
    unfold World.cell?
    simp only [a4, Nat.zero_add]
    simp only [Nat.mul_one] at a8
    have : (us l)[i]? = cur.toList[i]? := by rw [← a8, List.getElem?_take]; rw [us_length] at hi; simp; omega
    rw [List.getElem?_eq_getElem hi] at this
    simpa using this.symm
/-- New zeros. -/
theorem madeU (n : Nat) : madeCells (Value.int .u32 0).cells n = (us (List.replicate n 0)).toArray := by
  apply Array.ext
  · rw [size_madeCells]; simp [us]
  · intro j h1 h2
    rw [size_madeCells] at h1
    simp [madeCells, Value.cells, us, Nat.mod_one]
theorem makeU (n c : Nat) (hnc : n ≤ c) (hc : c ≤ 100000) (W : World) : Sem.run Tryz.prog (Instr.makeSlice 83 (.int .i64 n) (.int .i64 c)) W = .ok (.slice (some ⟨W.heap.size, 0, none⟩) n c) (W.alloc (.cells (us (List.replicate c 0)).toArray 127)) := by
  obtain ⟨i0, hi, hz0, hz1, hz2⟩ := partsU
  have h := run_makeSlice (P := Tryz.prog) W 83 127 i0 _ Tryz.underlying83 hi hz0 .i64 .i64 n c (by omega) (by omega) (by rw [hz1]; omega) (by rw [hz2]; omega) (by omega)
  rw [hz1, Nat.mul_one, madeU] at h
  simpa using h
theorem u32_in {x : Nat} (h : x < 4294967296) : IntKind.u32.wrap (x : Int) = x := by
  have : IntKind.u32.wrap (x : Int) = (x : Int) % 4294967296 := by simp [IntKind.wrap, IntKind.signed, IntKind.bits]
  omega
theorem u64_in {x : Nat} (h : x < 18446744073709551616) : IntKind.u64.wrap (x : Int) = x := by
  have : IntKind.u64.wrap (x : Int) = (x : Int) % 18446744073709551616 := by simp [IntKind.wrap, IntKind.signed, IntKind.bits]
  omega
theorem tmod_nat (x m : Nat) : Int.tmod (x : Int) (m : Int) = ((x % m : Nat) : Int) := by
  rw [Int.tmod_eq_emod_of_nonneg (by omega)]; rfl
theorem tdiv_nat (x m : Nat) : Int.tdiv (x : Int) (m : Int) = ((x / m : Nat) : Int) := by
  rw [Int.tdiv_eq_ediv_of_nonneg (by omega)]; rfl
theorem dg_replicate (n j : Nat) : dg (List.replicate n 0) j = 0 := by
  unfold dg
  by_cases h : j < n
  · simp [h]
  · simp [List.getElem?_eq_none (show (List.replicate n 0).length ≤ j by simp; omega)]
end Go.Proofs.YtdbhlkejfecffaaGreatDoor
