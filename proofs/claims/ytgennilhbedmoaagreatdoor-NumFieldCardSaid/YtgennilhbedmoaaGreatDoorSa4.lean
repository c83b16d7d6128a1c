/-
  Numbers of any size in memory: their digits can be read.
  nat: trim, cmpInt, Cmp, One, Zero.
  nat: Cmp.
-/
import Derived.Deep.AppendLies
import Derived.Deep.LoopGhost
import Derived.Laws.MakeOwn
import Derived.LoopN
import Derived.Test.YtgennilhbedmoaaGreatDoorSa1
import Derived.Test.YtgennilhbedmoaaGreatDoorSa3
/-
  Numbers of any size in memory: their digits can be read.
-/
namespace Go.Proofs.YtgennilhbedmoaaGreatDoor
open Go.RowKit KeepPlain

theorem infoU : (Tryz.prog.info? 81).map (fun i => (i.zero, i.size, i.bytes)) = some (some (.int .u32 0), 1, 4) := by kernel_rfl
theorem partsU : ∃ i, Tryz.prog.info? 81 = some i ∧ i.zero = some (.int .u32 0) ∧ i.size = 1 ∧ i.bytes = 4 := info_parts infoU
def us (l : List Nat) : List Value := l.map (fun (x : Nat) => Value.int .u32 (x : Int))
theorem us_length (l : List Nat) : (us l).length = l.length := by simp [us]
theorem us_set (l : List Nat) (p x : Nat) : (us l).set p (.int .u32 (x : Int)) = us (l.set p x) := by simp [us, List.map_set]
theorem us_snoc (l : List Nat) (x : Nat) : us l ++ [.int .u32 (x : Int)] = us (l ++ [x]) := by simp [us]
theorem us_get (l : List Nat) (i : Nat) (h : i < l.length) : (us l)[i]? = some (.int .u32 (dg l i : Nat)) := by
  rw [dg_get l i h]; simp [us, h]
theorem us_take (l : List Nat) (n : Nat) : (us l).take n = us (l.take n) := by simp [us, List.map_take]
theorem one_us (l : List Nat) : ∀ u ∈ us l, u.oneCell' = true := by
  intro u hu
  obtain ⟨x, -, rfl⟩ := List.mem_map.1 hu
  rfl
/-- A list of digits that can be read. -/
def RdU (w : World) (v : Value) (l : List Nat) : Prop := RdV w v (us l)
theorem RdU.below {w w' : World} {v : Value} {l : List Nat} (h : RdU w v l) (hb : Below w.heap.size w w') : RdU w' v l := RdV.below h hb
theorem RdU.nil (w : World) (c : Nat) (hc : c ≤ maxLen) (A : Option Addr) : RdU w (.slice A 0 c) [] := ⟨A, c, rfl, Nat.zero_le _, hc, fun h => absurd h (by simp [us])⟩
theorem RdU.open {w : World} {v : Value} {l : List Nat} (h : RdU w v l) : ∃ A c, v = .slice A l.length c ∧ l.length ≤ c ∧ c ≤ maxLen ∧ ∀ i, i < l.length → ∃ b o, A = some ⟨b, o, none⟩ ∧ b < w.heap.size ∧ w.cell? ⟨b, o + i, none⟩ = some (.int .u32 (dg l i : Nat)) := by
  obtain ⟨A, c, rfl, h1, h2, h3⟩ := h
  rw [us_length] at h1
  refine ⟨A, c, by rw [us_length], h1, h2, fun i hi => ?_⟩
  obtain ⟨b, o, hA, hc⟩ := h3 (by rw [us_length]; omega)
  have h4 := hc i (by rw [us_length]; exact hi)
  have h5 : (us l)[i]'(by rw [us_length]; exact hi) = .int .u32 (dg l i : Nat) := by
    have := us_get l i hi
    rw [List.getElem?_eq_getElem (by rw [us_length]; exact hi)] at this
    exact Option.some.inj this
  rw [h5] at h4
  exact ⟨b, o, hA, World.block_lt_of_cell? w _ h4, h4⟩
/-- A number that can be read. -/
def NV (w : World) (v : Value) (n : Nat) : Prop := RdU w v (nd n)
theorem NV.below {w w' : World} {v : Value} {n : Nat} (h : NV w v n) (hb : Below w.heap.size w w') : NV w' v n := RdU.below h hb
theorem NV.nil (w : World) : NV w (.slice none 0 0) 0 := by
  unfold NV; rw [nd_zero]; exact RdU.nil w 0 (Nat.zero_le _) none
/-- A part of a block of digits can be read. -/
theorem rdu_blk {w : World} {g : Nat} {l : List Nat} (h : Blk w g (us l) 81) (o n c : Nat) (hn : o + n ≤ l.length) (hnc : n ≤ c) (hc : c ≤ maxLen) : RdU w (.slice (some ⟨g, o, none⟩) n c) ((l.drop o).take n) := by
  have hl : ((l.drop o).take n).length = n := by simp; omega
  refine ⟨_, c, by rw [us_length, hl], by rw [us_length, hl]; exact hnc, hc, fun _ => ⟨g, o, rfl, fun i hi => ?_⟩⟩
  rw [us_length, hl] at hi
  rw [h.cell (o + i), us_get l (o + i) (by omega), dg_get l (o + i) (by omega)]
  simp [us]
theorem rdu_row {w : World} {base : Nat} {A : Option Addr} {n c : Nat} {l : List Nat} (h : w.ownsRow base 81 1 (.slice A n c) n (us l)) : RdU w (.slice A n c) l := by
  have hl : l.length = n := by have := h.1; rw [us_length] at this; omega
  rcases h.2 with ⟨hv, hn⟩ | ⟨g, cap, cur, hv, a3, a4, a5, a6, a7, a8⟩
  · injection hv with e1 e2 e3
    subst e1 e3
    have : l = [] := List.length_eq_zero_iff.1 (by omega)
    subst this hn
    exact RdU.nil w 0 (Nat.zero_le _) none
  · injection hv with e1 e2 e3
    subst e1 e3
    refine ⟨_, c, by rw [us_length, hl], by rw [us_length]; omega, a6, fun _ => ⟨g, 0, rfl, fun i hi => ?_⟩⟩
    unfold World.cell?
    simp only [a4, Nat.zero_add]
    simp only [Nat.mul_one] at a8
    have : (us l)[i]? = cur.toList[i]? := by rw [← a8, List.getElem?_take]; rw [us_length] at hi; simp; omega
    rw [List.getElem?_eq_getElem hi] at this
    simpa using this.symm
/-- New zeros. -/
theorem madeU (n : Nat) : madeCells (Value.int .u32 0).cells n = (us (List.replicate n 0)).toArray := by
  apply Array.ext
  · rw [size_madeCells]; simp [us]
  · intro j h1 h2
    rw [size_madeCells] at h1
    simp [madeCells, Value.cells, us, Nat.mod_one]
theorem makeU (n c : Nat) (hnc : n ≤ c) (hc : c ≤ 100000) (W : World) : Sem.run Tryz.prog (Instr.makeSlice 62 (.int .i64 n) (.int .i64 c)) W = .ok (.slice (some ⟨W.heap.size, 0, none⟩) n c) (W.alloc (.cells (us (List.replicate c 0)).toArray 81)) := by
  obtain ⟨i0, hi, hz0, hz1, hz2⟩ := partsU
  have h := run_makeSlice (P := Tryz.prog) W 62 81 i0 _ Tryz.underlying62 hi hz0 .i64 .i64 n c (by omega) (by omega) (by rw [hz1]; omega) (by rw [hz2]; omega) (by omega)
  rw [hz1, Nat.mul_one, madeU] at h
  simpa using h
theorem u32_in {x : Nat} (h : x < 4294967296) : IntKind.u32.wrap (x : Int) = x := by
  have : IntKind.u32.wrap (x : Int) = (x : Int) % 4294967296 := by simp [IntKind.wrap, IntKind.signed, IntKind.bits]
  omega
theorem u64_in {x : Nat} (h : x < 18446744073709551616) : IntKind.u64.wrap (x : Int) = x := by
  have : IntKind.u64.wrap (x : Int) = (x : Int) % 18446744073709551616 := by simp [IntKind.wrap, IntKind.signed, IntKind.bits]
  omega
theorem tmod_nat (x m : Nat) : Int.tmod (x : Int) (m : Int) = ((x % m : Nat) : Int) := by
  rw [Int.tmod_eq_emod_of_nonneg (by omega)]; rfl
theorem tdiv_nat (x m : Nat) : Int.tdiv (x : Int) (m : Int) = ((x / m : Nat) : Int) := by
  rw [Int.tdiv_eq_ediv_of_nonneg (by omega)]; rfl
theorem dg_replicate (n j : Nat) : dg (List.replicate n 0) j = 0 := by
  unfold dg
  by_cases h : j < n
  · simp [h]
  · simp [List.getElem?_eq_none (show (List.replicate n 0).length ≤ j by simp; omega)]
end Go.Proofs.YtgennilhbedmoaaGreatDoor
/-
  nat: trim, cmpInt, Cmp, One, Zero.
-/
namespace Go.Proofs.YtgennilhbedmoaaGreatDoor
open Go.RowKit KeepPlain

theorem RdU.first {w : World} {A : Option Addr} {n c : Nat} {l : List Nat} (h : RdU w (.slice A n c) l) (m : Nat) (hm : m ≤ n) : RdU w (.slice A m c) (l.take m) := by
  obtain ⟨A0, c0, hv, h1, h2, h3⟩ := h
  injection hv with e1 e2 e3
  subst e1 e2 e3
  rw [us_length] at h1 hm
  have hl : (l.take m).length = m := by simp; omega
  refine ⟨A, c, by rw [us_length, hl], by rw [us_length]; omega, h2, fun h0 => ?_⟩
  rw [us_length, hl] at h0
  obtain ⟨b, o, hA, hc⟩ := h3 (by rw [us_length]; omega)
  refine ⟨b, o, hA, fun i hi => ?_⟩
  rw [us_length, hl] at hi
  rw [hc i (by rw [us_length]; omega)]
  simp [us]
theorem RdU.slice {w : World} {A : Option Addr} {n c : Nat} {l : List Nat} (h : RdU w (.slice A n c) l) : n = l.length ∧ n ≤ c ∧ c ≤ maxLen ∧ ∀ i, i < l.length → ∃ b o, A = some ⟨b, o, none⟩ ∧ b < w.heap.size ∧ w.cell? ⟨b, o + i, none⟩ = some (.int .u32 (dg l i : Nat)) := by
  obtain ⟨A', c', hv, h1, h2, h3⟩ := h.open
  injection hv with e1 e2 e3
  subst e1 e2 e3
  exact ⟨rfl, h1, h2, h3⟩
set_option maxRecDepth 100000 in
set_option maxHeartbeats 1600000 in
theorem trim_any (A : Option Addr) (n c : Nat) (l : List Nat) (w : World) (h : RdU w (.slice A n c) l) (hd : ∀ x ∈ l, x < 1000000000) (hn : n ≤ 100000) :
    Calls Tryz.prog 46 #[.slice A n c] w fun e w' => ∃ m, e = .returned (.slice A m c) ∧ Hid (NV w (.slice A m c) (nv l)) ∧ w' = w := by
  have HR := Lib.hid h
  obtain ⟨rfl, hc1, hc2, hcell⟩ := h.slice
  have HC := Lib.hid hcell
  have HD := Lib.hid hd
  have HN := Lib.hid hn
  have HCC := Lib.hid hc1
  clear h hcell hd hn hc1 hc2
  go_enter Tryz.func46, Tryz.ntmps46
  go_wp2
  go_loopg [0] l.length (fun gk s0 wx => s0 = .slice A gk c ∧ gk ≤ l.length ∧ wx = w ∧ Hid (∀ j, gk ≤ j → dg l j = 0))
  case atStart => exact ⟨rfl, Nat.le_refl _, rfl, Lib.hid fun j hj => dg_far l j hj⟩
  case round =>
    obtain ⟨rfl, hgl, rfl, HZ⟩ := hrel
    have HE := Lib.hid (fun hl => show NV wr (.slice A gk c) (nv l) by
      have h1 := HR.out.first gk hgl
      rwa [nd_trim l HD.out gk hgl HZ.out hl] at h1)
    cases gk with
    | zero =>
      have HV := Lib.hid (HE.out (Or.inl rfl))
      clear HE
      go_wp2
      go_ret
      exact ⟨0, rfl, HV, rfl⟩
    | succ k =>
      obtain ⟨b, o, hA, hb, hc⟩ := HC.out k (by omega)
      subst hA
      have t1 : wrap64 (k : Int) = k := wrap64_in (by have := HN.out; omega)
      by_cases hx : dg l k = 0
      · rw [hx] at hc
        clear HE
        have t2 : (k : Int) ≤ (c : Int) := by have := HCC.out; omega
        go_wp2
        go_roundg k
        case measure => omega
        case rel => exact ⟨rfl, by omega, rfl, Lib.hid fun j hj => by
          rcases Nat.eq_or_lt_of_le hj with e | e
          · rw [← e]; exact hx
          · exact HZ.out j e⟩
      · have d : (((dg l k : Nat) : Int) == 0) = false := by simp; omega
        have HV := Lib.hid (HE.out (Or.inr hx))
        clear HE
        go_wp2
        go_ret
        exact ⟨k + 1, rfl, HV, rfl⟩
def cmpZ (a b : Int) : Int := if a < b then -1 else if b < a then 1 else 0
set_option maxRecDepth 100000 in
set_option maxHeartbeats 1600000 in
theorem cmpInt_any (x y : Int) (w : World) : Calls Tryz.prog 50 #[.int .i64 x, .int .i64 y] w fun e w' => e = .returned (.int .i64 (cmpZ x y)) ∧ w' = w := by
  unfold cmpZ
  by_cases h1 : x < y
  · rw [if_pos h1]
    go_enter Tryz.func50, Tryz.ntmps50
    go_wp2
    go_ret
    exact ⟨rfl, rfl⟩
  · by_cases h2 : y < x
    · rw [if_neg h1, if_pos h2]
      go_enter Tryz.func50, Tryz.ntmps50
      go_wp2
      go_ret
      exact ⟨rfl, rfl⟩
    · rw [if_neg h1, if_neg h2]
      go_enter Tryz.func50, Tryz.ntmps50
      go_wp2
      go_ret
      exact ⟨rfl, rfl⟩
set_option maxRecDepth 100000 in
set_option maxHeartbeats 1600000 in
theorem one_any (n : Nat) (v : Value) (w : World) (h : NV w v n) : Calls Tryz.prog 29 #[v] w fun e w' => e = .returned (.bool (decide (n = 1))) ∧ w' = w := by
  obtain ⟨A, c, rfl, h1, h2, hcell⟩ := RdU.open h
  have hv := nv_nd n
  have hneat := nd_neat n
  generalize nd n = l at *
  match l, hneat with
  | [], _ =>
    have hn : n = 0 := by rw [← hv]; rfl
    subst hn
    go_enter Tryz.func29, Tryz.ntmps29
    go_wp2
    go_ret
    exact ⟨rfl, rfl⟩
  | [x], _ =>
    obtain ⟨b, o, rfl, hb, hc⟩ := hcell 0 (by simp)
    have hx : dg [x] 0 = n := by
      rw [← hv]; show x = nv [x]; rw [nv_cons, nv_nil]; omega
    rw [hx] at hc
    rw [Nat.add_zero] at hc
    simp only [List.length_singleton]
    by_cases e : n = 1
    · rw [e] at hc
      rw [decide_eq_true e]
      clear e hv hx
      go_enter Tryz.func29, Tryz.ntmps29
      go_wp2
      go_ret
      exact ⟨rfl, rfl⟩
    · have d : ((n : Int) == 1) = false := by simp; omega
      rw [decide_eq_false e]
      clear e hv hx
      go_enter Tryz.func29, Tryz.ntmps29
      go_wp2
      go_ret
      exact ⟨rfl, rfl⟩
  | x :: y :: l, hneat =>
    have hn : n ≠ 1 := by
      intro e
      have h3 := neat_pos _ hneat (by simp)
      rw [hv, e] at h3
      have : 1 < 1000000000 ^ ((x :: y :: l).length - 1) := Nat.one_lt_pow (by simp) (by omega)
      omega
    rw [decide_eq_false hn]
    have hl : (x :: y :: l).length = l.length + 2 := by simp
    rw [hl]
    have d : (((l.length + 2 : Nat) : Int) == 1) = false := by simp; omega
    clear hn hcell hneat hv
    go_enter Tryz.func29, Tryz.ntmps29
    go_wp2
    go_ret
    exact ⟨rfl, rfl⟩
set_option maxRecDepth 100000 in
set_option maxHeartbeats 1600000 in
theorem zero_any (n : Nat) (v : Value) (w : World) (h : NV w v n) : Calls Tryz.prog 47 #[v] w fun e w' => e = .returned (.bool (decide (n = 0))) ∧ w' = w := by
  obtain ⟨A, c, rfl, h1, h2, hcell⟩ := RdU.open h
  by_cases e : n = 0
  · rw [decide_eq_true e]
    subst e
    rw [nd_zero] at *
    simp only [List.length_nil]
    go_enter Tryz.func47, Tryz.ntmps47
    go_wp2
    go_ret
    exact ⟨rfl, rfl⟩
  · rw [decide_eq_false e]
    have h0 : (nd n).length ≠ 0 := fun h => e ((nd_nil_iff n).1 (List.length_eq_zero_iff.1 h))
    generalize (nd n).length = k at *
    have d : ((k : Int) == 0) = false := by simp; omega
    clear e hcell
    go_enter Tryz.func47, Tryz.ntmps47
    go_wp2
    go_ret
    exact ⟨rfl, rfl⟩
end Go.Proofs.YtgennilhbedmoaaGreatDoor
/-
  nat: Cmp.
-/
namespace Go.Proofs.YtgennilhbedmoaaGreatDoor
open Go.RowKit KeepPlain

theorem nd_sv (n k : Nat) (h : (nd n).length ≤ k) : sv (dg (nd n)) k = n := by rw [nv_sv _ _ h, nv_nd]
theorem nd_dg_lt (n j : Nat) : dg (nd n) j < 1000000000 := dg_lt _ (nd_lt n) j
set_option maxRecDepth 100000 in
set_option maxHeartbeats 1600000 in
theorem cmp_any (a b : Nat) (u v : Value) (w : World) (hu : NV w u a) (hv : NV w v b) (hla : (nd a).length ≤ 1000) (hlb : (nd b).length ≤ 1000) :
    Calls Tryz.prog 33 #[u, v] w fun e w' => e = .returned (.int .i64 (cmpZ a b)) ∧ ∃ m, w' = w.drewN m := by
  obtain ⟨A, c, rfl, -, -, hA⟩ := RdU.open hu
  obtain ⟨B, d, rfl, -, -, hB⟩ := RdU.open hv
  have HA := Lib.hid hA
  have HB := Lib.hid hB
  have HLA := Lib.hid hla
  have HLB := Lib.hid hlb
  by_cases hl : (nd a).length = (nd b).length
  · have HZ := Lib.hid hl
    have d0 : (((nd a).length : Int) != (nd b).length) = false := by simp; omega
    have HLT := Lib.hid (show ∀ i, i < (nd a).length → (∀ j, i < j → j < (nd a).length → dg (nd a) j = dg (nd b) j) → (dg (nd a) i < dg (nd b) i → a < b) ∧ (dg (nd b) i < dg (nd a) i → b < a) from fun i hi he => by
      have e1 := nd_sv a (nd a).length (Nat.le_refl _)
      have e2 := nd_sv b (nd a).length (by omega)
      refine ⟨fun h => ?_, fun h => ?_⟩
      · have := top_lt hi (fun j _ => nd_dg_lt a j) he h
        omega
      · have := top_lt hi (fun j _ => nd_dg_lt b j) (fun j h1 h2 => (he j h1 h2).symm) h
        omega)
    have HEQ := Lib.hid (show (∀ j, 0 ≤ j → j < (nd a).length → dg (nd a) j = dg (nd b) j) → a = b from fun he => by
      have e1 := nd_sv a (nd a).length (Nat.le_refl _)
      have e2 := nd_sv b (nd a).length (by omega)
      rw [← e1, ← e2]
      exact sv_congr _ (fun j hj => he j (Nat.zero_le _) hj))
    have HK := Lib.hid (fun x y wx => cmpInt_any x y wx)
    clear hu hv hA hB hla hlb
    rw [hl] at d0 HA HLA HLT HEQ ⊢
    clear hl
    generalize (nd b).length = n at *
    go_enter Tryz.func33, Tryz.ntmps33
    go_wp2
    go_loopg [5] n (fun gk s5 wx => s5 = .int .i64 ((gk : Int) - 1) ∧ gk ≤ n ∧ (∃ m, wx = w.drewN m) ∧ Hid (∀ j, gk ≤ j → j < n → dg (nd a) j = dg (nd b) j))
    case atStart => exact ⟨congrArg (Value.int .i64) (wrap64_in (by have := HLA.out; omega)), Nat.le_refl _, ⟨0, rfl⟩, Lib.hid fun j h1 h2 => absurd h2 (by omega)⟩
    case round =>
      obtain ⟨rfl, hgn, ⟨m, rfl⟩, HE⟩ := hrel
      cases gk with
      | zero =>
        have HF := Lib.hid (HEQ.out HE.out)
        go_wp2
        go_ret
        refine ⟨?_, m, rfl⟩
        rw [HF.out]; simp [cmpZ]
      | succ k =>
        obtain ⟨b1, o1, rfl, -, c1⟩ := HA.out k (by omega)
        obtain ⟨b2, o2, rfl, -, c2⟩ := HB.out k (by omega)
        have HT := Lib.hid (HLT.out k (by omega) (fun j h1 h2 => HE.out j (by omega) h2))
        have HEK := Lib.hid (fun (e : dg (nd a) k = dg (nd b) k) j (h1 : k ≤ j) (h2 : j < n) => show dg (nd a) j = dg (nd b) j by
          rcases Nat.eq_or_lt_of_le h1 with e1 | e1
          · rw [← e1]; exact e
          · exact HE.out j (by omega) h2)
        clear HE
        rw [show (((k + 1 : Nat) : Int) - 1) = (k : Int) by omega]
        have hx := nd_dg_lt a k
        have hy := nd_dg_lt b k
        generalize dg (nd a) k = x at *
        generalize dg (nd b) k = y at *
        have w1 : wrap64 (x : Int) = x := wrap64_in (by omega)
        have w2 : wrap64 (y : Int) = y := wrap64_in (by omega)
        by_cases e : x = y
        · have HEE := Lib.hid (HEK.out e)
          subst e
          clear HEK HT hx hy
          have t1 : ((x : Int) != x) = false := by simp
          go_wp2
          go_quiet (fail)
          go_wp2
          go_roundg k
          case measure => omega
          case rel => exact ⟨congrArg (Value.int .i64) (wrap64_in (by have := HLA.out; omega)), by omega, ⟨_, rfl⟩, HEE⟩
        · have t1 : ((x : Int) != y) = true := by simp; omega
          have HF := Lib.hid (show cmpZ x y = cmpZ a b by
            unfold cmpZ
            by_cases h1 : x < y
            · have := HT.out.1 h1
              rw [if_pos (by omega), if_pos (by omega)]
            · have := HT.out.2 (by omega)
              rw [if_neg (by omega), if_pos (by omega), if_neg (by omega), if_pos (by omega)])
          clear HEK HT hx hy e
          have b0 : k < n := by omega
          have b9 : (k : Int) < n := by omega
          go_wp2
          go_quiet (fail)
          go_wp2
          go_quiet (first | (go_at_call 50; exact quiet_add_same (HK.out _ _ _)))
          go_wp2
          go_ret
          exact ⟨by rw [HF.out]; rfl, _, by rw [drew_eq, drew_eq]⟩
  · have HF := Lib.hid (show cmpZ ((nd a).length : Nat) ((nd b).length : Nat) = cmpZ a b by
      unfold cmpZ
      by_cases h1 : (nd a).length < (nd b).length
      · have := nd_len_lt h1
        rw [if_pos (by omega), if_pos (by omega)]
      · have := nd_len_lt (show (nd b).length < (nd a).length by omega)
        rw [if_neg (by omega), if_pos (by omega), if_neg (by omega), if_pos (by omega)])
    clear hu hv hA hB hla hlb HA HB
    generalize (nd b).length = n at *
    generalize (nd a).length = m at *
    have HK := Lib.hid (cmpInt_any m n w)
    have d0 : ((m : Int) != n) = true := by simp; omega
    clear hl
    go_enter Tryz.func33, Tryz.ntmps33
    go_wp2_with (go_at_call 50; refine HK.out.mono ?_; rintro e wz ⟨rfl, hz⟩; subst wz)
    go_ret
    exact ⟨by rw [HF.out]; rfl, 0, rfl⟩
end Go.Proofs.YtgennilhbedmoaaGreatDoor
