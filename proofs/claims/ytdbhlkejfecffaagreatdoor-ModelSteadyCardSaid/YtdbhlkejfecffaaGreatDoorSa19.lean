/-
  nat: trim, cmpInt, Cmp, One, Zero.
  nat: Cmp.
  nat: Add.
  nat: Sub.
-/
import Derived.Deep.LoopGhost
import Derived.Test.YtdbhlkejfecffaaGreatDoorSa5
/-
  nat: trim, cmpInt, Cmp, One, Zero.
-/
namespace Go.Proofs.YtdbhlkejfecffaaGreatDoor
open Go.RowKit KeepPlain

theorem RdU.first {w : World} {A : Option Addr} {n c : Nat} {l : List Nat} (h : RdU w (.slice A n c) l) (m : Nat) (hm : m ≤ n) : RdU w (.slice A m c) (l.take m) := by
  obtain ⟨A0, c0, hv, h1, h2, h3⟩ := h
  injection hv with e1 e2 e3
  subst e1 e2 e3
  rw [us_length] at h1 hm
  have hl : (l.take m).length = m := by simp; omega
  refine ⟨A, c, by rw [us_length, hl], by rw [us_length]; omega, h2, fun h0 => ?_⟩
  rw [us_length, hl] at h0
  obtain ⟨b, o, hA, hc⟩ := h3 (by rw [us_length]; omega)
  refine ⟨b, o, hA, fun i hi => ?_⟩
  rw [us_length, hl] at hi
  rw [hc i (by rw [us_length]; omega)]
  simp [us]
theorem RdU.slice {w : World} {A : Option Addr} {n c : Nat} {l : List Nat} (h : RdU w (.slice A n c) l) : n = l.length ∧ n ≤ c ∧ c ≤ maxLen ∧ ∀ i, i < l.length → ∃ b o, A = some ⟨b, o, none⟩ ∧ b < w.heap.size ∧ w.cell? ⟨b, o + i, none⟩ = some (.int .u32 (dg l i : Nat)) := by
  obtain ⟨A', c', hv, h1, h2, h3⟩ := h.open
  injection hv with e1 e2 e3
  subst e1 e2 e3
  exact ⟨rfl, h1, h2, h3⟩
set_option maxRecDepth 100000 in
set_option maxHeartbeats 1600000 in
theorem trim_any (A : Option Addr) (n c : Nat) (l : List Nat) (w : World) (h : RdU w (.slice A n c) l) (hd : ∀ x ∈ l, x < 1000000000) (hn : n ≤ 100000) :
    Calls Tryz.prog 88 #[.slice A n c] w fun e w' => ∃ m, e = .returned (.slice A m c) ∧ Hid (NV w (.slice A m c) (nv l)) ∧ w' = w := by
  have HR := Lib.hid h
  obtain ⟨rfl, hc1, hc2, hcell⟩ := h.slice
  have HC := Lib.hid hcell
  have HD := Lib.hid hd
  have HN := Lib.hid hn
  have HCC := Lib.hid hc1
  clear h hcell hd hn hc1 hc2
  go_enter Tryz.func88, Tryz.ntmps88
  go_wp2
  go_loopg [0] l.length (fun gk s0 wx => s0 = .slice A gk c ∧ gk ≤ l.length ∧ wx = w ∧ Hid (∀ j, gk ≤ j → dg l j = 0))
  case atStart => exact ⟨rfl, Nat.le_refl _, rfl, Lib.hid fun j hj => dg_far l j hj⟩
  case round =>
    obtain ⟨rfl, hgl, rfl, HZ⟩ := hrel
    have HE := Lib.hid (fun hl => show NV wr (.slice A gk c) (nv l) by
      have h1 := HR.out.first gk hgl
      rwa [nd_trim l HD.out gk hgl HZ.out hl] at h1)
    cases gk with
    | zero =>
      have HV := Lib.hid (HE.out (Or.inl rfl))
      clear HE
      go_wp2
      go_ret
      exact ⟨0, rfl, HV, rfl⟩
    | succ k =>
      obtain ⟨b, o, hA, hb, hc⟩ := HC.out k (by omega)
      subst hA
      have t1 : wrap64 (k : Int) = k := wrap64_in (by have := HN.out; omega)
      by_cases hx : dg l k = 0
      · rw [hx] at hc
        clear HE
        have t2 : (k : Int) ≤ (c : Int) := by have := HCC.out; omega
        go_wp2
        go_roundg k
        case measure => omega
        case rel => exact ⟨rfl, by omega, rfl, Lib.hid fun j hj => by
          rcases Nat.eq_or_lt_of_le hj with e | e
          · rw [← e]; exact hx
          · exact HZ.out j e⟩
      · have d : (((dg l k : Nat) : Int) == 0) = false := by simp; omega
        have HV := Lib.hid (HE.out (Or.inr hx))
        clear HE
        go_wp2
        go_ret
        exact ⟨k + 1, rfl, HV, rfl⟩
def cmpZ (a b : Int) : Int := if a < b then -1 else if b < a then 1 else 0
set_option maxRecDepth 100000 in
set_option maxHeartbeats 1600000 in
theorem cmpInt_any (x y : Int) (w : World) : Calls Tryz.prog 161 #[.int .i64 x, .int .i64 y] w fun e w' => e = .returned (.int .i64 (cmpZ x y)) ∧ w' = w := by
  unfold cmpZ
  by_cases h1 : x < y
  · rw [if_pos h1]
    go_enter Tryz.func161, Tryz.ntmps161
    go_wp2
    go_ret
    exact ⟨rfl, rfl⟩
  · by_cases h2 : y < x
    · rw [if_neg h1, if_pos h2]
      go_enter Tryz.func161, Tryz.ntmps161
      go_wp2
      go_ret
      exact ⟨rfl, rfl⟩
    · rw [if_neg h1, if_neg h2]
      go_enter Tryz.func161, Tryz.ntmps161
      go_wp2
      go_ret
      exact ⟨rfl, rfl⟩
set_option maxRecDepth 100000 in
set_option maxHeartbeats 1600000 in
theorem one_any (n : Nat) (v : Value) (w : World) (h : NV w v n) : Calls Tryz.prog 85 #[v] w fun e w' => e = .returned (.bool (decide (n = 1))) ∧ w' = w := by
  obtain ⟨A, c, rfl, h1, h2, hcell⟩ := RdU.open h
  have hv := nv_nd n
  have hneat := nd_neat n
  generalize nd n = l at *
  match l, hneat with
  | [], _ =>
    have hn : n = 0 := by rw [← hv]; rfl
    subst hn
    go_enter Tryz.func85, Tryz.ntmps85
    go_wp2
    go_ret
    exact ⟨rfl, rfl⟩
  | [x], _ =>
    obtain ⟨b, o, rfl, hb, hc⟩ := hcell 0 (by simp)
    have hx : dg [x] 0 = n := by
      rw [← hv]; show x = nv [x]; rw [nv_cons, nv_nil]; omega
    rw [hx] at hc
    rw [Nat.add_zero] at hc
    simp only [List.length_singleton]
    by_cases e : n = 1
    · rw [e] at hc
      rw [decide_eq_true e]
      clear e hv hx
      go_enter Tryz.func85, Tryz.ntmps85
      go_wp2
      go_ret
      exact ⟨rfl, rfl⟩
    · have d : ((n : Int) == 1) = false := by simp; omega
      rw [decide_eq_false e]
      clear e hv hx
      go_enter Tryz.func85, Tryz.ntmps85
      go_wp2
      go_ret
      exact ⟨rfl, rfl⟩
  | x :: y :: l, hneat =>
    have hn : n ≠ 1 := by
      intro e
      have h3 := neat_pos _ hneat (by simp)
      rw [hv, e] at h3
      have : 1 < 1000000000 ^ ((x :: y :: l).length - 1) := Nat.one_lt_pow (by simp) (by omega)
      omega
    rw [decide_eq_false hn]
    have hl : (x :: y :: l).length = l.length + 2 := by simp
    rw [hl]
    have d : (((l.length + 2 : Nat) : Int) == 1) = false := by simp; omega
    clear hn hcell hneat hv
    go_enter Tryz.func85, Tryz.ntmps85
    go_wp2
    go_ret
    exact ⟨rfl, rfl⟩
set_option maxRecDepth 100000 in
set_option maxHeartbeats 1600000 in
theorem zero_any (n : Nat) (v : Value) (w : World) (h : NV w v n) : Calls Tryz.prog 84 #[v] w fun e w' => e = .returned (.bool (decide (n = 0))) ∧ w' = w := by
  obtain ⟨A, c, rfl, h1, h2, hcell⟩ := RdU.open h
  by_cases e : n = 0
  · rw [decide_eq_true e]
    subst e
    rw [nd_zero] at *
    simp only [List.length_nil]
    go_enter Tryz.func84, Tryz.ntmps84
    go_wp2
    go_ret
    exact ⟨rfl, rfl⟩
  · rw [decide_eq_false e]
    have h0 : (nd n).length ≠ 0 := fun h => e ((nd_nil_iff n).1 (List.length_eq_zero_iff.1 h))
    generalize (nd n).length = k at *
    have d : ((k : Int) == 0) = false := by simp; omega
    clear e hcell
    go_enter Tryz.func84, Tryz.ntmps84
    go_wp2
    go_ret
    exact ⟨rfl, rfl⟩
end Go.Proofs.YtdbhlkejfecffaaGreatDoor
/-
  nat: Cmp.
-/
namespace Go.Proofs.YtdbhlkejfecffaaGreatDoor
open Go.RowKit KeepPlain

theorem nd_sv (n k : Nat) (h : (nd n).length ≤ k) : sv (dg (nd n)) k = n := by rw [nv_sv _ _ h, nv_nd]
theorem nd_dg_lt (n j : Nat) : dg (nd n) j < 1000000000 := dg_lt _ (nd_lt n) j
set_option maxRecDepth 100000 in
set_option maxHeartbeats 1600000 in
theorem cmp_any (a b : Nat) (u v : Value) (w : World) (hu : NV w u a) (hv : NV w v b) (hla : (nd a).length ≤ 1000) (hlb : (nd b).length ≤ 1000) :
    Calls Tryz.prog 116 #[u, v] w fun e w' => e = .returned (.int .i64 (cmpZ a b)) ∧ ∃ m, w' = w.drewN m := by
  obtain ⟨A, c, rfl, -, -, hA⟩ := RdU.open hu
  obtain ⟨B, d, rfl, -, -, hB⟩ := RdU.open hv
  have HA := Lib.hid hA
  have HB := Lib.hid hB
  have HLA := Lib.hid hla
  have HLB := Lib.hid hlb
  by_cases hl : (nd a).length = (nd b).length
  · have HZ := Lib.hid hl
    have d0 : (((nd a).length : Int) != (nd b).length) = false := by simp; omega
    have HLT := Lib.hid (show ∀ i, i < (nd a).length → (∀ j, i < j → j < (nd a).length → dg (nd a) j = dg (nd b) j) → (dg (nd a) i < dg (nd b) i → a < b) ∧ (dg (nd b) i < dg (nd a) i → b < a) from fun i hi he => by
      have e1 := nd_sv a (nd a).length (Nat.le_refl _)
      have e2 := nd_sv b (nd a).length (by omega)
      refine ⟨fun h => ?_, fun h => ?_⟩
      · have := top_lt hi (fun j _ => nd_dg_lt a j) he h
        omega
      · have := top_lt hi (fun j _ => nd_dg_lt b j) (fun j h1 h2 => (he j h1 h2).symm) h
        omega)
    have HEQ := Lib.hid (show (∀ j, 0 ≤ j → j < (nd a).length → dg (nd a) j = dg (nd b) j) → a = b from fun he => by
      have e1 := nd_sv a (nd a).length (Nat.le_refl _)
      have e2 := nd_sv b (nd a).length (by omega)
      rw [← e1, ← e2]
      exact sv_congr _ (fun j hj => he j (Nat.zero_le _) hj))
    have HK := Lib.hid (fun x y wx => cmpInt_any x y wx)
    clear hu hv hA hB hla hlb
    rw [hl] at d0 HA HLA HLT HEQ ⊢
    clear hl
    generalize (nd b).length = n at *
    go_enter Tryz.func116, Tryz.ntmps116
    go_wp2
    go_loopg [5] n (fun gk s5 wx => s5 = .int .i64 ((gk : Int) - 1) ∧ gk ≤ n ∧ (∃ m, wx = w.drewN m) ∧ Hid (∀ j, gk ≤ j → j < n → dg (nd a) j = dg (nd b) j))
    case atStart => exact ⟨congrArg (Value.int .i64) (wrap64_in (by have := HLA.out; omega)), Nat.le_refl _, ⟨0, rfl⟩, Lib.hid fun j h1 h2 => absurd h2 (by omega)⟩
    case round =>
      obtain ⟨rfl, hgn, ⟨m, rfl⟩, HE⟩ := hrel
      cases gk with
      | zero =>
        have HF := Lib.hid (HEQ.out HE.out)
        go_wp2
        go_ret
        refine ⟨?_, m, rfl⟩
        rw [HF.out]; simp [cmpZ]
      | succ k =>
        obtain ⟨b1, o1, rfl, -, c1⟩ := HA.out k (by omega)
        obtain ⟨b2, o2, rfl, -, c2⟩ := HB.out k (by omega)
        have HT := Lib.hid (HLT.out k (by omega) (fun j h1 h2 => HE.out j (by omega) h2))
        have HEK := Lib.hid (fun (e : dg (nd a) k = dg (nd b) k) j (h1 : k ≤ j) (h2 : j < n) => show dg (nd a) j = dg (nd b) j by
          rcases Nat.eq_or_lt_of_le h1 with e1 | e1
          · rw [← e1]; exact e
          · exact HE.out j (by omega) h2)
        clear HE
        rw [show (((k + 1 : Nat) : Int) - 1) = (k : Int) by omega]
        have hx := nd_dg_lt a k
        have hy := nd_dg_lt b k
        generalize dg (nd a) k = x at *
        generalize dg (nd b) k = y at *
        have w1 : wrap64 (x : Int) = x := wrap64_in (by omega)
        have w2 : wrap64 (y : Int) = y := wrap64_in (by omega)
        by_cases e : x = y
        · have HEE := Lib.hid (HEK.out e)
          subst e
          clear HEK HT hx hy
          have t1 : ((x : Int) != x) = false := by simp
          go_wp2
          go_quiet (fail)
          go_wp2
          go_roundg k
          case measure => omega
          case rel => exact ⟨congrArg (Value.int .i64) (wrap64_in (by have := HLA.out; omega)), by omega, ⟨_, rfl⟩, HEE⟩
        · have t1 : ((x : Int) != y) = true := by simp; omega
          have HF := Lib.hid (show cmpZ x y = cmpZ a b by
            unfold cmpZ
            by_cases h1 : x < y
            · have := HT.out.1 h1
              rw [if_pos (by omega), if_pos (by omega)]
            · have := HT.out.2 (by omega)
              rw [if_neg (by omega), if_pos (by omega), if_neg (by omega), if_pos (by omega)])
          clear HEK HT hx hy e
          have b0 : k < n := by omega
          have b9 : (k : Int) < n := by omega
          go_wp2
          go_quiet (fail)
          go_wp2
          go_quiet (first | (go_at_call 161; exact quiet_add_same (HK.out _ _ _)))
          go_wp2
          go_ret
          exact ⟨by rw [HF.out]; rfl, _, by rw [drew_eq, drew_eq]⟩
  · have HF := Lib.hid (show cmpZ ((nd a).length : Nat) ((nd b).length : Nat) = cmpZ a b by
      unfold cmpZ
      by_cases h1 : (nd a).length < (nd b).length
      · have := nd_len_lt h1
        rw [if_pos (by omega), if_pos (by omega)]
      · have := nd_len_lt (show (nd b).length < (nd a).length by omega)
        rw [if_neg (by omega), if_pos (by omega), if_neg (by omega), if_pos (by omega)])
    clear hu hv hA hB hla hlb HA HB
    generalize (nd b).length = n at *
    generalize (nd a).length = m at *
    have HK := Lib.hid (cmpInt_any m n w)
    have d0 : ((m : Int) != n) = true := by simp; omega
    clear hl
    go_enter Tryz.func116, Tryz.ntmps116
    go_wp2_with (go_at_call 161; refine HK.out.mono ?_; rintro e wz ⟨rfl, hz⟩; subst wz)
    go_ret
    exact ⟨by rw [HF.out]; rfl, 0, rfl⟩
end Go.Proofs.YtdbhlkejfecffaaGreatDoor
/-
  nat: Add.
-/
namespace Go.Proofs.YtdbhlkejfecffaaGreatDoor
open Go.RowKit KeepPlain

/-- One digit is appended to a row of digits. -/
theorem wpList_appU {w : World} {ops : Array Oper} {rest : List Oper} {o : Oper} {a : Act} {Q : Exit → Act → World → Prop} (hgd : o.guard = none) (s x : Operand)
    (ho : o.op = .call { callee := .builtin .append, args := #[s, x], argTypes := #[83, 83] })
    (base : Nat) (v : Value) (n : Nat) (l : List Nat) (hs : a.eval s = v) (hown : w.ownsRow base 127 1 v n (us l))
    (u : Nat) (b : Nat) (hx : a.eval x = .slice (some ⟨b, 0, none⟩) 1 1) (hc : w.cell? ⟨b, 0, none⟩ = some (.int .u32 (u : Int))) (hlen : n ≤ 100000) (hbase : base ≤ w.heap.size)
    (h : ∀ g cap w', w'.ownsRow base 127 1 (.slice (some ⟨g, 0, none⟩) (n + 1) cap) (n + 1) (us (l ++ [u])) → Below base w w' → wpList Tryz.prog ops Q rest (a.put o.dst (.slice (some ⟨g, 0, none⟩) (n + 1) cap)) w') : wpList Tryz.prog ops Q (o :: rest) a w := by
  obtain ⟨i0, hi, hz0, hz1, hz2⟩ := partsU
  exact wpList_append_lies w hgd s x 83 ho base 127 i0 (.int .u32 0) 1 4 Tryz.underlying83 hi hz0 hz1 hz2 rfl (by decide) v n _ hs hown ⟨b, 0, none⟩ 1 1 [.int .u32 (u : Int)] hx rfl (fun j y hj => by
    have : j = 0 := by
      have := (List.getElem?_eq_some_iff.1 hj).1
      simp at this; exact this
    subst this
    have e : y = .int .u32 (u : Int) := by simpa using hj.symm
    rw [e]; exact hc) (one_int _ _) Nat.one_pos (by unfold maxLen; omega) (by omega) hbase _ rfl (fun g cap w' h2 h3 _ _ => h g cap w' (by rw [us_snoc] at h2; exact h2) (Below.ofGrown h3 hbase (ownsRow_base hown)))
theorem run_makeU0 (c : Nat) (hc : c ≤ 100000) (W : World) : Sem.run Tryz.prog (Instr.makeSlice 83 (.int .i64 0) (.int .i64 c)) W = .ok (.slice (some ⟨W.heap.size, 0, none⟩) 0 c) (W.alloc (.cells (us (List.replicate c 0)).toArray 127)) := makeU 0 c (Nat.zero_le _) hc W
theorem own_makeU (c : Nat) (hc : c ≤ 100000) (W : World) : (W.alloc (.cells (us (List.replicate c 0)).toArray 127)).ownsRow W.heap.size 127 1 (.slice (some ⟨W.heap.size, 0, none⟩) 0 c) 0 (us []) :=
  World.ownsRow_made W _ c (Nat.le_refl _) (by unfold maxLen; omega) (by simp [us])
/-- The digits of a sum. -/
theorem nd_sum {l : List Nat} {a b n c : Nat} (hd : ∀ x ∈ l, x < 1000000000) (hn : l.length = n) (ha : (nd a).length ≤ n) (hb : (nd b).length ≤ n) (hm : (nd a).length = n) (h : sv (dg l) n + c * 1000000000 ^ n = sv (dg (nd a)) n + sv (dg (nd b)) n) (hc : c ≤ 1) :
    (c = 0 → l = nd (a + b)) ∧ (c = 1 → l ++ [1] = nd (a + b)) := by
  rw [nd_sv a n ha, nd_sv b n hb] at h
  have hl : sv (dg l) n = nv l := nv_sv l n (by omega)
  rw [hl] at h
  constructor
  · rintro rfl
    have hv : nv l = a + b := by omega
    rw [← hv, nd_nv]
    refine ⟨hd, fun e => ?_⟩
    have h0 : n ≠ 0 := by rintro rfl; rw [List.length_eq_zero_iff.1 hn] at e; simp at e
    have h1 : 1000000000 ^ (n - 1) ≤ a := by
      have := neat_pos (nd a) (nd_neat a) (fun e => h0 (by rw [← hm, e]; rfl))
      rw [nv_nd, hm] at this; exact this
    have h2 : nv l < 1000000000 ^ (n - 1) := by
      have e1 : dg l (n - 1) = 0 := by
        unfold dg
        rw [List.getLast?_eq_getElem?, hn] at e
        rw [List.getD_eq_getElem?_getD, e]; rfl
      rw [← hl, show n = n - 1 + 1 by omega, sv_top e1]
      have := sv_lt (d := dg l) (n - 1) (fun j _ => dg_lt l hd j)
      simpa using this
    omega
  · rintro rfl
    have hv : nv (l ++ [1]) = a + b := by rw [nv_snoc, hn]; omega
    rw [← hv, nd_nv]
    refine ⟨fun x hx => ?_, by simp⟩
    rcases List.mem_append.1 hx with h1 | h1
    · exact hd x h1
    · rw [List.mem_singleton.1 h1]; omega
end Go.Proofs.YtdbhlkejfecffaaGreatDoor
/-
  nat: Sub.
-/
namespace Go.Proofs.YtdbhlkejfecffaaGreatDoor
open Go.RowKit KeepPlain

/-- A digit is written. -/
theorem blk_setU {w : World} {g : Nat} {l : List Nat} (h : Blk w g (us l) 127) (p x : Nat) : Blk (w.setCell ⟨g, p, none⟩ (.int .u32 (x : Int))) g (us (l.set p x)) 127 := by
  have := h.set p (.int .u32 (x : Int))
  rwa [us_set] at this
theorem blk_cellU {w : World} {g : Nat} {l : List Nat} (h : Blk w g (us l) 127) (p : Nat) (hp : p < l.length) : w.cell? ⟨g, p, none⟩ = some (.int .u32 (dg l p : Nat)) := by
  rw [h.cell p, us_get l p hp]
theorem set_lt {l : List Nat} (h : ∀ x ∈ l, x < 1000000000) (p x : Nat) (hx : x < 1000000000) : ∀ y ∈ l.set p x, y < 1000000000 := by
  intro y hy
  rcases List.mem_or_eq_of_mem_set hy with h1 | h1
  · exact h y h1
  · rw [h1]; exact hx
theorem rep_lt (n : Nat) : ∀ y ∈ List.replicate n 0, y < 1000000000 := by
  intro y hy
  rw [List.eq_of_mem_replicate hy]; omega
theorem blk_rdU {w : World} {g : Nat} {l : List Nat} (h : Blk w g (us l) 127) (n c : Nat) (hn : n = l.length) (hc : n ≤ c) (hm : c ≤ maxLen) : RdU w (.slice (some ⟨g, 0, none⟩) n c) l := by
  have := rdu_blk h 0 n c (by omega) hc hm
  rwa [List.drop_zero, List.take_of_length_le (by omega)] at this
theorem sub_end {o : List Nat} {a b n c : Nat} (hd : ∀ x ∈ o, x < 1000000000) (hn : o.length = n) (ha : (nd a).length = n) (hb : (nd b).length ≤ n) (hba : b ≤ a) (h : sv (dg o) n + sv (dg (nd b)) n = sv (dg (nd a)) n + c * 1000000000 ^ n) : nv o = a - b := by
  rw [nd_sv a n (by omega), nd_sv b n hb] at h
  have h1 := sv_lt (d := dg o) n (fun j _ => dg_lt o hd j)
  rw [nv_sv o n (by omega)] at h h1
  rcases Nat.eq_zero_or_pos c with e | e
  · subst e; omega
  · have : 1 * 1000000000 ^ n ≤ c * 1000000000 ^ n := Nat.mul_le_mul_right _ e
    omega
end Go.Proofs.YtdbhlkejfecffaaGreatDoor
