/-
  models: rank: the stable sort of numbers by a comparison of scores.
  models: weights.
-/
import Derived.Test.YtdbhlkejfecffaaGreatDoorSa15
/-
  models: rank: the stable sort of numbers by a comparison of scores.
-/
namespace Go.Proofs.YtdbhlkejfecffaaGreatDoor
open Go.RowKit

def cmp3 (x y : Int) : Int := if x < y then -1 else if y < x then 1 else 0
theorem isNaN_any (x : Int) (w : World) : Calls Tryz.prog 83 #[.int .i64 x] w fun e w' => e = .returned (.bool false) ∧ w = w' := by
  go_enter Tryz.func83, Tryz.ntmps83
  go_wp2
  go_ret
  exact ⟨by simp, rfl⟩
set_option maxHeartbeats 400000 in
theorem compare_any (x y : Int) (w : World) : Calls Tryz.prog 62 #[.int .i64 x, .int .i64 y] w fun e w' => e = .returned (.int .i64 (cmp3 x y)) ∧ w' = w := by
  rcases Int.lt_trichotomy x y with h | h | h
  · have HE := Lib.hid (show cmp3 x y = -1 by unfold cmp3; rw [if_pos h])
    go_enter Tryz.func62, Tryz.ntmps62
    go_wp2_with (go_at_call 83; refine (isNaN_any _ _).mono ?_; rintro e w' ⟨rfl, rfl⟩)
    go_ret
    exact ⟨ret_intA HE.out.symm, rfl⟩
  · have HE := Lib.hid (show cmp3 x y = 0 by unfold cmp3; rw [if_neg (by omega), if_neg (by omega)])
    subst h
    go_enter Tryz.func62, Tryz.ntmps62
    go_wp2_with (go_at_call 83; refine (isNaN_any _ _).mono ?_; rintro e w' ⟨rfl, rfl⟩)
    go_ret
    exact ⟨ret_intA HE.out.symm, rfl⟩
  · have HE := Lib.hid (show cmp3 x y = 1 by unfold cmp3; rw [if_neg (by omega), if_pos h])
    go_enter Tryz.func62, Tryz.ntmps62
    go_wp2_with (go_at_call 83; refine (isNaN_any _ _).mono ?_; rintro e w' ⟨rfl, rfl⟩)
    go_ret
    exact ⟨ret_intA HE.out.symm, rfl⟩
set_option maxRecDepth 100000 in
set_option maxHeartbeats 800000 in
theorem rankCmp_any (lb lo lc bx n : Nat) (sl : List Int) (a b : Int) (w : World) (hbx : w.cell? ⟨bx, 0, none⟩ = some (.slice (some ⟨lb, lo, none⟩) n lc)) (hl : RdAt w lb lo lc sl) (hsl : sl.length = n) (ha : 0 ≤ a ∧ a < n) (hb : 0 ≤ b ∧ b < n) :
    Calls Tryz.prog 61 #[.int .i64 a, .int .i64 b, .pointer (some ⟨bx, 0, none⟩)] w fun e w' => e = .returned (.int .i64 (cmp3 (scF sl b) (scF sl a))) ∧ ∃ m, w' = w.drewN m := by
  obtain ⟨i, rfl⟩ : ∃ i : Nat, a = i := ⟨a.toNat, by omega⟩
  obtain ⟨j, rfl⟩ : ∃ j : Nat, b = j := ⟨b.toNat, by omega⟩
  have c1 := hl.2.2 i (by omega)
  have c2 := hl.2.2 j (by omega)
  have t1 : (i : Int) < n := ha.2
  have t2 : (j : Int) < n := hb.2
  unfold scF
  rw [show (((j : Nat) : Int)).toNat = j by omega, show (((i : Nat) : Int)).toNat = i by omega]
  generalize sl.getD i 0 = x at *
  generalize sl.getD j 0 = y at *
  clear hl ha hb hsl
  go_enter Tryz.func61, Tryz.ntmps61
  go_wp2
  go_quiet (first | (go_at_call 62; exact Calls.quiet_of_same (compare_any _ _ _)))
  go_wp2
  go_ret
  exact ⟨rfl, _, rfl⟩
theorem iget (xs : List Int) {i : Nat} (h : i < xs.length) : (ints xs)[i]? = some (.int .i64 (xs.getD i 0)) := by simp [ints, List.getD, h]
theorem cmp3_lt (x y : Int) : cmp3 x y < 0 ↔ x < y := by unfold cmp3; split <;> (try split) <;> omega
set_option maxRecDepth 100000 in
set_option maxHeartbeats 1600000 in
theorem rankIns_any (lb lo lc bx g c n : Nat) (sl xs : List Int) (w : World) (hbx : w.cell? ⟨bx, 0, none⟩ = some (.slice (some ⟨lb, lo, none⟩) n lc)) (hl : RdAt w lb lo lc sl) (hsl : sl.length = n) (hn16 : n ≤ 16) (hn1 : 1 ≤ n) (h1 : bx < g) (h2 : lb < g)
    (hb : Blk w g (ints xs) 3) (hx : ∀ x, x ∈ xs → 0 ≤ x ∧ x < n) (hn : xs.length = n) :
    Calls Tryz.prog 112 #[.slice (some ⟨g, 0, none⟩) n c, .int .i64 0, .int .i64 n, .func (.func 61) #[] #[.pointer (some ⟨bx, 0, none⟩)]] w fun e w' => e = .returned (.tuple #[]) ∧ Hid (Below g w w') ∧ Hid (Blk w' g (ints (insOut (scF sl) xs (n - 1))) 3) := by
  have HCM := Lib.hid (fun (wx : World) (hw : Below g w wx) (a b : Int) (ha : 0 ≤ a ∧ a < n) (hb : 0 ≤ b ∧ b < n) => rankCmp_any lb lo lc bx n sl a b wx (by rw [hw.cell (p := ⟨bx, 0, none⟩) h1]; exact hbx) ⟨hl.1, hl.2.1, fun i hi => by rw [hw.cell (p := ⟨lb, lo + i, none⟩) h2]; exact hl.2.2 i hi⟩ hsl ha hb)
  have HB := Lib.hid hb
  have HX := Lib.hid hx
  have HN := Lib.hid hn
  have HP := Lib.hid (fun i (hi : i < n) => insOut_perm (scF sl) xs i (.inl (by omega)))
  clear hbx hl hsl h1 h2 hb hx hn
  go_enter Tryz.func112, Tryz.ntmps112
  go_wp2
  go_loopg [8] n (fun gk s8 wx => ∃ i : Nat, s8 = .int .i64 ((i + 1 : Nat) : Int) ∧ i + 1 ≤ n ∧ Hid (Below g w wx) ∧ Hid (Blk wx g (ints (insOut (scF sl) xs i)) 3) ∧ gk = n - i)
  case atStart => exact ⟨0, by go_num, hn1, Lib.hid (Below.refl _ _), HB, rfl⟩
  case round =>
    obtain ⟨i, rfl, hi1, HB1, HK1, rfl⟩ := hrel
    by_cases hlt : i + 1 < n
    · have ti : ((i + 1 : Nat) : Int) < n := by omega
      have ti' : decide (((i + 1 : Nat) : Int) < n) = true := decide_eq_true ti
      have ti2 : decide ((i : Int) + 1 < (n : Int)) = true := decide_eq_true (by omega)
      have HPI := Lib.hid (HP.out i (by omega))
      have HEQ := Lib.hid (show insIn (scF sl) (insOut (scF sl) xs i) (i + 1) = insOut (scF sl) xs (i + 1) from rfl)
      generalize insOut (scF sl) xs i = ys at *
      go_wp2
      go_loopg [9] (i + 2) (fun gk s9 wx => ∃ zs : List Int, ∃ j : Nat, s9 = .int .i64 j ∧ j ≤ i + 1 ∧ Hid (Below g w wx) ∧ Hid (Blk wx g (ints zs) 3) ∧ Hid (zs.Perm xs) ∧ Hid (insIn (scF sl) zs j = insOut (scF sl) xs (i + 1)) ∧ gk = j + 1)
      case atStart => exact ⟨ys, i + 1, rfl, Nat.le_refl _, HB1, HK1, HPI, HEQ, rfl⟩
      case round =>
        obtain ⟨zs, j, rfl, hji, HB2, HK2, HP2, HE2, rfl⟩ := hrel
        rcases Nat.eq_zero_or_pos j with rfl | hj0
        · have t0 : decide ((0 : Int) < ((0 : Nat) : Int)) = false := by decide
          go_wp2
          go_quiet (fail)
          go_wp2
          go_roundg (n - (i + 1))
          case measure => omega
          case rel => exact ⟨i + 1, by go_num, by omega, Lib.hid (below_drewN HB2.out _), Lib.hid (by rw [← HE2.out]; exact HK2.out.drewN _), rfl⟩
        · obtain ⟨m, rfl⟩ : ∃ m, j = m + 1 := ⟨j - 1, by omega⟩
          have hlen2 : zs.length = n := by rw [HP2.out.length_eq, HN.out]
          have hm1 : m + 1 < zs.length := by omega
          have ha := HX.out _ (HP2.out.mem_iff.1 (getD_mem hm1))
          have hb := HX.out _ (HP2.out.mem_iff.1 (getD_mem (show m < zs.length by omega)))
          have q1 : wr.cell? ⟨g, m + 1, none⟩ = _ := (HK2.out.cell (m + 1)).trans (iget zs hm1)
          have q0 : wr.cell? ⟨g, m, none⟩ = _ := (HK2.out.cell m).trans (iget zs (by omega : m < zs.length))
          have hcmp := HCM.out (wr.drewN 1) (below_drewN HB2.out 1) _ _ ha hb
          have HCMP := Lib.hid hcmp
          have HSW := Lib.hid (show ((zs.set (m + 1) (zs.getD m 0)).set m (zs.getD (m + 1) 0)).Perm zs by
            rw [show zs.getD m 0 = zs[m] by simp [List.getD, show m < zs.length by omega], show zs.getD (m + 1) 0 = zs[m + 1] by simp [List.getD, hm1]]
            exact List.set_set_perm hm1 (by omega))
          have HST := Lib.hid (show insIn (scF sl) zs (m + 1) = if scF sl (zs.getD m 0) < scF sl (zs.getD (m + 1) 0) then insIn (scF sl) ((zs.set (m + 1) (zs.getD m 0)).set m (zs.getD (m + 1) 0)) m else zs from rfl)
          have HSET := Lib.hid (show ∀ (x y : Int), ((ints zs).set (m + 1) (.int .i64 x)).set m (.int .i64 y) = ints ((zs.set (m + 1) x).set m y) from fun x y => by rw [ints_set, ints_set])
          clear ha hb hcmp
          generalize zs.getD (m + 1) 0 = z1 at q1 HCMP HSW HST
          generalize zs.getD m 0 = z0 at q0 HCMP HSW HST
          have tm : m + 1 < n := by omega
          have hcm := cmp3_lt (scF sl z0) (scF sl z1)
          have HCC := Lib.hid hcm
          clear hlen2 hm1 hcm
          have t0 : decide ((0 : Int) < ((m + 1 : Nat) : Int)) = true := by simp
          have t1 : 0 ≤ (m : Int) + 1 := by omega
          have t2 : (m : Int) + 1 < n := by omega
          have t6 : IntKind.i64.wrap (m : Int) = m := IntWalk.i64_in _ (by omega)
          have t5 : ((m : Nat) : Int) < n := by omega
          go_wp2
          refine wp_region_still_tail 14 (by kernel_rfl) (by kernel_rfl) ?_
          simp only [List.take_succ_cons, List.take_zero, List.drop_succ_cons, List.drop_zero]
          repeat still_step
          refine wpStill_nil ?_
          go_wp2_with fail
          refine HCMP.out.mono ?_
          rintro e w3 ⟨rfl, k3, hw3⟩
          have hk3 : Blk w3 g (ints zs) 3 := by rw [hw3]; exact (HK2.out.drewN 1).drewN k3
          have HB3 := Lib.hid (show Below g w w3 by rw [hw3]; exact below_drewN (below_drewN HB2.out 1) _)
          have p1 : w3.cell? ⟨g, m + 1, none⟩ = some (.int .i64 z1) := by rw [hw3]; exact q1
          have p0 : w3.cell? ⟨g, m, none⟩ = some (.int .i64 z0) := by rw [hw3]; exact q0
          have f3 := hk3.frozen
          have HK3 := Lib.hid hk3
          clear hk3 q1 q0 hw3
          generalize cmp3 (scF sl z0) (scF sl z1) = cv at HCC ⊢
          by_cases hc : cv < 0
          · have HL := Lib.hid (HCC.out.1 hc)
            go_wp2
            go_region
            go_wp2
            go_roundg (m + 1)
            case measure => omega
            case rel =>
              refine ⟨(zs.set (m + 1) z0).set m z1, m, by go_num, by omega, Lib.hid ?_, Lib.hid ?_, Lib.hid (HSW.out.trans HP2.out), Lib.hid ?_, rfl⟩
              · exact (HB3.out.drew.setCell (Nat.le_refl _) _).setCell (Nat.le_refl _) _
              · have := ((HK3.out.drew).set (m + 1) (.int .i64 z0)).set m (.int .i64 z1)
                rw [HSET.out] at this
                exact this
              · rw [← HE2.out, HST.out, if_pos HL.out]
          · have d1 : decide (cv < 0) = false := decide_eq_false hc
            have HL := Lib.hid (fun h => hc (HCC.out.2 h))
            go_wp2
            go_roundg (n - (i + 1))
            case measure => omega
            case rel => exact ⟨i + 1, by go_num, by omega, HB3, Lib.hid (by rw [← HE2.out, HST.out, if_neg HL.out]; exact HK3.out), rfl⟩
    · obtain rfl : n = i + 1 := by omega
      go_wp2
      go_end0
      exact ⟨rfl, HB1, HK1⟩
set_option maxRecDepth 100000 in
set_option maxHeartbeats 800000 in
theorem rankStable_any (lb lo lc bx g c n : Nat) (sl xs : List Int) (w : World) (hbx : w.cell? ⟨bx, 0, none⟩ = some (.slice (some ⟨lb, lo, none⟩) n lc)) (hl : RdAt w lb lo lc sl) (hsl : sl.length = n) (hn16 : n ≤ 16) (hn1 : 1 ≤ n) (h1 : bx < g) (h2 : lb < g)
    (hb : Blk w g (ints xs) 3) (hx : ∀ x, x ∈ xs → 0 ≤ x ∧ x < n) (hn : xs.length = n) :
    Calls Tryz.prog 82 #[.slice (some ⟨g, 0, none⟩) n c, .int .i64 n, .func (.func 61) #[] #[.pointer (some ⟨bx, 0, none⟩)]] w fun e w' => e = .returned (.tuple #[]) ∧ Hid (Below g w w') ∧ Hid (Blk w' g (ints (insOut (scF sl) xs (n - 1))) 3) := by
  have HI := Lib.hid (rankIns_any lb lo lc bx g c n sl xs w hbx hl hsl hn16 hn1 h1 h2 hb hx hn)
  have t1 : decide ((20 : Int) ≤ (n : Int)) = false := decide_eq_false (by omega)
  have t2 : decide ((20 : Int) < (n : Int)) = false := decide_eq_false (by omega)
  have t3 : (n : Int) < 20 := by omega
  clear hbx hl hsl h1 h2 hb hx hn
  go_enter Tryz.func82, Tryz.ntmps82
  go_wp2
  go_loopg [7, 8] 1 (fun gk s7 s8 wx => s7 = .int .i64 0 ∧ s8 = .int .i64 20 ∧ wx = w ∧ gk = 1)
  case atStart => exact ⟨rfl, rfl, rfl, rfl⟩
  case round =>
    obtain ⟨rfl, rfl, rfl, rfl⟩ := hrel
    go_wp2_with (go_at_call 112; refine HI.out.mono ?_; rintro e w1 ⟨rfl, HB1, HK1⟩)
    go_loopg [6] 1 (fun gk s6 wx => s6 = .int .i64 20 ∧ Hid (Below g wr wx) ∧ Hid (Blk wx g (ints (insOut (scF sl) xs (n - 1))) 3) ∧ gk = 1)
    case atStart => exact ⟨rfl, HB1, HK1, rfl⟩
    case round =>
      obtain ⟨rfl, HB2, HK2, rfl⟩ := hrel
      go_wp2
      go_end0
      exact ⟨rfl, HB2, HK2⟩
set_option maxRecDepth 100000 in
set_option maxHeartbeats 800000 in
theorem rankSort_any (lb lo lc bx g c n : Nat) (sl xs : List Int) (w : World) (hbx : w.cell? ⟨bx, 0, none⟩ = some (.slice (some ⟨lb, lo, none⟩) n lc)) (hl : RdAt w lb lo lc sl) (hsl : sl.length = n) (hn16 : n ≤ 16) (hn1 : 1 ≤ n) (h1 : bx < g) (h2 : lb < g)
    (hb : Blk w g (ints xs) 3) (hx : ∀ x, x ∈ xs → 0 ≤ x ∧ x < n) (hn : xs.length = n) :
    Calls Tryz.prog 60 #[.slice (some ⟨g, 0, none⟩) n c, .func (.func 61) #[] #[.pointer (some ⟨bx, 0, none⟩)]] w fun e w' => e = .returned (.tuple #[]) ∧ Hid (Below g w w') ∧ Hid (Blk w' g (ints (insOut (scF sl) xs (n - 1))) 3) := by
  have HI := Lib.hid (rankStable_any lb lo lc bx g c n sl xs w hbx hl hsl hn16 hn1 h1 h2 hb hx hn)
  clear hbx hl hsl h1 h2 hb hx hn
  go_enter Tryz.func60, Tryz.ntmps60
  go_wp2_with (go_at_call 82; refine HI.out.mono ?_; rintro e w1 ⟨rfl, HB1, HK1⟩)
  go_end0
  exact ⟨rfl, HB1, HK1⟩
set_option maxRecDepth 100000 in
set_option maxHeartbeats 800000 in
theorem rank_any (sl : List Int) (lb lo lc n k : Nat) (w : World) (hl : RdAt w lb lo lc sl) (hsl : sl.length = n) (hn : 1 ≤ n ∧ n ≤ 16) (hk : 1 ≤ k ∧ k ≤ n) :
    Calls Tryz.prog 48 #[.slice (some ⟨lb, lo, none⟩) n lc, .int .i64 k] w fun e w' => ∃ g, e = .returned (.slice (some ⟨g, 0, none⟩) k k) ∧ Hid (Below w.heap.size w w') ∧ Hid (Blk w' g (ints (rankL sl)) 3 ∧ w.heap.size ≤ g) := by
  obtain ⟨w1, hw1, hb1, hk1⟩ : ∃ w1, w.alloc (.cells #[.slice (some ⟨lb, lo, none⟩) n lc] 22) = w1 ∧ Below w.heap.size w w1 ∧ Blk w1 w.heap.size [.slice (some ⟨lb, lo, none⟩) n lc] 22 := ⟨_, rfl, (Below.refl _ _).alloc (Nat.le_refl _) _, heap_alloc_new w _⟩
  obtain ⟨w2, hmk, hb2, hk2⟩ := make_zeros n (by omega) w1
  have hbx1 := hk1.lt
  have hlb := hl.lt (by omega)
  have HL1 := Lib.hid (hl.below hb1)
  have q1 := hk1.cell
  have HRK := Lib.hid (show rankL sl = insOut (scF sl) (iotaL n n) (n - 1) by unfold rankL; rw [hsl])
  generalize hg : w1.heap.size = g at hmk hb2 hk2 hbx1
  have HS := Lib.hid (fun (wx : World) (hb : Below g w1 wx) (ys : List Int) (hk : Blk wx g (ints ys) 3) (hx : ∀ x, x ∈ ys → 0 ≤ x ∧ x < (n : Int)) (hn' : ys.length = n) => rankSort_any lb lo lc w.heap.size g n n sl ys wx (by rw [hb.cell (p := ⟨w.heap.size, 0, none⟩) hbx1, hk1.cell]; rfl) (HL1.out.below (by rw [hg]; exact hb)) hsl hn.2 hn.1 hbx1 (by omega) hk hx hn')
  have HB1 := Lib.hid hb1
  have HB2 := Lib.hid hb2
  have HK2 := Lib.hid (show Blk w2 g (ints (iotaL n 0)) 3 from hk2)
  have HG := Lib.hid hg
  have hn1 := hn.1
  have hn2 := hn.2
  have hk0 := hk.1
  have hk3 := hk.2
  have hk4 : (k : Int) ≤ (n : Int) := by omega
  clear hb1 hk1 hb2 hk2 hbx1 hlb hl hg hsl hn hk
  go_enter Tryz.func48, Tryz.ntmps48
  go_wp2
  clear q1 hmk hw1
  go_loopg [12] n (fun gk s12 wx => ∃ i : Nat, s12 = .int .i64 i ∧ i ≤ n ∧ Hid (Below g w1 wx) ∧ Hid (Blk wx g (ints (iotaL n i)) 3) ∧ gk = n - i)
  case atStart => exact ⟨0, rfl, Nat.zero_le _, HB2, HK2, rfl⟩
  case round =>
    obtain ⟨i, rfl, hi, HB3, HK3, rfl⟩ := hrel
    have hll := iotaL_len n i
    by_cases hlt : i < n
    · have HST := Lib.hid (show (iotaL n i).set i (i : Int) = iotaL n (i + 1) from rfl)
      have f1 := HK3.out.frozen i
      have c1 : wr.cell? ⟨g, i, none⟩ = some (.int .i64 ((iotaL n i).getD i 0)) := by rw [HK3.out.cell]; exact iget _ (by rw [hll]; exact hlt)
      clear hll
      generalize (iotaL n i).getD i 0 = yv at c1
      go_wp2
      go_roundg (n - (i + 1))
      case measure => omega
      case rel =>
        refine ⟨i + 1, by go_num, by omega, Lib.hid (HB3.out.setCell (Nat.le_refl _) _), Lib.hid ?_, rfl⟩
        have := HK3.out.set i (.int .i64 (i : Int))
        rw [ints_set, HST.out] at this
        exact this
    · obtain rfl : n = i := by omega
      have HSW := Lib.hid (HS.out wr HB3.out (iotaL n n) HK3.out (iotaL_in n n (Nat.le_refl _) (by omega)) hll)
      clear hll
      go_wp2_with (go_at_call 60; refine HSW.out.mono ?_; rintro e w4 ⟨rfl, HB4, HK4⟩)
      go_ret
      refine ⟨g, rfl, Lib.hid ?_, Lib.hid ⟨by rw [HRK.out]; exact HK4.out, by rw [← HG.out]; exact HB1.out.size⟩⟩
      exact HB1.out.trans ((HB3.out.trans HB4.out).mono (by rw [← HG.out]; exact HB1.out.size))
end Go.Proofs.YtdbhlkejfecffaaGreatDoor
/-
  models: weights.
-/
namespace Go.Proofs.YtdbhlkejfecffaaGreatDoor
open Go.RowKit

set_option maxRecDepth 100000 in
set_option maxHeartbeats 3200000 in
theorem weights_any (m : MD) (p : MPl) (W V T Q : Nat) (hm : m.Ok) (hd : m.Dim W V T Q) (sb sc : Nat) (sl : List Int) (hsl : sl.length = V) (hin : ∀ x, x ∈ sl → -2147483648 ≤ x ∧ x ≤ 2147483647) (w : World) (h : ModAt w m p) (hs : RdAt w sb 0 sc sl) :
    Calls Tryz.prog 39 #[.agg (modV m p W).toArray, .slice (some ⟨sb, 0, none⟩) V sc] w fun e w' => ∃ g, e = .returned (.slice (some ⟨g, 0, none⟩) V V) ∧ Hid (Below w.heap.size w w') ∧ Hid (RdAt w' g 0 V (wtL m sl)) := by
  obtain ⟨wb, hwb, hbel, hblk⟩ : ∃ wb, w.alloc (.cells (modV m p W).toArray 27) = wb ∧ Below w.heap.size w wb ∧ Blk wb w.heap.size (modV m p W) 27 := ⟨_, rfl, (Below.refl _ _).alloc (Nat.le_refl _) _, heap_alloc_new w _⟩
  have hv1 := hd.v1
  have HQ := Lib.hid (fun (wx : World) (hb : Below wb.heap.size wb wx) => (hblk.below hb).cell)
  have HB := Lib.hid hbel
  have HWB := Lib.hid hwb
  have hb1 := h.below hbel
  obtain ⟨w7, hmk, hb7, hk7⟩ := make_zeros V (by omega) wb
  obtain ⟨K, hK⟩ : ∃ K : Nat, m.top = (K : Int) := ⟨m.top.toNat, by have := hm.top; omega⟩
  have htop : 1 ≤ K ∧ K ≤ V := by have := hm.top; rw [hK, hd.vocab] at this; omega
  have HSL := Lib.hid (fun (wx : World) (hb : Below wb.heap.size wb wx) => (hs.below hbel).below hb)
  have HSL7 := Lib.hid ((hs.below hbel).below hb7)
  have HD := Lib.hid hb1
  have HM := Lib.hid hm
  have HRK := Lib.hid (rank_any sl sb 0 sc V K w7 ((hs.below hbel).below hb7) hsl (by omega) htop)
  have HK7 := Lib.hid (show Blk w7 wb.heap.size (ints (wtTo m sl (rankL sl) 0)) 3 by rw [wtTo, hsl]; exact hk7)
  have HB7 := Lib.hid hb7
  have HIN := Lib.hid hin
  have HLT7 := Lib.hid hk7.lt
  have HS := Lib.hid hsl
  have HOUT := Lib.hid (show wtL m sl = wtTo m sl (rankL sl) K by unfold wtL; rw [hK]; rfl)
  have HRL := Lib.hid (fun i (hi : i < V) => rankL_at sl (by omega) i (by omega))
  have HRN := Lib.hid (rankL_len sl (by omega))
  have q7 := HQ.out w7 hb7
  have q0 := hblk.cell
  have HC3 := Lib.hid (hm.cut 3 (by decide))
  have HCC := Lib.hid (fun (wx : World) (hb : Below wb.heap.size wb wx) => (hb1.below hb).cut hm 3 (by decide))
  obtain ⟨SL, hSL⟩ : ∃ SL, SL = m.odds.length := ⟨_, rfl⟩
  obtain ⟨S1, hS1⟩ : ∃ S1, SL = S1 + 1 := ⟨SL - 1, by have := hm.odds; omega⟩
  have HSE := Lib.hid (show SL = m.odds.length ∧ SL ≤ 64 ∧ SL = S1 + 1 by have := hm.odds; omega)
  have HOD := Lib.hid (fun (wx : World) (hb : Below wb.heap.size wb wx) => (hb1.below hb).odds)
  generalize hg8 : wb.heap.size = g8 at hmk HK7 HLT7
  have HG8 := Lib.hid hg8
  have hvv := hd.vocab
  simp only [modV, hK, hvv, ← hSL] at q0 q7 HQ hwb ⊢
  obtain ⟨k3, hk3⟩ : ∃ k3, k3 = m.cut 3 := ⟨_, rfl⟩
  rw [← hk3] at HC3 HCC
  have HWJ := Lib.hid (fun v => show wtJ m sl v = m.odds.getD (min ((maxI sl - sl.getD v 0) / 2 ^ k3) ((SL : Int) - 1)).toNat 0 by unfold wtJ; rw [← hk3, ← hSL])
  clear hbel hblk h hs hd hb7 hk7 hin hg8 hm hb1 hK hSL hS1 hvv hk3
  go_enter Tryz.func39, Tryz.ntmps39
  go_wp2_with (first | (go_at_call 47; refine (imax_any sl sb 0 sc V HS.out.symm (by omega) (by omega) _ HSL7.out).mono ?_; rintro e wz ⟨rfl, hz⟩; subst wz) | (go_at_call 48; refine HRK.out.mono ?_; rintro e w8 ⟨g9, rfl, HB8, HR8⟩))
  generalize hmx : maxI sl = mx at HWJ ⊢
  have HMX := Lib.hid hmx
  have HB08 := Lib.hid (HB7.out.trans (HB8.out.mono HB7.out.size))
  have HK8 := Lib.hid (HK7.out.below HB8.out)
  have HGG := Lib.hid (show g9 ≠ g8 by have := HR8.out.2; have := HLT7.out; omega)
  clear hmx q0 q7 hmk hwb hsl
  go_loopg [19] K (fun gk s19 wx => ∃ i : Nat, s19 = .int .i64 i ∧ i ≤ K ∧ Hid (Below wb.heap.size wb wx) ∧ Hid (Blk wx g9 (ints (rankL sl)) 3) ∧ Hid (Blk wx g8 (ints (wtTo m sl (rankL sl) i)) 3) ∧ gk = K - i)
  case atStart => exact ⟨0, rfl, Nat.zero_le _, HB08, Lib.hid HR8.out.1, HK8, rfl⟩
  case round =>
    obtain ⟨i, rfl, hi, HB9, HR9, HK9, rfl⟩ := hrel
    by_cases hlt : i < K
    · have q9 := HQ.out _ HB9.out
      have ci : wr.cell? ⟨g9, i, none⟩ = some (.int .i64 ((rankL sl).getD i 0)) := by rw [HR9.out.cell]; exact iget _ (by rw [HRN.out, HS.out]; omega)
      have hra := HRL.out i (by omega)
      obtain ⟨v, hv⟩ : ∃ v : Nat, (rankL sl).getD i 0 = (v : Int) := ⟨((rankL sl).getD i 0).toNat, by omega⟩
      have hv8 : v < V := by rw [hv, HS.out] at hra; omega
      have HST := Lib.hid (show wtTo m sl (rankL sl) (i + 1) = (wtTo m sl (rankL sl) i).set v (wtJ m sl v) by rw [wtTo, hv]; rfl)
      have HLN := Lib.hid (wtTo_len m sl (rankL sl) i)
      rw [hv] at ci
      have cs := (HSL.out _ HB9.out).2.2 v (by rw [HS.out]; exact hv8)
      rw [Nat.zero_add] at cs
      have hsr := HIN.out _ (getD_mem (l := sl) (i := v) (by rw [HS.out]; exact hv8))
      have hmr : sl.getD v 0 ≤ mx := by rw [← HMX.out]; exact maxTo_ge sl (sl.length - 1) v (by rw [HS.out]; omega)
      have hmr2 : mx ≤ 2147483647 := by
        obtain ⟨q, hq, e⟩ := maxTo_mem sl (sl.length - 1) (by rw [HS.out]; omega)
        rw [← HMX.out]; unfold maxI; rw [e]
        exact (HIN.out _ (getD_mem (by rw [HS.out] at hq ⊢; omega))).2
      have HWT := Lib.hid (HWJ.out v)
      have fo := HK9.out.frozen v
      have co : wr.cell? ⟨g8, v, none⟩ = some (.int .i64 ((wtTo m sl (rankL sl) i).getD v 0)) := by rw [HK9.out.cell]; exact iget _ (by rw [HLN.out, HS.out]; exact hv8)
      have c3 := HCC.out wr HB9.out
      generalize (wtTo m sl (rankL sl) i).getD v 0 = ov at co
      generalize sl.getD v 0 = sv at cs hsr hmr HWT
      have d1 : IntKind.i64.wrap (mx - sv) = mx - sv := IntWalk.i64_in _ (by omega)
      have v1 : (v : Int) < V := by omega
      have t64 : min k3 64 = k3 := Nat.min_eq_left (by have := HC3.out; omega)
      obtain ⟨dq, hdq⟩ : ∃ dq : Int, (mx - sv) / 2 ^ k3 = dq := ⟨_, rfl⟩
      have hdq0 : 0 ≤ dq := by rw [← hdq]; exact Int.ediv_nonneg (by omega) (Int.le_of_lt (Int.pow_pos (by omega)))
      have hdq2 : (mx - sv) / 2 ^ min k3 64 = dq := by rw [t64]; exact hdq
      have hsl1 : 1 ≤ SL := by have := HSE.out; omega
      obtain ⟨j, hj, hj7, hjm⟩ : ∃ j : Nat, min dq (S1 : Int) = (j : Int) ∧ j < SL ∧ (min dq ((SL : Int) - 1)).toNat = j :=
        ⟨(min dq ((SL : Int) - 1)).toNat, by have := HSE.out; omega, by omega, rfl⟩
      rw [hdq, hjm] at HWT
      have w6' : IntKind.i64.wrap ((SL : Int) - 1) = (S1 : Int) := by rw [IntWalk.i64_in _ (by have := HSE.out; omega)]; have := HSE.out; omega
      have w6'' : wrap64 ((SL : Int) - 1) = (S1 : Int) := by rw [← wrapEq]; exact w6'
      have c0 := (HOD.out wr HB9.out).2.2 j (by rw [← HSE.out.1]; exact hj7)
      rw [← HWT.out] at c0
      have j1 : (j : Int) < (SL : Int) := by omega
      generalize wtJ m sl v = wt at c0 HWT HST
      clear hdq0 hjm hsl1 hj7 hra hv8 hsr hmr hmr2 hv
      go_upto_region 6 with fail
      go_region
      go_wp2
      go_roundg (K - (i + 1))
      case measure => omega
      case rel =>
        refine ⟨i + 1, by go_num, by omega, Lib.hid (HB9.out.drew.setCell (by rw [HG8.out]; exact Nat.le_refl _) _), Lib.hid (HR9.out.drew.far HGG.out _), Lib.hid ?_, rfl⟩
        have := (HK9.out.drew).set v (.int .i64 wt)
        rw [ints_set, ← HST.out] at this
        exact this
    · obtain rfl : K = i := by omega
      go_wp2
      go_ret
      refine ⟨_, rfl, Lib.hid (HB.out.trans (HB9.out.mono HB.out.size)), Lib.hid ?_⟩
      rw [HOUT.out]
      exact HK9.out.rdat0 (by rw [wtTo_len, HS.out]; exact Nat.le_refl _) (by unfold maxLen; omega)
end Go.Proofs.YtdbhlkejfecffaaGreatDoor
