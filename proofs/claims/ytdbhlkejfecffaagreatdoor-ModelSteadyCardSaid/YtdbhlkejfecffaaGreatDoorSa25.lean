/-
  nat: Div of any numbers; Gcd.
  frac: one, Int, Reduced.
  frac: Reduced.
  frac: Div.
-/
import Derived.Test.YtdbhlkejfecffaaGreatDoorSa21
import Derived.Test.YtdbhlkejfecffaaGreatDoorSa24
/-
  nat: Div of any numbers; Gcd.
-/
namespace Go.Proofs.YtdbhlkejfecffaaGreatDoor
open Go.RowKit KeepPlain

theorem div_any (a b : Nat) (u v : Value) (w : World) (hu : NV w u a) (hv : NV w v b) (hla : (nd a).length ≤ 500) (hlb : (nd b).length ≤ 500) (hb : b ≠ 0) :
    Calls Tryz.prog 87 #[u, v] w fun e w' => ∃ q r, e = .returned (.tuple #[q, r]) ∧ Hid (NV w' q (a / b)) ∧ Hid (NV w' r (a % b)) ∧ Hid (Below w.heap.size w w') := by
  by_cases h : a < b
  · have := div_less a b u v w hu hv hla hlb h
    rw [Nat.div_eq_of_lt h, Nat.mod_eq_of_lt h]
    exact this
  · by_cases h1 : (nd b).length = 1
    · exact div_short a b u v w hu hv hla h1 (by omega)
    · have h0 : (nd b).length ≠ 0 := fun e => hb ((nd_nil_iff b).1 (List.length_eq_zero_iff.1 e))
      exact div_long a b u v w hu hv hla (by omega) (by omega)
theorem nd_len_mono {a b : Nat} (h : a ≤ b) : (nd a).length ≤ (nd b).length := by
  rcases Nat.lt_or_ge (nd b).length (nd a).length with h1 | h1
  · have := nd_len_lt h1; omega
  · exact h1
set_option maxRecDepth 100000 in
set_option maxHeartbeats 3200000 in
theorem gcd_any (a b : Nat) (u v : Value) (w : World) (hu : NV w u a) (hv : NV w v b) (hla : (nd a).length ≤ 500) (hlb : (nd b).length ≤ 500) :
    Calls Tryz.prog 86 #[u, v] w fun e w' => ∃ r, e = .returned r ∧ Hid (NV w' r (a.gcd b)) ∧ Hid (Below w.heap.size w w') := by
  have HU := Lib.hid hu
  have HV := Lib.hid hv
  have HL := Lib.hid (And.intro hla hlb)
  have HCL := Lib.hid (fun x v wx (h : NV wx v x) h2 => clone_any x v wx h h2)
  have HDV := Lib.hid (fun x y vx vy wx (h : NV wx vx x) (h2 : NV wx vy y) h3 h4 h5 => div_any x y vx vy wx h h2 h3 h4 h5)
  have HWD := Lib.hid (fun x v wx (h : NV wx v x) h2 => wide_any x v wx h h2)
  have HOF := Lib.hid (fun x h wx => of_any x h wx)
  clear hu hv hla hlb
  go_enter Tryz.func86, Tryz.ntmps86
  go_wp2
  go_loopg [0, 1, 5, 6] b (fun gk s0 s1 s5 s6 wx => ∃ x : Nat, Hid (NV wx s0 x) ∧ Hid (NV wx s1 gk) ∧ Hid (x.gcd gk = a.gcd b) ∧ Hid ((nd x).length ≤ 500 ∧ (nd gk).length ≤ 500) ∧ Hid (Below w.heap.size w wx))
  case atStart => exact ⟨a, HU, HV, Lib.hid rfl, HL, Lib.hid (Below.refl _ _)⟩
  case round =>
    obtain ⟨x, HX, HY, HG, HLN, HB⟩ := hrel
    obtain ⟨y, rfl⟩ : ∃ y, y = gk := ⟨_, rfl⟩
    obtain ⟨A, c, hv0, -, -, -⟩ := RdU.open HX.out
    subst hv0
    obtain ⟨B, d, hv1, -, -, -⟩ := RdU.open HY.out
    subst hv1
    have hlx : (nd x).length ≤ 500 := HLN.out.1
    have hly : (nd y).length ≤ 500 := HLN.out.2
    obtain ⟨lx, hlx1⟩ : ∃ lx, lx = (nd x).length := ⟨_, rfl⟩
    obtain ⟨ly, hly1⟩ : ∃ ly, ly = (nd y).length := ⟨_, rfl⟩
    have HLX := Lib.hid hlx1
    have HLY := Lib.hid hly1
    rw [← hlx1] at HX hlx ⊢
    rw [← hly1] at HY hly ⊢
    by_cases h1 : 2 < lx ∨ 2 < ly
    · by_cases h0 : ly = 0
      · have hy0 : y = 0 := (nd_nil_iff y).1 (List.length_eq_zero_iff.1 (by omega))
        have HGX := Lib.hid (show x = a.gcd b by have := HG.out; rw [hy0, Nat.gcd_zero_right] at this; exact this)
        have h2 : 2 < lx := by omega
        clear hlx1 hly1 hy0
        subst h0
        go_wp2_with (go_at_call 114; refine (HCL.out x _ wr HX.out (by rw [← HLX.out]; omega)).mono ?_; rintro e w1 ⟨r, rfl, HN, HB1⟩)
        go_ret
        exact ⟨r, rfl, Lib.hid (by rw [← HGX.out]; exact HN.out), Lib.hid (HB.out.trans (HB1.out.mono HB.out.size))⟩
      · have hyn : y ≠ 0 := fun e => h0 (by rw [hly1, e, nd_zero]; rfl)
        have HML := Lib.hid (show x % y < y from Nat.mod_lt _ (by omega))
        have HGN := Lib.hid (show y.gcd (x % y) = a.gcd b by rw [← HG.out, Nat.gcd_comm x y, Nat.gcd_rec y x, Nat.gcd_comm])
        have HLM := Lib.hid (show (nd (x % y)).length ≤ 500 from Nat.le_trans (nd_len_mono (Nat.le_of_lt HML.out)) HLN.out.2)
        have d0 : ((ly : Int) == 0) = false := by simp; omega
        have HYN := Lib.hid hyn
        clear hlx1 hly1 h0 hyn
        rcases Nat.lt_or_ge 2 lx with h2 | h2
        all_goals
          first | (have h3 : 2 < ly := by omega) | skip
          go_wp2_with (go_at_call 87; refine (HDV.out x y _ _ wr HX.out HY.out (by rw [← HLX.out]; omega) (by rw [← HLY.out]; omega) HYN.out).mono ?_; rintro e w1 ⟨q, r, rfl, HQ, HR, HB1⟩)
          go_roundg (x % y)
          case measure => exact HML.out
          case rel => exact ⟨y, Lib.hid (NV.below HY.out HB1.out), HR, HGN, Lib.hid ⟨by rw [← HLY.out]; omega, HLM.out⟩, Lib.hid (HB.out.trans (HB1.out.mono HB.out.size))⟩
    · have h2 : ¬ (2 < lx) := by omega
      have h3 : ¬ (2 < ly) := by omega
      have HXB := Lib.hid (show x < 18446744073709551616 by
        have := nd_lt_pow x
        have h4 : 1000000000 ^ (nd x).length ≤ 1000000000 ^ 2 := Nat.pow_le_pow_right (by decide) (by omega)
        exact Nat.lt_of_lt_of_le this (Nat.le_trans h4 (by decide)))
      have HYB := Lib.hid (show y < 18446744073709551616 by
        have := nd_lt_pow y
        have h4 : 1000000000 ^ (nd y).length ≤ 1000000000 ^ 2 := Nat.pow_le_pow_right (by decide) (by omega)
        exact Nat.lt_of_lt_of_le this (Nat.le_trans h4 (by decide)))
      have HL2 := Lib.hid (show (nd x).length ≤ 2 ∧ (nd y).length ≤ 2 by omega)
      clear hlx1 hly1 h1
      go_wp2_with (first | (go_at_call 115; have _g := HB1; clear _g; refine (HWD.out y _ w1 (NV.below HY.out HB1.out) HL2.out.2).mono ?_; rintro e w2 ⟨rfl, HB2⟩) | (go_at_call 115; refine (HWD.out x _ wr HX.out HL2.out.1).mono ?_; rintro e w1 ⟨rfl, HB1⟩))
      have HBW := Lib.hid (show Below w.heap.size w w2 from (HB.out.trans (HB1.out.mono HB.out.size)).trans (HB2.out.mono (Nat.le_trans HB.out.size HB1.out.size)))
      go_loopg [7, 8] y (fun gk s7 s8 wx => ∃ x m : Nat, s7 = .int .u64 x ∧ s8 = .int .u64 gk ∧ wx = w2.drewN m ∧ Hid (x < 18446744073709551616 ∧ gk < 18446744073709551616) ∧ Hid (x.gcd gk = a.gcd b))
      case atStart => exact ⟨x, 0, rfl, rfl, rfl, Lib.hid ⟨HXB.out, HYB.out⟩, HG⟩
      case round =>
        clear HXB HYB HL2 HX HY HLN HLX HLY HG
        obtain ⟨x, m, rfl, rfl, rfl, HXY, HG⟩ := hrel
        obtain ⟨y, rfl⟩ : ∃ y, y = gk := ⟨_, rfl⟩
        by_cases h0 : y = 0
        · have HGX := Lib.hid (show x = a.gcd b by have := HG.out; rw [h0, Nat.gcd_zero_right] at this; exact this)
          have d0 : ((y : Int) != 0) = false := by simp; omega
          clear h0
          go_wp2_with (go_at_call 65; refine (HOF.out x HXY.out.1 (w2.drewN m)).mono ?_; rintro e w3 ⟨r, rfl, HN, HB3⟩)
          go_ret
          exact ⟨r, rfl, Lib.hid (by rw [← HGX.out]; exact HN.out), Lib.hid (HBW.out.trans ((below_drawn w2 m).trans HB3.out |>.mono HBW.out.size))⟩
        · have HML := Lib.hid (show x % y < y from Nat.mod_lt _ (by omega))
          have HGN := Lib.hid (show y.gcd (x % y) = a.gcd b by rw [← HG.out, Nat.gcd_comm x y, Nat.gcd_rec y x, Nat.gcd_comm])
          have d0 : ((y : Int) != 0) = true := by simp; omega
          have d1 : ((y : Int) == 0) = false := by simp; omega
          have d2 : (y : Int) ≠ 0 := by omega
          have w4 : Int.tmod (x : Int) (y : Int) = ((x % y : Nat) : Int) := tmod_nat x y
          have w6 : (x : Int) % (y : Int) = ((x % y : Nat) : Int) := rfl
          have HZ := Lib.hid (show x % y < 18446744073709551616 from Nat.lt_trans HML.out HXY.out.2)
          generalize x % y = z at *
          have u1 : IntKind.u64.wrap (z : Int) = z := u64_in HZ.out
          clear h0
          go_wp2
          go_quiet (fail)
          go_wp2
          go_roundg z
          case measure => exact HML.out
          case rel => exact ⟨y, _, rfl, rfl, drew_eq w2 m nq, Lib.hid ⟨HXY.out.2, HZ.out⟩, HGN⟩
end Go.Proofs.YtdbhlkejfecffaaGreatDoor
/-
  frac: one, Int, Reduced.
-/
namespace Go.Proofs.YtdbhlkejfecffaaGreatDoor
open Go.RowKit KeepPlain

/-- A rational number in memory. -/
def FV (w : World) (v : Value) (q : Rat) : Prop := ∃ u d, v = .agg #[.bool (decide (q.num < 0)), u, d] ∧ NV w u q.num.natAbs ∧ NV w d q.den
theorem FV.below {w w' : World} {v : Value} {q : Rat} (h : FV w v q) (hb : Below w.heap.size w w') : FV w' v q := by
  obtain ⟨u, d, e, h1, h2⟩ := h
  exact ⟨u, d, e, h1.below hb, h2.below hb⟩
theorem NV.shape {w : World} {v : Value} {n : Nat} (h : NV w v n) : ∃ A c, v = .slice A (nd n).length c := by
  obtain ⟨A, c, e, -⟩ := RdU.open h
  exact ⟨A, c, e⟩
theorem results_frac {fn : Func} {a : Tmp} (hf : fn.results = #[.cell a 85]) (tmps : Array Value) (w : World) (r : Nat) (x y z : Value) (hr : tmps.getD a undef = .pointer (some ⟨r, 0, none⟩)) (h : Blk w r [x, y, z] 85) :
    (results fn tmps).run Tryz.prog w = .ok (.agg #[x, y, z]) w :=
  results_cell_row (P := Tryz.prog) hf tmps w r 85 #[x, y, z] (0, 0) _ hr h Tryz.underlying85 rfl (by kernel_rfl)
theorem blk3 (w : World) (x y z x' y' z' : Value) (r : Nat) (h : Blk w r [x, y, z] 85) : Blk (((w.setCell ⟨r, 0, none⟩ x').setCell ⟨r, 1, none⟩ y').setCell ⟨r, 2, none⟩ z') r [x', y', z'] 85 := ((h.set 0 _).set 1 _).set 2 _
def setF (w : World) (r : Nat) (x y z : Value) : World := ((w.setCell ⟨r, 0, none⟩ x).setCell ⟨r, 1, none⟩ y).setCell ⟨r, 2, none⟩ z
theorem belowF (w : World) (r : Nat) (x y z : Value) : Below r w (setF w r x y z) :=
  (((Below.refl r w).setCell (p := ⟨r, 0, none⟩) (Nat.le_refl r) x).setCell (p := ⟨r, 1, none⟩) (Nat.le_refl r) y).setCell (p := ⟨r, 2, none⟩) (Nat.le_refl r) z
/-- The result's block: a bool and two slices. -/
def RB (w : World) (r : Nat) : Prop := Blk w r [.bool false, .slice none 0 0, .slice none 0 0] 85
theorem nvF {w : World} {r : Nat} {v : Value} {n : Nat} (h : NV w v n) (hb : RB w r) (x y z : Value) : NV (setF w r x y z) v n := by
  by_cases h0 : 0 < (us (nd n)).length
  · refine RdV.block h fun b hlt hv => ?_
    have hne : b ≠ r := by
      intro e
      subst e
      obtain ⟨A, c, rfl, h1, h2, h3⟩ := h
      obtain ⟨b', o, rfl, hc⟩ := h3 h0
      have hbb : b' = b := by simpa [Value.ownBlock] using hv
      subst hbb
      have h4 := hc 0 h0
      rw [hb.cell] at h4
      have h5 : (us (nd n))[0] = .int .u32 ((nd n)[0]'(by rw [us_length] at h0; exact h0) : Nat) := by simp [us]
      rw [h5, Nat.add_zero] at h4
      rcases o with _ | _ | _ | o <;> simp at h4
    unfold setF
    rw [Below.heap_setCell _ _ _ _ hne, Below.heap_setCell _ _ _ _ hne, Below.heap_setCell _ _ _ _ hne]
  · obtain ⟨A, c, rfl, h1, h2, h3⟩ := h
    exact ⟨A, c, rfl, h1, h2, fun hh => absurd hh h0⟩
set_option maxRecDepth 100000 in
set_option maxHeartbeats 800000 in
theorem fone_any (w : World) : Calls Tryz.prog 66 #[] w fun e w' => ∃ v, e = .returned v ∧ Hid (NV w' v 1) ∧ Hid (Below w.heap.size w w') := by
  have HO := Lib.hid (of_any 1 (by omega) w)
  go_enter Tryz.func66, Tryz.ntmps66
  go_wp2_with (go_at_call 65; refine HO.out.mono ?_; rintro e w1 ⟨v, rfl, HN1, HB1⟩)
  go_ret
  exact ⟨_, rfl, HN1, HB1⟩
/-- A new block for a result. -/
theorem newF (w : World) : ∃ w0, w.alloc (.cells #[.bool false, .slice none 0 0, .slice none 0 0] 85) = w0 ∧ Below w.heap.size w w0 ∧ RB w0 w.heap.size := ⟨_, rfl, (Below.refl _ _).alloc (Nat.le_refl _) _, heap_alloc_new w _⟩
theorem RB.below {w w' : World} {r : Nat} (h : RB w r) (hb : Below w.heap.size w w') : RB w' r := Blk.below hb h
set_option maxRecDepth 100000 in
set_option maxHeartbeats 1600000 in
theorem int_any (x : Nat) (hx : x < 9223372036854775808) (w : World) : Calls Tryz.prog 53 #[.int .i64 x] w fun e w' => ∃ v, e = .returned v ∧ Hid (FV w' v (x : Rat)) ∧ Hid (Below w.heap.size w w') := by
  obtain ⟨w0, hw0, hb0, hk0⟩ := newF w
  have HB0 := Lib.hid hb0
  have HK0 := Lib.hid hk0
  have HO := Lib.hid (fun wx => of_any x (by omega) wx)
  have HF := Lib.hid (fun wx => fone_any wx)
  have e1 : IntKind.u64.wrap (x : Int) = x := u64_in (by omega)
  have t0 : ¬ (x : Int) < 0 := by omega
  clear hb0 hk0 hx
  go_enter Tryz.func53, Tryz.ntmps53
  go_wp2_with (first | (go_at_call 65; refine (HO.out _).mono ?_; rintro e w1 ⟨u, rfl, HN1, HB1⟩; obtain ⟨g1, c1, hu1⟩ := HN1.out.shape; subst hu1) | (go_at_call 66; refine (HF.out _).mono ?_; rintro e w2 ⟨d, rfl, HN2, HB2⟩; obtain ⟨g2, c2, hu2⟩ := HN2.out.shape; subst hu2; have HK2 := Lib.hid ((HK0.out.below HB1.out).below HB2.out); have q2 := Blk.cell HK2.out; have r2 := Blk.frozen HK2.out))
  refine bodyPost_ret (results_frac rfl _ _ w.heap.size _ _ _ rfl (blk3 w2 _ _ _ _ _ _ _ HK2.out)) rfl ?_
  refine ⟨_, rfl, Lib.hid ⟨_, _, ?_, nvF (HN1.out.below HB2.out) HK2.out _ _ _, nvF HN2.out HK2.out _ _ _⟩, Lib.hid (((HB0.out.trans (HB1.out.mono HB0.out.size)).trans (HB2.out.mono (Nat.le_trans HB0.out.size HB1.out.size))).trans (belowF _ _ _ _ _))⟩
  rw [show decide (((x : Rat)).num < 0) = false from decide_eq_false (by rw [Rat.num_natCast]; omega)]
end Go.Proofs.YtdbhlkejfecffaaGreatDoor
/-
  frac: Reduced.
-/
namespace Go.Proofs.YtdbhlkejfecffaaGreatDoor
open Go.RowKit KeepPlain

theorem rat_of_parts {neg : Bool} {n d : Nat} (hn : n ≠ 0) (hd : d ≠ 0) {w : World} {u v : Value} (hu : NV w u (n / n.gcd d)) (hv : NV w v (d / n.gcd d)) : FV w (.agg #[.bool neg, u, v]) (mkRat (sg neg n) d) := by
  obtain ⟨h1, h2, h3⟩ := rat_parts neg hn hd
  exact ⟨u, v, by rw [h1], by rw [h2]; exact hu, by rw [h3]; exact hv⟩
set_option maxRecDepth 100000 in
set_option maxHeartbeats 3200000 in
theorem reduced_any (neg : Bool) (n d : Nat) (hd : d ≠ 0) (u v : Value) (w : World) (h : NV w u n) (k : NV w v d) (hln : (nd n).length ≤ 500) (hld : (nd d).length ≤ 500) :
    Calls Tryz.prog 63 #[.bool neg, u, v] w fun e w' => ∃ r, e = .returned r ∧ Hid (FV w' r (mkRat (sg neg n) d)) ∧ Hid (Below w.heap.size w w') := by
  obtain ⟨w0, hw0, hb0, hk0⟩ := newF w
  have HB0 := Lib.hid hb0
  have HK0 := Lib.hid hk0
  have HU := Lib.hid (h.below hb0)
  have HD := Lib.hid (k.below hb0)
  have hlg : (nd (n.gcd d)).length ≤ 500 := Nat.le_trans (nd_len_mono (Nat.gcd_le_right n (by omega))) hld
  have HZ := Lib.hid (zero_any n u w0 HU.out)
  have HO := Lib.hid (one_any d v w0 HD.out)
  have HF := Lib.hid (fun wx => fone_any wx)
  have HG := Lib.hid (gcd_any n d u v w0 HU.out HD.out hln hld)
  have HN := Lib.hid (fun x v wx (hv : NV wx v x) => one_any x v wx hv)
  have HV1 := Lib.hid (fun vx vy wx (h : NV wx vx n) (h2 : NV wx vy (n.gcd d)) h5 => div_any n (n.gcd d) vx vy wx h h2 hln hlg h5)
  have HV2 := Lib.hid (fun vx vy wx (h : NV wx vx d) (h2 : NV wx vy (n.gcd d)) h5 => div_any d (n.gcd d) vx vy wx h h2 hld hlg h5)
  obtain ⟨A1, c1, hv1⟩ := h.shape
  obtain ⟨A2, c2, hv2⟩ := k.shape
  subst hv1 hv2
  clear hb0 hk0 h k hln hld hlg
  generalize hl1 : (nd n).length = l1 at *
  generalize hl2 : (nd d).length = l2 at *
  clear hl1 hl2
  by_cases hn : n = 0
  · have HQ := Lib.hid (show mkRat (sg neg n) d = 0 by rw [hn]; exact rat_zero d neg)
    rw [decide_eq_true hn] at HZ
    clear hn
    go_enter Tryz.func63, Tryz.ntmps63
    go_wp2_with (first | (go_at_call 84; refine HZ.out.mono ?_; rintro e wz ⟨rfl, hz⟩; subst wz) | (go_at_call 66; refine (HF.out w0).mono ?_; rintro e w1 ⟨r, rfl, HN1, HB1⟩; obtain ⟨g9, c9, hv9⟩ := HN1.out.shape; subst hv9; have HK1 := Lib.hid (HK0.out.below HB1.out); have q1 := Blk.cell HK1.out; have r1 := Blk.frozen HK1.out))
    refine bodyPost_ret (results_frac rfl _ _ w.heap.size _ _ _ rfl (blk3 w1 _ _ _ _ _ _ _ HK1.out)) rfl ?_
    refine ⟨_, rfl, Lib.hid ?_, Lib.hid ((HB0.out.trans (HB1.out.mono HB0.out.size)).trans (belowF _ _ _ _ _))⟩
    rw [HQ.out]
    exact ⟨_, _, rfl, nvF (NV.nil _) HK1.out _ _ _, nvF HN1.out HK1.out _ _ _⟩
  · have HRP := Lib.hid (fun wx u v hu hv => rat_of_parts (neg := neg) hn hd (w := wx) (u := u) (v := v) hu hv)
    have HGD := Lib.hid (show n.gcd d ≤ n ∧ n.gcd d ≤ d ∧ n.gcd d ≠ 0 from ⟨Nat.gcd_le_left d (by omega), Nat.gcd_le_right n (by omega), fun e => hn (Nat.eq_zero_of_gcd_eq_zero_left e)⟩)
    rw [decide_eq_false hn] at HZ
    by_cases h1 : d = 1
    · have HE := Lib.hid (show n / n.gcd d = n ∧ d / n.gcd d = d by rw [h1, Nat.gcd_one_right, Nat.div_one, Nat.div_one]; exact ⟨rfl, rfl⟩)
      rw [decide_eq_true h1] at HO
      have q1 := Blk.cell HK0.out
      have r1 := Blk.frozen HK0.out
      clear hn h1 hd
      go_enter Tryz.func63, Tryz.ntmps63
      go_wp2_with (first | (go_at_call 84; refine HZ.out.mono ?_; rintro e wz ⟨rfl, hz⟩; subst wz) | (go_at_call 85; refine HO.out.mono ?_; rintro e wz ⟨rfl, hz⟩; subst wz))
      refine bodyPost_ret (results_frac rfl _ _ w.heap.size _ _ _ rfl (blk3 w0 _ _ _ _ _ _ _ HK0.out)) rfl ?_
      exact ⟨_, rfl, Lib.hid (HRP.out _ _ _ (by rw [HE.out.1]; exact nvF HU.out HK0.out _ _ _) (by rw [HE.out.2]; exact nvF HD.out HK0.out _ _ _)), Lib.hid (HB0.out.trans (belowF _ _ _ _ _))⟩
    · rw [decide_eq_false h1] at HO
      by_cases hg : n.gcd d = 1
      · have HE := Lib.hid (show n / n.gcd d = n ∧ d / n.gcd d = d by rw [hg, Nat.div_one, Nat.div_one]; exact ⟨rfl, rfl⟩)
        have HGE := Lib.hid (decide_eq_true hg)
        clear hn h1 hd hg
        go_enter Tryz.func63, Tryz.ntmps63
        go_wp2_with (first | (go_at_call 84; refine HZ.out.mono ?_; rintro e wz ⟨rfl, hz⟩; subst wz) | (go_at_call 86; refine HG.out.mono ?_; rintro e w1 ⟨r, rfl, HN1, HB1⟩; have HK1 := Lib.hid (HK0.out.below HB1.out); have q1 := Blk.cell HK1.out; have r1 := Blk.frozen HK1.out) | (go_at_call 85; have _g := HB1; clear _g; refine (HN.out _ _ w1 HN1.out).mono ?_; rintro e wz ⟨rfl, hz⟩; subst wz; rw [HGE.out]) | (go_at_call 85; refine HO.out.mono ?_; rintro e wz ⟨rfl, hz⟩; subst wz))
        refine bodyPost_ret (results_frac rfl _ _ w.heap.size _ _ _ rfl (blk3 w1 _ _ _ _ _ _ _ HK1.out)) rfl ?_
        exact ⟨_, rfl, Lib.hid (HRP.out _ _ _ (by rw [HE.out.1]; exact nvF (HU.out.below HB1.out) HK1.out _ _ _) (by rw [HE.out.2]; exact nvF (HD.out.below HB1.out) HK1.out _ _ _)), Lib.hid ((HB0.out.trans (HB1.out.mono HB0.out.size)).trans (belowF _ _ _ _ _))⟩
      · have HGE := Lib.hid (decide_eq_false hg)
        clear hn h1 hd hg
        go_enter Tryz.func63, Tryz.ntmps63
        go_wp2_with (first | (go_at_call 84; refine HZ.out.mono ?_; rintro e wz ⟨rfl, hz⟩; subst wz) | (go_at_call 86; refine HG.out.mono ?_; rintro e w1 ⟨r, rfl, HN1, HB1⟩) | (go_at_call 87; have _g := HB2; clear _g; refine (HV2.out _ _ w2 ((HD.out.below HB1.out).below HB2.out) (HN1.out.below HB2.out) HGD.out.2.2).mono ?_; rintro e w3 ⟨r3, rr3, rfl, HN3, HNr3, HB3⟩; obtain ⟨g8, c8, hv8⟩ := HN3.out.shape; subst hv8; have HK3 := Lib.hid (((HK0.out.below HB1.out).below HB2.out).below HB3.out); have q3 := Blk.cell HK3.out; have r3 := Blk.frozen HK3.out) | (go_at_call 87; have _g := HB1; clear _g; refine (HV1.out _ _ w1 (HU.out.below HB1.out) HN1.out HGD.out.2.2).mono ?_; rintro e w2 ⟨r2, rr2, rfl, HN2, HNr2, HB2⟩; obtain ⟨g9, c9, hv9⟩ := HN2.out.shape; subst hv9) | (go_at_call 85; have _g := HB1; clear _g; refine (HN.out _ _ w1 HN1.out).mono ?_; rintro e wz ⟨rfl, hz⟩; subst wz; rw [HGE.out]) | (go_at_call 85; refine HO.out.mono ?_; rintro e wz ⟨rfl, hz⟩; subst wz))
        refine bodyPost_ret (results_frac rfl _ _ w.heap.size _ _ _ rfl (blk3 w3 _ _ _ _ _ _ _ HK3.out)) rfl ?_
        exact ⟨_, rfl, Lib.hid (HRP.out _ _ _ (nvF (HN2.out.below HB3.out) HK3.out _ _ _) (nvF HN3.out HK3.out _ _ _)), Lib.hid ((((HB0.out.trans (HB1.out.mono HB0.out.size)).trans (HB2.out.mono (Nat.le_trans HB0.out.size HB1.out.size))).trans (HB3.out.mono (Nat.le_trans (Nat.le_trans HB0.out.size HB1.out.size) HB2.out.size))).trans (belowF _ _ _ _ _))⟩
end Go.Proofs.YtdbhlkejfecffaaGreatDoor
/-
  frac: Div.
-/
namespace Go.Proofs.YtdbhlkejfecffaaGreatDoor
open Go.RowKit KeepPlain

theorem nd_mul_len {x y i j : Nat} (hx : (nd x).length ≤ i) (hy : (nd y).length ≤ j) : (nd (x * y)).length ≤ i + j := by
  refine nd_len_le _ _ ?_
  have h1 := nd_lt_pow x
  have h2 := nd_lt_pow y
  have h3 : 1000000000 ^ (nd x).length ≤ 1000000000 ^ i := Nat.pow_le_pow_right (by decide) hx
  have h4 : 1000000000 ^ (nd y).length ≤ 1000000000 ^ j := Nat.pow_le_pow_right (by decide) hy
  rw [Nat.pow_add]
  exact Nat.mul_lt_mul_of_lt_of_le (Nat.lt_of_lt_of_le h1 h3) (Nat.le_of_lt (Nat.lt_of_lt_of_le h2 h4)) (Nat.lt_of_lt_of_le (Nat.lt_of_le_of_lt (Nat.zero_le _) h2) h4)
/-- The size of a number. -/
def Sz (q : Rat) (k : Nat) : Prop := (nd q.num.natAbs).length ≤ k ∧ (nd q.den).length ≤ k
set_option maxRecDepth 100000 in
set_option maxHeartbeats 3200000 in
theorem fdiv_any (qa qb : Rat) (a b : Value) (w : World) (h : FV w a qa) (k : FV w b qb) (hsa : Sz qa 200) (hsb : Sz qb 200) (hqb : qb ≠ 0) :
    Calls Tryz.prog 52 #[a, b] w fun e w' => ∃ v, e = .returned v ∧ Hid (FV w' v (qa / qb)) ∧ Hid (Below w.heap.size w w') := by
  obtain ⟨ua, da, rfl, hua, hda⟩ := h
  obtain ⟨ub, db, rfl, hub, hdb⟩ := k
  have HQ := Lib.hid (rat_div qa qb hqb)
  have hnb : qb.num.natAbs ≠ 0 := fun e => hqb (Rat.num_eq_zero.1 (by omega))
  have hdp : qa.den * qb.num.natAbs ≠ 0 := Nat.mul_ne_zero qa.den_nz hnb
  have hl1 := nd_mul_len hsa.1 hsb.2
  have hl2 := nd_mul_len hsa.2 hsb.1
  have HM1 := Lib.hid (fun u v wx (hu : NV wx u qa.num.natAbs) (hv : NV wx v qb.den) => mul_any qa.num.natAbs qb.den u v wx hu hv (by have := hsa.1; omega) (by have := hsb.2; omega))
  have HM2 := Lib.hid (fun u v wx (hu : NV wx u qa.den) (hv : NV wx v qb.num.natAbs) => mul_any qa.den qb.num.natAbs u v wx hu hv (by have := hsa.2; omega) (by have := hsb.1; omega))
  have HR := Lib.hid (fun u d wx (hu : NV wx u (qa.num.natAbs * qb.den)) (hd : NV wx d (qa.den * qb.num.natAbs)) => reduced_any (decide (qa.num < 0) != decide (qb.num < 0)) _ _ hdp u d wx hu hd (by omega) (by omega))
  rw [← HQ.out] at HR
  clear hqb hsa hsb hnb hdp hl1 hl2 HQ
  generalize qa / qb = qq at *
  generalize decide (qa.num < 0) = na at *
  generalize decide (qb.num < 0) = nb at *
  generalize qa.num.natAbs = xa at *
  generalize qb.num.natAbs = xb at *
  generalize qa.den = ya at *
  generalize qb.den = yb at *
  obtain ⟨w0, hw0, hb0, hk0, hk1, hk2⟩ : ∃ w0, ((w.alloc (.cells #[.bool na, ua, da] 85)).alloc (.cells #[.bool nb, ub, db] 85)).alloc (.cells #[.bool false, .slice none 0 0, .slice none 0 0] 85) = w0 ∧ Below w.heap.size w w0 ∧ Blk w0 w.heap.size [.bool na, ua, da] 85 ∧ Blk w0 (w.heap.size + 1) [.bool nb, ub, db] 85 ∧ RB w0 (w.heap.size + 1 + 1) := by
    refine ⟨_, rfl, (((Below.refl _ _).alloc (Nat.le_refl _) _).alloc (by simp only [World.size_alloc]; omega) _).alloc (by simp only [World.size_alloc]; omega) _, ((news_blk w [.bool na, ua, da] 85).alloc _).alloc _, ?_, ?_⟩
    · have := (news_blk (w.alloc (.cells #[.bool na, ua, da] 85)) [.bool nb, ub, db] 85).alloc (.cells #[.bool false, .slice none 0 0, .slice none 0 0] 85)
      simp only [World.size_alloc] at this
      exact this
    · have := news_blk ((w.alloc (.cells #[.bool na, ua, da] 85)).alloc (.cells #[.bool nb, ub, db] 85)) [.bool false, .slice none 0 0, .slice none 0 0] 85
      simp only [World.size_alloc] at this
      exact this
  have HB0 := Lib.hid hb0
  have HK2 := Lib.hid hk2
  have HUA := Lib.hid (hua.below hb0)
  have HDA := Lib.hid (hda.below hb0)
  have HUB := Lib.hid (hub.below hb0)
  have HDB := Lib.hid (hdb.below hb0)
  have HS := Lib.hid (fun (wx : World) (hb : Below w0.heap.size w0 wx) => show (∀ o, wx.cell? ⟨w.heap.size, o, none⟩ = ([Value.bool na, ua, da] : List Value)[o]?) ∧ (∀ o, wx.cell? ⟨w.heap.size + 1, o, none⟩ = ([Value.bool nb, ub, db] : List Value)[o]?) from ⟨(hk0.below hb).cell, (hk1.below hb).cell⟩)
  have HT := Lib.hid (fun (wx : World) (hb : Below w0.heap.size w0 wx) (x y z : Value) => show (∀ o, (setF wx (w.heap.size + 1 + 1) x y z).cell? ⟨w.heap.size, o, none⟩ = ([Value.bool na, ua, da] : List Value)[o]?) ∧ (∀ o, (setF wx (w.heap.size + 1 + 1) x y z).cell? ⟨w.heap.size + 1, o, none⟩ = ([Value.bool nb, ub, db] : List Value)[o]?) from ⟨((((hk0.below hb).far (by simp; omega) _).far (by simp; omega) _).far (by simp; omega) _).cell, ((((hk1.below hb).far (by simp) _).far (by simp) _).far (by simp) _).cell⟩)
  clear hb0 hk0 hk1 hk2 hua hda hub hdb
  obtain ⟨A1, c1, rfl⟩ := HUA.out.shape
  obtain ⟨A2, c2, rfl⟩ := HDA.out.shape
  obtain ⟨A3, c3, rfl⟩ := HUB.out.shape
  obtain ⟨A4, c4, rfl⟩ := HDB.out.shape
  generalize (nd xa).length = l1 at *
  generalize (nd ya).length = l2 at *
  generalize (nd xb).length = l3 at *
  generalize (nd yb).length = l4 at *
  go_enter Tryz.func52, Tryz.ntmps52
  go_upto_region 1 with fail
  clear hw0
  go_region_held3 (fun wy : World => (∀ o, wy.cell? ⟨w.heap.size, o, none⟩ = ([Value.bool na, .slice A1 l1 c1, .slice A2 l2 c2] : List Value)[o]?) ∧ (∀ o, wy.cell? ⟨w.heap.size + 1, o, none⟩ = ([Value.bool nb, .slice A3 l3 c3, .slice A4 l4 c4] : List Value)[o]?)) (first | exact HT.out _ HB3.out _ _ _ | exact HS.out _ HB3.out | exact HS.out _ HB2.out | exact HS.out _ HB1.out | exact HS.out _ (Below.refl _ _).drew | exact HS.out _ (Below.refl _ _)) (first | (go_at_call 63; have _g := HB2; clear _g; refine (HR.out _ _ w2 HN1.out HN2.out).mono ?_; rintro e w3 ⟨r3, rfl, HF3, HB3'⟩; obtain ⟨u3, d3, rfl, hs1, hs2⟩ := HF3.out; obtain ⟨A7, c7, rfl⟩ := hs1.shape; obtain ⟨A8, c8, rfl⟩ := hs2.shape; have HB3 := Lib.hid (HB2.out.trans (HB3'.out.mono HB2.out.size)); have q3 := Blk.cell (HK2.out.below HB3.out); have r3 := Blk.frozen (HK2.out.below HB3.out); dsimp only) | (go_at_call 64; have _g := HB1; clear _g; refine (HM2.out _ _ w1 (HDA.out.below HB1.out) (HUB.out.below HB1.out)).mono ?_; rintro e w2 ⟨r2, rfl, HN2, HB2'⟩; have HB2 := Lib.hid (HB1.out.trans (HB2'.out.mono HB1.out.size)); have HN1 := Lib.hid (HN1'.out.below HB2'.out); dsimp only) | (go_at_call 64; refine (HM1.out _ _ w0.drew (HUA.out.below (Below.refl _ _).drew) (HDB.out.below (Below.refl _ _).drew)).mono ?_; rintro e w1 ⟨r1, rfl, HN1', HB1'⟩; have HB1 : Hid (Below w0.heap.size w0 w1) := Lib.hid (below_undrew HB1'.out); dsimp only))
  go_wp2
  have HK3 := HK2.out.below HB3.out
  refine bodyPost_ret (results_frac rfl _ _ (w.heap.size + 1 + 1) _ _ _ rfl (blk3 w3 _ _ _ _ _ _ _ HK3)) rfl ?_
  exact ⟨_, rfl, Lib.hid ⟨_, _, rfl, nvF hs1 HK3 _ _ _, nvF hs2 HK3 _ _ _⟩, Lib.hid ((HB0.out.trans (HB3.out.mono HB0.out.size)).trans ((belowF _ _ _ _ _).mono (by omega)))⟩
end Go.Proofs.YtdbhlkejfecffaaGreatDoor
