/-
  nat: digit: one digit of a long quotient.
  nat: Of; slices.Clone of a number.
-/
import Derived.Lib.SliceRun
import Derived.Test.YtdbhlkejfecffaaGreatDoorSa19
import Derived.Test.YtdbhlkejfecffaaGreatDoorSa22
/-
  nat: digit: one digit of a long quotient.
-/
namespace Go.Proofs.YtdbhlkejfecffaaGreatDoor
open Go.RowKit KeepPlain

theorem w64n {n : Nat} (h : n ≤ 1000000) : wrap64 (n : Int) = n := wrap64_in (by omega)
theorem stop_facts {q r y2 x2 : Nat} (hq : q < 1000000000) (hy : y2 < 1000000000) (hx : x2 < 1000000000) (hcont : ¬ (r < 1000000000 ∧ r * 1000000000 + x2 < q * y2)) : (decide ((r : Int) < 1000000000) = false) ∨ (decide ((r : Int) < 1000000000) = true ∧ ∃ p2 p3 t3 : Nat, (q : Int) * (y2 : Int) = (p2 : Int) ∧ (r : Int) * 1000000000 = (p3 : Int) ∧ (p3 : Int) + (x2 : Int) = (t3 : Int) ∧ IntKind.u64.wrap (p2 : Int) = p2 ∧ IntKind.u64.wrap (p3 : Int) = p3 ∧ IntKind.u64.wrap (t3 : Int) = t3 ∧ decide (t3 < p2) = false) := by
  by_cases h1 : r < 1000000000
  · refine Or.inr ⟨decide_eq_true (by omega), ?_⟩
    have h0 : q * y2 ≤ 999999999 * 999999999 := Nat.mul_le_mul (by omega) (by omega)
    have h2 : ¬ (r * 1000000000 + x2 < q * y2) := fun h => hcont ⟨h1, h⟩
    obtain ⟨p2, hp2⟩ : ∃ p2, p2 = q * y2 := ⟨_, rfl⟩
    rw [← hp2] at h0 h2
    exact ⟨p2, r * 1000000000, r * 1000000000 + x2, by rw [hp2, Int.natCast_mul], by omega, by omega, u64_in (by omega), u64_in (by omega), u64_in (by omega), decide_eq_false (by omega)⟩
  · exact Or.inl (decide_eq_false (by omega))
theorem keep_drewN (g : Nat) (w : World) (j : Nat) : Keep g w (w.drewN j) := ⟨rfl, rfl, rfl, Nat.le_refl _, fun _ _ _ => rfl⟩
theorem top_bound {x0 x1 p0 top : Nat} (h0 : x0 < 1000000000) (h1 : x1 < 1000000000) (hp : p0 = x0 * 1000000000) (ht : top = p0 + x1) : top < 1000000000000000000 ∧ p0 < 1000000000000000000 := by omega
/-- The first guess, and what it leaves. -/
theorem guess_start {top y1 q0 : Nat} (h : q0 * y1 ≤ top) (q : Nat) (hq : q ≤ q0) : ∃ p r, q * y1 = p ∧ p ≤ top ∧ r = top - p ∧ r + q * y1 = top := by
  have : q * y1 ≤ q0 * y1 := Nat.mul_le_mul_right _ hq
  exact ⟨q * y1, top - q * y1, rfl, by omega, rfl, by omega⟩
theorem guess_prod {q r y2 x2 : Nat} (hq : q < 1000000000) (hy : y2 < 1000000000) (hr : r < 1000000000) (hx : x2 < 1000000000) : q * y2 < 1000000000000000000 ∧ r * 1000000000 + x2 < 1000000000000000000 := by
  have h1 : q * y2 ≤ 999999999 * 999999999 := Nat.mul_le_mul (by omega) (by omega)
  omega
set_option maxRecDepth 100000 in
set_option maxHeartbeats 6400000 in
theorem digit_any (g k n c : Nat) (U : List Nat) (v : Value) (V : Nat) (w : World) (hk : Blk w g (us U) 127) (hU : ∀ x ∈ U, x < 1000000000) (hkn : k + n + 1 ≤ U.length) (hc : n + 1 ≤ c) (hn : n ≤ 1000) (hn2 : 2 ≤ n) (hk2 : k ≤ 2000)
    (hv : NV w v V) (hvg : v.ownBlock ≠ some g) (hlv : (nd V).length = n) (hW : sv (fun j => dg U (k + j)) (n + 1) < 1000000000 * V) :
    Calls Tryz.prog 119 #[.slice (some ⟨g, k, none⟩) (n + 1) c, v] w fun e w' => ∃ U', e = .returned (.int .u64 (sv (fun j => dg U (k + j)) (n + 1) / V : Nat)) ∧ Hid (Blk w' g (us U') 127) ∧ Hid (Win U U' k (n + 1)) ∧ Hid (sv (fun j => dg U' (k + j)) (n + 1) = sv (fun j => dg U (k + j)) (n + 1) % V) ∧ Hid (Keep g w w') := by
  have HLE := Lib.hid (fun q wx (h1 : Keep g w wx) (h2 : Blk wx g (us U) 127) hq => less_any g k (n + 1) c U v V q wx h2 hU (by omega) (by omega) (by omega) hk2 (h1.rdU hv (fun _ => hvg)) hvg (by omega) hq)
  have HMO := Lib.hid (fun U1 wx (h0 : Win U U1 k (n + 1)) (h1 : Keep g w wx) (h2 : Blk wx g (us U1) 127) => more_any g k (n + 1) c U1 v V wx h2 h0.2.1 (by rw [h0.1]; omega) (by omega) (by omega) hk2 (h1.rdU hv (fun _ => hvg)) hvg (by omega))
  obtain ⟨B, d, rfl, -, -, hB⟩ := RdU.open hv
  rw [hlv] at hB HLE HMO ⊢
  obtain ⟨n1, hn1⟩ : ∃ n1, n1 = n - 1 := ⟨_, rfl⟩
  obtain ⟨n2, hn2'⟩ : ∃ n2, n2 = n - 2 := ⟨_, rfl⟩
  obtain ⟨b1, o, rfl, hb1, c1⟩ := hB n1 (by omega)
  have c2 : w.cell? ⟨b1, o + n2, none⟩ = some (.int .u32 (dg (nd V) n2 : Nat)) := by
    obtain ⟨b', o', e, -, h⟩ := hB n2 (by omega)
    injection e with e; injection e with e1 e2
    subst e1 e2; exact h
  have k0 := blk_cellU hk (k + n) (by omega)
  have k1 := blk_cellU hk (k + n1) (by omega)
  have k2 := blk_cellU hk (k + n2) (by omega)
  have hv1 : 0 < dg (nd V) n1 := by
    have h := (nd_neat V).2
    rw [List.getLast?_eq_getElem?, hlv, ← hn1] at h
    rw [dg_get _ _ (by omega)]
    rw [List.getElem?_eq_getElem (by omega)] at h
    rcases Nat.eq_zero_or_pos ((nd V)[n1]'(by omega)) with e | e
    · exact absurd (by rw [e]) h
    · exact e
  have hdU : ∀ j, dg U j < 1000000000 := dg_lt U hU
  have hUeq := top3 (fun j => dg U (k + j)) n2
  rw [show n2 + 3 = n + 1 by omega, show n2 + 2 = n by omega, show n2 + 1 = n1 by omega] at hUeq
  have hVeq := top2 (dg (nd V)) n2
  rw [show n2 + 2 = n by omega, show n2 + 1 = n1 by omega, nd_sv V n (by omega)] at hVeq
  have hul : sv (fun j => dg U (k + j)) n2 < 1000000000 ^ n2 := sv_lt _ (fun j _ => hdU _)
  have hvl : sv (dg (nd V)) n2 < 1000000000 ^ n2 := sv_lt _ (fun j _ => nd_dg_lt V j)
  have hVn : V < 1000000000 ^ (n + 1) := by
    have := nd_lt_pow V
    rw [hlv] at this
    have h2 : 1000000000 ^ n ≤ 1000000000 ^ (n + 1) := Nat.pow_le_pow_right (by omega) (by omega)
    omega
  have hV0 : 0 < V := by
    rcases Nat.eq_zero_or_pos V with e | e
    · rw [e] at hW; omega
    · exact e
  have hwl : ∀ U', (∀ x ∈ U', x < 1000000000) → sv (fun j => dg U' (k + j)) (n + 1) < 1000000000 ^ (n + 1) := fun U' h => sv_lt _ (fun j _ => dg_lt U' h _)
  generalize sv (fun j => dg U (k + j)) (n + 1) = W at *
  generalize sv (fun j => dg U (k + j)) n2 = ul at hUeq hul
  generalize sv (dg (nd V)) n2 = vl at hVeq hvl
  have hx0 := hdU (k + n)
  have hx1 := hdU (k + n1)
  have hx2 := hdU (k + n2)
  have hy1 := nd_dg_lt V n1
  have hy2 := nd_dg_lt V n2
  generalize dg U (k + n) = x0 at k0 hUeq hx0
  generalize dg U (k + n1) = x1 at k1 hUeq hx1
  generalize dg U (k + n2) = x2 at k2 hUeq hx2
  generalize dg (nd V) n1 = y1 at c1 hVeq hv1 hy1
  generalize dg (nd V) n2 = y2 at c2 hVeq hy2
  obtain ⟨p0, hp0⟩ : ∃ p0, p0 = x0 * 1000000000 := ⟨_, rfl⟩
  obtain ⟨top, htop⟩ : ∃ top, top = p0 + x1 := ⟨_, rfl⟩
  rw [← hp0, ← htop] at hUeq
  have HQT := Lib.hid (top_bound hx0 hx1 hp0 htop)
  have HHI := Lib.hid (fun q r (hr : r + q * y1 = top) h => guess_less (guess_high (U := W) (V := V) (q := q) (r := r) hUeq hVeq hul hr h))
  have HEN := Lib.hid (fun q r hq (hr : r + q * y1 = top) h => guess_end (U := W) (V := V) (q := q) (r := r) hUeq hVeq hvl hv1 hy2 hq hr h)
  have HFI := Lib.hid (guess_first hUeq hVeq hul hx2 hv1 hW)
  have HRI := Lib.hid (fun (U' : List Nat) q cy (h : ∀ x ∈ U', x < 1000000000) h1 h2 h3 => less_right (n := n) (q := q) (U := W) (V := V) (R := sv (fun j => dg U' (k + j)) (n + 1)) (c := cy) (hwl U' h) h1 h2 h3 hV0)
  have HWR := Lib.hid (fun (U' : List Nat) q cy (h : ∀ x ∈ U', x < 1000000000) h1 h2 h3 => less_wrong (n := n) (q := q) (U := W) (V := V) (R := sv (fun j => dg U' (k + j)) (n + 1)) (c := cy) (hwl U' h) h1 h2 h3 hVn)
  have HMR := Lib.hid (fun (U' U2 : List Nat) q cy d (h : ∀ x ∈ U', x < 1000000000) h1 h2 h3 (h4 : ∀ x ∈ U2, x < 1000000000) h5 => more_right (n := n) (q := q) (U := W) (V := V) (R := sv (fun j => dg U' (k + j)) (n + 1)) (S := sv (fun j => dg U2 (k + j)) (n + 1)) (c := cy) (d := d) (hwl U' h) h1 h2 h3 hVn (hwl U2 h4) h5)
  have HK0 := Lib.hid hk
  have HUD := Lib.hid hU
  have HX2 := Lib.hid hx2
  have HY1 := Lib.hid (And.intro hv1 hy1)
  have HY2 := Lib.hid hy2
  clear hk hU hv hB hvg hlv hW hdU hUeq hVeq hul hvl hVn hV0 hwl
  have e1 : (n : Int) - 1 = (n1 : Int) := by omega
  have e2 : (n : Int) - 2 = (n2 : Int) := by omega
  have hnb1 : n1 ≤ 1000000 := by omega
  have hnb2 : n2 ≤ 1000000 := by omega
  have b1' : (n1 : Int) < (n : Int) + 1 := by omega
  have b2' : (n2 : Int) < (n : Int) + 1 := by omega
  have b3' : (n1 : Int) < (n : Int) := by omega
  have b4' : (n2 : Int) < (n : Int) := by omega
  have s1 : (x0 : Int) * 1000000000 = (p0 : Int) := by omega
  have s2 : (p0 : Int) + (x1 : Int) = (top : Int) := by omega
  have u1 : IntKind.u64.wrap (x0 : Int) = x0 := u64_in (by omega)
  have u2 : IntKind.u64.wrap (x1 : Int) = x1 := u64_in (by omega)
  have u3 : IntKind.u64.wrap (x2 : Int) = x2 := u64_in (by omega)
  have u4 : IntKind.u64.wrap (y1 : Int) = y1 := u64_in (by omega)
  have u5 : IntKind.u64.wrap (y2 : Int) = y2 := u64_in (by omega)
  have u6 : IntKind.u64.wrap (p0 : Int) = p0 := u64_in (Nat.lt_trans HQT.out.2 (by decide))
  have u7 : IntKind.u64.wrap (top : Int) = top := u64_in (Nat.lt_trans HQT.out.1 (by decide))
  have t1 : Int.tdiv (top : Int) (y1 : Int) = ((top / y1 : Nat) : Int) := tdiv_nat top y1
  have t2 : (top : Int) / (y1 : Int) = ((top / y1 : Nat) : Int) := rfl
  have d0 : ((y1 : Int) == 0) = false := by simp; omega
  have d1 : (y1 : Int) ≠ 0 := by omega
  have HQ0 := Lib.hid (Nat.div_mul_le_self top y1)
  have HTL := Lib.hid (Nat.div_le_self top y1)
  generalize top / y1 = q0 at *
  have u8 : IntKind.u64.wrap (q0 : Int) = q0 := u64_in (Nat.lt_of_le_of_lt HTL.out (Nat.lt_trans HQT.out.1 (by decide)))
  clear hv1 hx0 hx1 hx2 hy1 hy2 hp0 htop hn1 hn2' hk2
  have hcs : q0 ≤ 999999999 ∨ 999999999 < q0 := by omega
  obtain ⟨q1, hq1, hq1b, hq1q⟩ : ∃ q1, (q0 ≤ 999999999 ∧ q1 = q0 ∨ 999999999 < q0 ∧ q1 = 999999999) ∧ q1 ≤ 999999999 ∧ q1 ≤ q0 := by
    rcases hcs with h | h
    · exact ⟨q0, Or.inl ⟨h, rfl⟩, h, Nat.le_refl _⟩
    · exact ⟨999999999, Or.inr ⟨h, rfl⟩, Nat.le_refl _, by omega⟩
  obtain ⟨p1, r1, hp1, hp1t, hr1, hrq⟩ := guess_start HQ0.out q1 hq1q
  have HST := Lib.hid (show q1 < 1000000000 ∧ r1 + q1 * y1 = top ∧ W / V ≤ q1 by
    refine ⟨by omega, hrq, ?_⟩
    have h1 := HFI.out
    have h2 := Nat.le_trans h1 (Nat.min_le_left _ _)
    have h3 := Nat.le_trans h1 (Nat.min_le_right _ _)
    generalize W / V = z at *
    omega)
  have s3 : (q1 : Int) * (y1 : Int) = (p1 : Int) := by rw [← hp1]; push_cast; rfl
  have s4 : (top : Int) - (p1 : Int) = (r1 : Int) := by omega
  have u9 : IntKind.u64.wrap (p1 : Int) = p1 := u64_in (Nat.lt_of_le_of_lt hp1t (Nat.lt_trans HQT.out.1 (by decide)))
  have u10 : IntKind.u64.wrap (r1 : Int) = r1 := u64_in (Nat.lt_of_le_of_lt (by omega) (Nat.lt_trans HQT.out.1 (by decide)))
  have HNB := Lib.hid (And.intro hnb1 hnb2)
  clear hnb1 hnb2
  clear hcs hq1b hq1q hp1 hp1t hr1 hrq HFI HQ0 HTL
  rcases hq1 with ⟨hs, hq⟩ | ⟨hs, hq⟩
  all_goals
    first | (have hs2 : 999999999 < (q0 : Int) := (by omega); have s3' : (999999999 : Int) * (y1 : Int) = (p1 : Int) := (by rw [hq] at s3; exact s3); have HQE := Lib.hid hq; clear hq) | (have hs2 : ¬ (999999999 < (q1 : Int)) := (by omega); have HQE := Lib.hid (show True from trivial); subst hq)
    clear hs
    have hnb1 := HNB.out.1
    have hnb2 := HNB.out.2
    go_enter Tryz.func119, Tryz.ntmps119
    go_wp2
    go_quiet (fail)
    go_wp2
    go_loopg [7, 8] q1 (fun gk s7 s8 wx => ∃ r m : Nat, s7 = .int .u64 gk ∧ s8 = .int .u64 r ∧ wx = w.drewN m ∧ Hid (gk < 1000000000 ∧ r + gk * y1 = top ∧ W / V ≤ gk))
    case atStart => exact ⟨r1, _, by first | rfl | (rw [HQE.out]; rfl), rfl, rfl, HST⟩
    case round =>
      obtain ⟨r, m, rfl, rfl, rfl, HI⟩ := hrel
      obtain ⟨q, rfl⟩ : ∃ q, q = gk := ⟨_, rfl⟩
      have ur : r < 18446744073709551616 := Nat.lt_of_le_of_lt (show r ≤ top by have := HI.out.2.1; omega) (Nat.lt_trans HQT.out.1 (by decide))
      have HUR := Lib.hid ur
      clear ur
      have u11 : IntKind.u64.wrap (r : Int) = r := u64_in HUR.out
      have u12 : IntKind.u64.wrap (q : Int) = q := u64_in (Nat.lt_trans HI.out.1 (by decide))
      by_cases hcont : r < 1000000000 ∧ r * 1000000000 + x2 < q * y2
      · obtain ⟨h1, h2⟩ := hcont
        obtain ⟨b1'', b2''⟩ := guess_prod HI.out.1 HY2.out h1 HX2.out
        obtain ⟨h3, h4⟩ := HHI.out q r HI.out.2.1 h2
        obtain ⟨p2, hp2⟩ : ∃ p2, p2 = q * y2 := ⟨_, rfl⟩
        obtain ⟨p3, hp3⟩ : ∃ p3, p3 = r * 1000000000 := ⟨_, rfl⟩
        obtain ⟨t3, ht3⟩ : ∃ t3, t3 = p3 + x2 := ⟨_, rfl⟩
        rw [← hp3, ← ht3] at b2''
        rw [← hp2] at b1''
        rw [← hp3, ← ht3, ← hp2] at h2
        obtain ⟨q', hq'⟩ : ∃ q', q = q' + 1 := ⟨q - 1, by omega⟩
        obtain ⟨r', hr'⟩ : ∃ r', r' = r + y1 := ⟨_, rfl⟩
        have HI' := Lib.hid (show q' < 1000000000 ∧ r' + q' * y1 = top ∧ W / V ≤ q' by
          obtain ⟨a1, a2, a3⟩ := HI.out
          rw [hq', Nat.add_mul] at a2
          refine ⟨by omega, by omega, ?_⟩
          rw [hq'] at h3
          exact h3)
        have s5 : (q : Int) * (y2 : Int) = (p2 : Int) := by rw [hp2]; push_cast; rfl
        have s6 : (r : Int) * 1000000000 = (p3 : Int) := by omega
        have s7 : (p3 : Int) + (x2 : Int) = (t3 : Int) := by omega
        have s8 : (q : Int) - 1 = (q' : Int) := by omega
        have s9 : (r : Int) + (y1 : Int) = (r' : Int) := by omega
        have u13 : IntKind.u64.wrap (p2 : Int) = p2 := u64_in (Nat.lt_trans b1'' (by decide))
        have u14 : IntKind.u64.wrap (p3 : Int) = p3 := u64_in (by omega)
        have u15 : IntKind.u64.wrap (t3 : Int) = t3 := u64_in (Nat.lt_trans b2'' (by decide))
        have u16 : IntKind.u64.wrap (q' : Int) = q' := u64_in (Nat.lt_trans HI'.out.1 (by decide))
        have u17 : IntKind.u64.wrap (r' : Int) = r' := u64_in (by have := HY1.out.2; omega)
        have d2 : (r : Int) < 1000000000 := by omega
        have d3 : (t3 : Int) < (p2 : Int) := by omega
        have HLT := Lib.hid (show q' < q by omega)
        clear h1 h2 b1'' b2'' h3 h4 hp2 hp3 ht3 hq' hr'
        go_wp2
        go_quiet (fail)
        go_wp2
        go_roundg q'
        case measure => exact HLT.out
        case rel => exact ⟨r', _, rfl, rfl, rfl, HI'⟩
      · have HX := Lib.hid (HEN.out q r HI.out.1 HI.out.2.1 (by
          by_cases h1 : 1000000000 ≤ r
          · exact Or.inl h1
          · rcases Nat.lt_or_ge (r * 1000000000 + x2) (q * y2) with h2 | h2
            · exact absurd ⟨by omega, h2⟩ hcont
            · exact Or.inr h2))
        have HC := stop_facts HI.out.1 HY2.out HX2.out hcont
        clear hcont
        by_cases hqv : q * V ≤ W
        · have HQV := Lib.hid hqv
          clear hqv HX HEN HHI HMR HWR HST HMO
          rcases HC with d2 | ⟨d2, p2, p3, t3, s5, s6, s7, u13, u14, u15, d3⟩
          · go_wp2
            go_quiet (fail)
            go_wp2_with (go_at_call 162; refine (HLE.out q _ (keep_drewN g w _) (HK0.out.drewN _) HI.out.1).mono ?_; rintro e w1 ⟨U1, cy, rfl, HB1, HW1, HS1, HP1⟩; obtain ⟨g1, g2, g3⟩ := HRI.out U1 q cy HW1.out.2.1 HS1.out HQV.out HI.out.2.2; subst g1; have HG := Lib.hid (And.intro g2 g3); clear g2 g3)
            go_ret
            exact ⟨U1, by rw [← HG.out.1]; rfl, HB1, HW1, Lib.hid HG.out.2, Lib.hid ((keep_drewN g w _).trans HP1.out)⟩
          · go_wp2
            go_quiet (fail)
            clear s5 s6 s7 u13 u14 u15 d2
            go_wp2_with (go_at_call 162; refine (HLE.out q _ (keep_drewN g w _) (HK0.out.drewN _) HI.out.1).mono ?_; rintro e w1 ⟨U1, cy, rfl, HB1, HW1, HS1, HP1⟩; obtain ⟨g1, g2, g3⟩ := HRI.out U1 q cy HW1.out.2.1 HS1.out HQV.out HI.out.2.2; subst g1; have HG := Lib.hid (And.intro g2 g3); clear g2 g3)
            go_ret
            exact ⟨U1, by rw [← HG.out.1]; rfl, HB1, HW1, Lib.hid HG.out.2, Lib.hid ((keep_drewN g w _).trans HP1.out)⟩
        · have HQV := Lib.hid (show W < q * V by omega)
          have h0 : 0 < q := by
            rcases Nat.eq_zero_or_pos q with e | e
            · rw [e] at hqv; omega
            · exact e
          obtain ⟨q', hq'⟩ : ∃ q', q = q' + 1 := ⟨q - 1, by omega⟩
          have s8 : (q : Int) - 1 = (q' : Int) := by omega
          have u16 : IntKind.u64.wrap (q' : Int) = q' := u64_in (by have := HI.out.1; omega)
          have HQ' := Lib.hid (show q - 1 = q' by omega)
          clear hqv h0 hq' HEN HHI HRI HST
          rcases HC with d2 | ⟨d2, p2, p3, t3, s5, s6, s7, u13, u14, u15, d3⟩
          all_goals
            go_wp2
            go_quiet (fail)
            first | clear s5 s6 s7 u13 u14 u15 d2 | clear d2
            go_wp2_with (first | (go_at_call 162; refine (HLE.out q _ (keep_drewN g w _) (HK0.out.drewN _) HI.out.1).mono ?_; rintro e w1 ⟨U1, cy, rfl, HB1, HW1, HS1, HP1⟩; have g1 := HWR.out U1 q cy HW1.out.2.1 HS1.out HQV.out HX.out; subst g1) | (go_at_call 163; refine (HMO.out U1 w1 HW1.out ((keep_drewN g w _).trans HP1.out) HB1.out).mono ?_; rintro e w2 ⟨U2, cy2, rfl, HB2, HW2, HS2, HP2⟩))
            have HG := Lib.hid (HMR.out U1 U2 q 1 cy2 HW1.out.2.1 HS1.out HQV.out HX.out HW2.out.2.1 HS2.out)
            go_ret
            exact ⟨U2, by rw [← HG.out.1, HQ'.out]; rfl, HB2, Lib.hid (HW1.out.trans HW2.out), Lib.hid HG.out.2, Lib.hid (((keep_drewN g w _).trans HP1.out).trans HP2.out)⟩
end Go.Proofs.YtdbhlkejfecffaaGreatDoor
/-
  nat: Of; slices.Clone of a number.
-/
namespace Go.Proofs.YtdbhlkejfecffaaGreatDoor
open Go.RowKit KeepPlain

set_option maxRecDepth 100000 in
set_option maxHeartbeats 1600000 in
theorem of_any (x : Nat) (hx : x < 18446744073709551616) (w : World) :
    Calls Tryz.prog 65 #[.int .u64 x] w fun e w' => ∃ r, e = .returned r ∧ Hid (NV w' r x) ∧ Hid (Below w.heap.size w w') := by
  have HX := Lib.hid hx
  clear hx
  have hlen : (nd x).length ≤ 3 := nd_len_le x 3 (by have := HX.out; omega)
  have HLEN := Lib.hid hlen
  clear hlen
  go_enter Tryz.func65, Tryz.ntmps65
  go_wp2
  go_loopg [0, 3] (nd x).length (fun gk s0 s3 wx => ∃ (m : Nat) (l : List Nat), s0 = .int .u64 m ∧ gk = (nd m).length ∧ Hid (m < 18446744073709551616 ∧ l.length ≤ 3) ∧ Hid (l ++ nd m = nd x) ∧ Hid (wx.ownsRow w.heap.size 127 1 s3 l.length (us l)) ∧ Hid (Below w.heap.size w wx))
  case atStart => exact ⟨x, [], rfl, rfl, Lib.hid ⟨HX.out, by simp⟩, Lib.hid rfl, Lib.hid (World.ownsRow_nil _ _ _ _), Lib.hid (Below.refl _ _)⟩
  case round =>
    obtain ⟨m, l, rfl, rfl, HM, HL, HO, HB⟩ := hrel
    obtain ⟨A3, c3, hv3⟩ := ownsRow_shape HO.out
    subst hv3
    by_cases h0 : m = 0
    · subst h0
      have HE := Lib.hid (show l = nd x by have := HL.out; rwa [nd_zero, List.append_nil] at this)
      clear HL
      go_wp2
      go_ret
      exact ⟨_, rfl, Lib.hid (by unfold NV; rw [← HE.out]; exact rdu_row HO.out), HB⟩
    · have d0 : (0 : Int) < (m : Int) := by omega
      have hm2 := HM.out.1
      have HN := Lib.hid (show (l ++ [m % 1000000000]) ++ nd (m / 1000000000) = nd x by rw [← HL.out, nd_pos h0]; simp)
      have HLL := Lib.hid (show (l ++ [m % 1000000000]).length ≤ 3 by
        have h1 := congrArg List.length HN.out
        have h2 := HLEN.out
        rw [List.length_append] at h1
        omega)
      have HMS := Lib.hid (show (nd m).length = (nd (m / 1000000000)).length + 1 by rw [nd_pos h0]; simp)
      have w3 : Int.tdiv (m : Int) 1000000000 = ((m / 1000000000 : Nat) : Int) := tdiv_nat m 1000000000
      have w4 : Int.tmod (m : Int) 1000000000 = ((m % 1000000000 : Nat) : Int) := tmod_nat m 1000000000
      have w5 : (m : Int) / 1000000000 = ((m / 1000000000 : Nat) : Int) := rfl
      have w6 : (m : Int) % 1000000000 = ((m % 1000000000 : Nat) : Int) := rfl
      have hr : m % 1000000000 < 1000000000 := by omega
      have HQ := Lib.hid (show m / 1000000000 < 18446744073709551616 by omega)
      have w9 : IntKind.u64.wrap ((m / 1000000000 : Nat) : Int) = ((m / 1000000000 : Nat) : Int) := u64_in HQ.out
      generalize m / 1000000000 = q at *
      generalize m % 1000000000 = r at *
      have w7 : (r : Int) % 4294967296 = r := by omega
      have w8 : IntKind.u32.wrap (r : Int) = r := u32_in (by omega)
      clear hm2 hr h0
      go_wp2_with (at_builtin; refine wpList_appU rfl _ _ rfl w.heap.size _ l.length l rfl (ownsRow_below HO.out ((Below.refl _ _).alloc (Nat.le_refl _) _)) r wr.heap.size rfl ((news_blk wr [_] _).cell 0) (by have := HM.out.2; omega) (Nat.le_trans HB.out.size (alloc_le _ _)) ?_; intro g cap w3 hown hb; have HO3 := Lib.hid hown; have HB3 := Lib.hid hb; clear hown hb)
      go_roundg (nd q).length
      case measure => rw [HMS.out]; omega
      case rel => exact ⟨q, l ++ [r], rfl, rfl, Lib.hid ⟨HQ.out, HLL.out⟩, HN, Lib.hid (by rw [List.length_append, List.length_singleton]; exact HO3.out), Lib.hid ((HB.out.alloc HB.out.size _).trans HB3.out)⟩
theorem run_append_none_of {P : Program} {w : World} {base : Nat} (t ty e : TypeId) (i : TypeInfo) (size : Nat) (ht : P.underlying t = some (.slice e)) (hi : P.info? e = some i)
    (v : Value) (n : Nat) (xs : List Value) (hown : w.ownsRow base e size v n xs) (A : Option Addr) (c : Nat) :
    (Builtin.append_ #[t, t] ty #[v, .slice A 0 c]).run P w = .ok v w := by
  rcases hown.2 with ⟨rfl, rfl⟩ | ⟨g, cap, cur, rfl, _, _, hnc, _⟩
  · cases A <;> simp [Builtin.append_, run_underlying ht, sizeOf, typeInfo, hi, Builtin.lenOf, Builtin.firstCells, loadCells, loadCellsFrom]
  · cases A <;> simp [Builtin.append_, run_underlying ht, sizeOf, typeInfo, hi, Builtin.lenOf, Builtin.firstCells, hnc, storeCells, loadCells, loadCellsFrom]
theorem own_empty (w : World) (t : TypeId) : (w.alloc (.cells #[] t)).ownsRow w.heap.size t 1 (.slice (some ⟨w.heap.size, 0, none⟩) 0 0) 0 [] :=
  ⟨rfl, .inr ⟨w.heap.size, 0, #[], rfl, Nat.le_refl _, heap_alloc_new w _, Nat.le_refl _, Nat.zero_le _, rfl, rfl⟩⟩
theorem rdv_news {w : World} {b o n c : Nat} {V : List Value} (h : RdV w (.slice (some ⟨b, o, none⟩) n c) V) (ob : Obj) : ∀ (j : Nat) u, V[j]? = some u → (w.alloc ob).cell? ((⟨b, o, none⟩ : Addr).add j) = some u := by
  intro j u hj
  obtain ⟨hjl, hju⟩ := List.getElem?_eq_some_iff.1 hj
  obtain ⟨b', o', c', hv, hc⟩ := h.get hjl
  injection hv with e1; injection e1 with e1; injection e1 with e1 e2; subst e1 e2
  rw [hju] at hc
  have hlt := World.block_lt_of_cell? w _ hc
  rw [add_plain, World.cell?_of_block (w := w) (Below.heap_alloc _ _ _ hlt)]; exact hc
set_option maxRecDepth 100000 in
set_option maxHeartbeats 1600000 in
theorem clone_any (a : Nat) (v : Value) (w : World) (h : NV w v a) (ha : (nd a).length ≤ 2000) :
    Calls Tryz.prog 114 #[v] w fun e w' => ∃ r, e = .returned r ∧ Hid (NV w' r a) ∧ Hid (Below w.heap.size w w') := by
  obtain ⟨i0, hi, hz0, hz1, hz2⟩ := partsU
  obtain ⟨A, c, rfl, h1, h2, -⟩ := RdU.open h
  by_cases h0 : a = 0
  · subst h0
    rw [nd_zero] at *
    simp only [List.length_nil]
    cases A with
    | none =>
      have heq : (binOp .eql 83 (.slice none 0 c) (.slice none 0 0)).run Tryz.prog w = .ok (.bool true) w := Lib.run_eql_slice_nil w 83 127 none 0 c 0 0 Tryz.underlying83
      go_enter Tryz.func114, Tryz.ntmps114
      go_wp2
      go_ret
      exact ⟨_, rfl, Lib.hid (NV.nil _), Lib.hid (Below.refl _ _)⟩
    | some ad =>
      have heq : (binOp .eql 83 (.slice (some ad) 0 c) (.slice none 0 0)).run Tryz.prog w = .ok (.bool false) w := Lib.run_eql_slice_nil w 83 127 (some ad) 0 c 0 0 Tryz.underlying83
      have hrun := fun ty => run_append_none_of (P := Tryz.prog) 83 ty 127 i0 1 Tryz.underlying83 hi _ 0 [] (own_empty w 127) (some ad) c
      have HB := Lib.hid (show Below w.heap.size w (w.alloc (.cells #[] 127)) from (Below.refl _ _).alloc (Nat.le_refl _) _)
      have HR := Lib.hid (show NV (w.alloc (.cells #[] 127)) (.slice (some ⟨w.heap.size, 0, none⟩) 0 0) 0 by unfold NV; rw [nd_zero]; exact RdU.nil _ 0 (Nat.zero_le _) _)
      go_enter Tryz.func114, Tryz.ntmps114
      go_wp2
      go_ret
      exact ⟨_, rfl, HR, HB⟩
  · have hl0 : 0 < (nd a).length := List.length_pos_iff.2 fun e => h0 ((nd_nil_iff a).1 e)
    have hh := h
    obtain ⟨A', c', hv, -, -, h3⟩ := h
    obtain ⟨b, o, hA, -⟩ := h3 (by rw [us_length]; exact hl0)
    have hA2 : A = some ⟨b, o, none⟩ := by injection hv with e1; rw [e1, hA]
    have HNEWS := Lib.hid (rdv_news (w := w) (b := b) (o := o) (n := (nd a).length) (c := c) (V := us (nd a)) (by rw [hA2] at hh; exact hh) (.cells #[] 127))
    subst hA2
    have HOWN := Lib.hid (own_empty w 127)
    have HN := Lib.hid (And.intro hl0 ha)
    have HIL := Lib.hid (show (us (nd a)).length = (nd a).length * 1 by rw [us_length]; omega)
    have heq : (binOp .eql 83 (.slice (some ⟨b, o, none⟩) (nd a).length c) (.slice none 0 0)).run Tryz.prog w = .ok (.bool false) w := Lib.run_eql_slice_nil w 83 127 (some ⟨b, o, none⟩) _ c 0 0 Tryz.underlying83
    clear h3 hv hA h1 h2 h0 hl0 ha hh
    obtain ⟨n, hn⟩ : ∃ n, n = (nd a).length := ⟨_, rfl⟩
    have HNN := Lib.hid hn
    rw [← hn] at heq HN HIL ⊢
    clear hn
    go_enter Tryz.func114, Tryz.ntmps114
    go_wp2_with (at_builtin; refine wpList_append_lies _ rfl _ _ 83 rfl w.heap.size 127 i0 (.int .u32 0) 1 4 Tryz.underlying83 hi hz0 hz1 hz2 rfl (by decide) _ 0 [] rfl HOWN.out ⟨b, o, none⟩ n c (us (nd a)) rfl HIL.out HNEWS.out (one_us _) HN.out.1 (by have := HN.out.2; unfold maxLen; omega) (by have := HN.out.2; omega) (alloc_le _ _) _ rfl ?_; intro g cap w3 hown3 hgrow hat hlt3; have HO := Lib.hid hown3; have HG := Lib.hid hgrow; clear hown3 hgrow hat hlt3)
    go_ret
    have ho := HO.out
    simp only [List.nil_append, Nat.zero_add] at ho ⊢
    exact ⟨_, rfl, Lib.hid (rdu_row ho), Lib.hid (((Below.refl _ _).alloc (Nat.le_refl _) _).trans (Below.ofGrown HG.out (alloc_le _ _) (ownsRow_base HOWN.out)))⟩
end Go.Proofs.YtdbhlkejfecffaaGreatDoor
