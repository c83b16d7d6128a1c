/-
  frac: Add.
-/
import Derived.Test.YtgennilhbedmoaaGreatDoorSa11
/-
  frac: Add.
-/
namespace Go.Proofs.YtgennilhbedmoaaGreatDoor
open Go.RowKit KeepPlain

theorem nd_add_len {x y i : Nat} (hx : (nd x).length ≤ i) (hy : (nd y).length ≤ i) : (nd (x + y)).length ≤ i + 1 := by
  refine nd_len_le _ _ ?_
  have h1 := nd_lt_pow x
  have h2 := nd_lt_pow y
  have h3 : 1000000000 ^ (nd x).length ≤ 1000000000 ^ i := Nat.pow_le_pow_right (by decide) hx
  have h4 : 1000000000 ^ (nd y).length ≤ 1000000000 ^ i := Nat.pow_le_pow_right (by decide) hy
  rw [pow_succ']
  generalize 1000000000 ^ i = p at *
  omega
set_option maxRecDepth 100000 in
set_option maxHeartbeats 6400000 in
theorem fadd_any (qa qb : Rat) (a b : Value) (w : World) (h : FV w a qa) (k : FV w b qb) (hsa : Sz qa 200) (hsb : Sz qb 200) :
    Calls Tryz.prog 17 #[a, b] w fun e w' => ∃ v, e = .returned v ∧ Hid (FV w' v (qa + qb)) ∧ Hid (Below w.heap.size w w') := by
  obtain ⟨ua, da, rfl, hua, hda⟩ := h
  obtain ⟨ub, db, rfl, hub, hdb⟩ := k
  have hq := rat_add qa qb
  have hdp : qa.den * qb.den ≠ 0 := Nat.mul_ne_zero qa.den_nz qb.den_nz
  obtain ⟨h1, h2⟩ := hsa
  obtain ⟨h3, h4⟩ := hsb
  generalize qa + qb = qq at *
  generalize decide (qa.num < 0) = na at *
  generalize decide (qb.num < 0) = nb at *
  generalize qa.num.natAbs = xa at *
  generalize qb.num.natAbs = xb at *
  generalize qa.den = ya at *
  generalize qb.den = yb at *
  have hX := nd_mul_len h1 h4
  have hY := nd_mul_len h3 h2
  have hD := nd_mul_len h2 h4
  have HM1 := Lib.hid (fun u v wx (hu : NV wx u xa) (hv : NV wx v yb) => mul_any xa yb u v wx hu hv (by omega) (by omega))
  have HM2 := Lib.hid (fun u v wx (hu : NV wx u xb) (hv : NV wx v ya) => mul_any xb ya u v wx hu hv (by omega) (by omega))
  have HM3 := Lib.hid (fun u v wx (hu : NV wx u ya) (hv : NV wx v yb) => mul_any ya yb u v wx hu hv (by omega) (by omega))
  have HX := Lib.hid (show ya = 1 → yb = 1 → xa * yb = xa ∧ xb * ya = xb ∧ ya * yb = ya by rintro e1 e2; rw [e1, e2]; omega)
  obtain ⟨X, hXe⟩ : ∃ X, X = xa * yb := ⟨_, rfl⟩
  obtain ⟨Y, hYe⟩ : ∃ Y, Y = xb * ya := ⟨_, rfl⟩
  obtain ⟨D, hDe⟩ : ∃ D, D = ya * yb := ⟨_, rfl⟩
  rw [← hXe] at hq hX HM1 HX
  rw [← hYe] at hq hY HM2 HX
  rw [← hDe] at hq hD HM3 HX hdp
  have HAD := Lib.hid (fun u v wx (hu : NV wx u X) (hv : NV wx v Y) => add_any X Y u v wx hu hv (by omega) (by omega))
  have HCM := Lib.hid (fun u v wx (hu : NV wx u X) (hv : NV wx v Y) => cmp_any X Y u v wx hu hv (by omega) (by omega))
  have HS1 := Lib.hid (fun u v wx (hu : NV wx u X) (hv : NV wx v Y) (hle : Y ≤ X) => sub_any X Y u v wx hu hv (by omega) hle)
  have HS2 := Lib.hid (fun u v wx (hu : NV wx u Y) (hv : NV wx v X) (hle : X ≤ Y) => sub_any Y X u v wx hu hv (by omega) hle)
  have HRD := Lib.hid (fun neg N u d wx (hN : (nd N).length ≤ 500) (hu : NV wx u N) (hd : NV wx d D) => reduced_any neg N D hdp u d wx hu hd hN (by omega))
  have HLS := Lib.hid (show (nd (X + Y)).length ≤ 500 ∧ (nd (X - Y)).length ≤ 500 ∧ (nd (Y - X)).length ≤ 500 from ⟨Nat.le_trans (nd_add_len hX hY) (by omega), Nat.le_trans (nd_len_mono (Nat.sub_le X Y)) (by omega), Nat.le_trans (nd_len_mono (Nat.sub_le Y X)) (by omega)⟩)
  have HQ := Lib.hid hq
  clear hX hY hD hXe hYe hDe h1 h2 h3 h4 hq hdp
  obtain ⟨w0, hw0, hb0, hk0, hk1, hk2⟩ : ∃ w0, ((w.alloc (.cells #[.bool na, ua, da] 64)).alloc (.cells #[.bool nb, ub, db] 64)).alloc (.cells #[.bool false, .slice none 0 0, .slice none 0 0] 64) = w0 ∧ Below w.heap.size w w0 ∧ Blk w0 w.heap.size [.bool na, ua, da] 64 ∧ Blk w0 (w.heap.size + 1) [.bool nb, ub, db] 64 ∧ RB w0 (w.heap.size + 1 + 1) := by
    refine ⟨_, rfl, (((Below.refl _ _).alloc (Nat.le_refl _) _).alloc (by simp only [World.size_alloc]; omega) _).alloc (by simp only [World.size_alloc]; omega) _, ((news_blk w [.bool na, ua, da] 64).alloc _).alloc _, ?_, ?_⟩
    · have := (news_blk (w.alloc (.cells #[.bool na, ua, da] 64)) [.bool nb, ub, db] 64).alloc (.cells #[.bool false, .slice none 0 0, .slice none 0 0] 64)
      simp only [World.size_alloc] at this
      exact this
    · have := news_blk ((w.alloc (.cells #[.bool na, ua, da] 64)).alloc (.cells #[.bool nb, ub, db] 64)) [.bool false, .slice none 0 0, .slice none 0 0] 64
      simp only [World.size_alloc] at this
      exact this
  have HB0 := Lib.hid hb0
  have HK2 := Lib.hid hk2
  have HUA := Lib.hid (hua.below hb0)
  have HDA := Lib.hid (hda.below hb0)
  have HUB := Lib.hid (hub.below hb0)
  have HDB := Lib.hid (hdb.below hb0)
  have HS := Lib.hid (fun (wx : World) (hb : Below w0.heap.size w0 wx) => show (∀ o, wx.cell? ⟨w.heap.size, o, none⟩ = ([Value.bool na, ua, da] : List Value)[o]?) ∧ (∀ o, wx.cell? ⟨w.heap.size + 1, o, none⟩ = ([Value.bool nb, ub, db] : List Value)[o]?) from ⟨(hk0.below hb).cell, (hk1.below hb).cell⟩)
  have HT := Lib.hid (fun (wx : World) (hb : Below w0.heap.size w0 wx) (x y z : Value) => show (∀ o, (setF wx (w.heap.size + 1 + 1) x y z).cell? ⟨w.heap.size, o, none⟩ = ([Value.bool na, ua, da] : List Value)[o]?) ∧ (∀ o, (setF wx (w.heap.size + 1 + 1) x y z).cell? ⟨w.heap.size + 1, o, none⟩ = ([Value.bool nb, ub, db] : List Value)[o]?) from ⟨((((hk0.below hb).far (by simp; omega) _).far (by simp; omega) _).far (by simp; omega) _).cell, ((((hk1.below hb).far (by simp) _).far (by simp) _).far (by simp) _).cell⟩)
  have s0 := hk0.cell
  have s1 := hk1.cell
  clear hb0 hk0 hk1 hk2 hua hda hub hdb
  obtain ⟨A1, c1, rfl⟩ := HUA.out.shape
  obtain ⟨A2, c2, rfl⟩ := HDA.out.shape
  obtain ⟨A3, c3, rfl⟩ := HUB.out.shape
  obtain ⟨A4, c4, rfl⟩ := HDB.out.shape
  generalize (nd xa).length = l1 at *
  generalize (nd ya).length = l2 at *
  generalize (nd xb).length = l3 at *
  generalize (nd yb).length = l4 at *
  have HO1 := Lib.hid (fun wx (hb : Below w0.heap.size w0 wx) => one_any ya _ wx (HDA.out.below hb))
  have HO2 := Lib.hid (fun wx (hb : Below w0.heap.size w0 wx) => one_any yb _ wx (HDB.out.below hb))
  go_enter Tryz.func17, Tryz.ntmps17
  go_upto_region 1 with fail
  clear hw0
  go_quiet (fail)
  generalize hwa : w0.drewN _ = wa
  have HBA := Lib.hid (show Below w0.heap.size w0 wa by rw [← hwa]; exact below_drewN (Below.refl _ _) _)
  obtain ⟨s0a, s1a⟩ := HS.out wa HBA.out
  clear hwa s0 s1
  go_upto_region 3 with fail
  go_cut [23] (fun s23 wx => s23 = .bool (!(decide (ya = 1) && decide (yb = 1))) ∧ wx = wa)
  case first =>
    by_cases e1 : ya = 1
    · simp only [decide_eq_true e1] at HO1
      by_cases e2 : yb = 1
      · simp only [decide_eq_true e2] at HO2
        have E := Lib.hid (show True ∧ (!(decide (ya = 1) && decide (yb = 1))) = false by simp [e1, e2])
        clear e1 e2
        go_wp2_with (first | (go_at_call 29; have _g := HG1; clear _g; refine (HO2.out _ HBA.out).mono ?_; rintro e wz ⟨rfl, hz⟩; subst wz) | (go_at_call 29; refine (HO1.out _ HBA.out).mono ?_; rintro e wz ⟨rfl, hz⟩; subst wz; have HG1 := Lib.hid True.intro))
        go_meet
        exact ⟨by rw [E.out.2], rfl⟩
      · simp only [decide_eq_false e2] at HO2
        have E := Lib.hid (show True ∧ (!(decide (ya = 1) && decide (yb = 1))) = true by simp [e2])
        clear e1 e2
        go_wp2_with (first | (go_at_call 29; have _g := HG1; clear _g; refine (HO2.out _ HBA.out).mono ?_; rintro e wz ⟨rfl, hz⟩; subst wz) | (go_at_call 29; refine (HO1.out _ HBA.out).mono ?_; rintro e wz ⟨rfl, hz⟩; subst wz; have HG1 := Lib.hid True.intro))
        go_meet
        exact ⟨by rw [E.out.2], rfl⟩
    · simp only [decide_eq_false e1] at HO1
      have E := Lib.hid (show True ∧ (!(decide (ya = 1) && decide (yb = 1))) = true by simp [e1])
      clear e1
      go_wp2_with (first | (go_at_call 29; have _g := HG1; clear _g; refine (HO2.out _ HBA.out).mono ?_; rintro e wz ⟨rfl, hz⟩; subst wz) | (go_at_call 29; refine (HO1.out _ HBA.out).mono ?_; rintro e wz ⟨rfl, hz⟩; subst wz; have HG1 := Lib.hid True.intro))
      go_meet
      exact ⟨by rw [E.out.2], rfl⟩
  case rest =>
    obtain ⟨rfl, hwc⟩ := hcut
    subst hwc
    clear s0a s1a HO1 HO2
    go_upto_if 23 with fail
    go_cut [5, 6, 7] (fun s5 s6 s7 wx => Hid (NV wx s5 X) ∧ Hid (NV wx s6 Y) ∧ Hid (NV wx s7 D) ∧ Hid (Below w0.heap.size w0 wx))
    case first =>
      by_cases e : ya = 1 ∧ yb = 1
      · simp only [decide_eq_true e.1, decide_eq_true e.2, Bool.and_self, Bool.not_true]
        obtain ⟨hx1, hx2, hx3⟩ := HX.out e.1 e.2
        have HXX := Lib.hid (And.intro hx1 (And.intro hx2 hx3))
        clear e hx1 hx2 hx3
        go_wp2
        go_meet
        exact ⟨Lib.hid (by rw [HXX.out.1]; exact HUA.out.below HBA.out), Lib.hid (by rw [HXX.out.2.1]; exact HUB.out.below HBA.out), Lib.hid (by rw [HXX.out.2.2]; exact HDA.out.below HBA.out), HBA⟩
      · have hbt : (!(decide (ya = 1) && decide (yb = 1))) = true := by
          by_cases e1 : ya = 1
          · by_cases e2 : yb = 1
            · exact absurd ⟨e1, e2⟩ e
            · simp [e2]
          · simp [e1]
        rw [hbt]
        clear e hbt
        go_upto_region 4 with fail
        go_region_held3 (fun wy : World => (∀ o, wy.cell? ⟨w.heap.size, o, none⟩ = ([Value.bool na, .slice A1 l1 c1, .slice A2 l2 c2] : List Value)[o]?) ∧ (∀ o, wy.cell? ⟨w.heap.size + 1, o, none⟩ = ([Value.bool nb, .slice A3 l3 c3, .slice A4 l4 c4] : List Value)[o]?)) (first | exact HS.out _ HB3.out | exact HS.out _ HB2.out | exact HS.out _ HB1.out | exact HS.out _ HBA.out.drew | exact HS.out _ HBA.out) (first | (go_at_call 30; have _g := HB2; clear _g; refine (HM3.out _ _ w2 (HDA.out.below HB2.out) (HDB.out.below HB2.out)).mono ?_; rintro e w3 ⟨r3, rfl, HN3, HB3'⟩; have HB3 := Lib.hid (HB2.out.trans (HB3'.out.mono HB2.out.size)); have HN1 := Lib.hid (HN1'.out.below HB3'.out); have HN2 := Lib.hid (HN2'.out.below HB3'.out); dsimp only) | (go_at_call 30; have _g := HB1; clear _g; refine (HM2.out _ _ w1 (HUB.out.below HB1.out) (HDA.out.below HB1.out)).mono ?_; rintro e w2 ⟨r2, rfl, HN2', HB2'⟩; have HB2 := Lib.hid (HB1.out.trans (HB2'.out.mono HB1.out.size)); have HN1' := Lib.hid (HN1''.out.below HB2'.out); dsimp only) | (go_at_call 30; refine (HM1.out _ _ _ (HUA.out.below HBA.out.drew) (HDB.out.below HBA.out.drew)).mono ?_; rintro e w1 ⟨r1, rfl, HN1'', HB1'⟩; have HB1 : Hid (Below w0.heap.size w0 w1) := Lib.hid (HBA.out.trans ((below_undrew HB1'.out).mono HBA.out.size)); dsimp only))
        go_wp2
        go_meet
        exact ⟨HN1, HN2, HN3, HB3⟩
    case rest =>
      obtain ⟨HX5, HY6, HD7, HBC⟩ := hcut
      obtain ⟨s0, s1⟩ := HS.out wc HBC.out
      clear HM1 HM2 HM3 HX HUA HUB HDA HDB HBA
      by_cases e : na = nb
      · have HQQ := Lib.hid (show qq = mkRat (sg na (X + Y)) D by rw [HQ.out, ← e, sg_add_same])
        have HSS := Lib.hid e.symm
        have t1 : (na == nb) = true := by simp [e]
        clear e
        go_upto_region 6 with fail
        clear s0 s1
        go_region_held3 (fun wy : World => (∀ o, wy.cell? ⟨w.heap.size, o, none⟩ = ([Value.bool na, .slice A1 l1 c1, .slice A2 l2 c2] : List Value)[o]?) ∧ (∀ o, wy.cell? ⟨w.heap.size + 1, o, none⟩ = ([Value.bool nb, .slice A3 l3 c3, .slice A4 l4 c4] : List Value)[o]?)) (first | exact HT.out _ HB5.out _ _ _ | exact HS.out _ HB5.out | exact HS.out _ HB4.out | exact HS.out _ HBC.out.drew | exact HS.out _ HBC.out) (first | (go_at_call 31; refine (HRD.out na (X + Y) _ _ w4 HLS.out.1 HN4.out (HD7.out.below HB4x.out)).mono ?_; rintro e w5 ⟨r5, rfl, HF5, HB5'⟩; obtain ⟨z5, d5, rfl, hs1, hs2⟩ := HF5.out; obtain ⟨A7, c7, rfl⟩ := hs1.shape; obtain ⟨A8, c8, rfl⟩ := hs2.shape; have HB5 := Lib.hid (HB4.out.trans (HB5'.out.mono HB4.out.size)); have q5 := Blk.cell (HK2.out.below HB5.out); have r5 := Blk.frozen (HK2.out.below HB5.out); dsimp only) | (go_at_call 32; refine (HAD.out _ _ wc.drew (HX5.out.below (Below.refl _ _).drew) (HY6.out.below (Below.refl _ _).drew)).mono ?_; rintro e w4 ⟨r4, rfl, HN4, HB4''⟩; have HB4x : Hid (Below wc.heap.size wc w4) := Lib.hid (below_undrew HB4''.out); have HB4 := Lib.hid (HBC.out.trans (HB4x.out.mono HBC.out.size)); dsimp only))
        go_wp2
        have HK5 := HK2.out.below HB5.out
        refine bodyPost_ret (results_frac rfl _ _ (w.heap.size + 1 + 1) _ _ _ rfl (blk3 w5 _ _ _ _ _ _ _ HK5)) rfl ?_
        exact ⟨_, rfl, Lib.hid (by rw [HQQ.out]; exact ⟨_, _, rfl, nvF hs1 HK5 _ _ _, nvF hs2 HK5 _ _ _⟩), Lib.hid ((HB0.out.trans (HB5.out.mono HB0.out.size)).trans ((belowF _ _ _ _ _).mono (by omega)))⟩
      · have t1 : (na == nb) = false := by simp [e]
        have HNB := Lib.hid (show nb = !na by revert e; cases na <;> cases nb <;> simp)
        clear e
        by_cases hle : Y ≤ X
        · have HZ := Lib.hid (show 0 ≤ cmpZ (X : Int) (Y : Int) by unfold cmpZ; rw [if_neg (by omega)]; split <;> omega)
          have HQQ := Lib.hid (show qq = mkRat (sg na (X - Y)) D by rw [HQ.out, HNB.out, ← sg_add_ge na hle])
          obtain ⟨z, hz⟩ : ∃ z, z = cmpZ (X : Int) (Y : Int) := ⟨_, rfl⟩
          have HCN := Lib.hid (HCM.out u5 u6 wc HX5.out HY6.out)
          rw [← hz] at HCN HZ
          have hz0 : 0 ≤ z := HZ.out
          have HLE := Lib.hid hle
          clear hz hle
          go_upto_region 8 with (go_at_call 33; refine HCN.out.mono ?_; rintro e w1 ⟨rfl, m, rfl⟩)
          clear s0 s1
          generalize hwd : wc.drewN m = wd
          have HBD' := Lib.hid (show Below wc.heap.size wc wd by rw [← hwd]; exact below_drawn wc m)
          have HBD := Lib.hid (HBC.out.trans (HBD'.out.mono HBC.out.size))
          have HX5 := Lib.hid (HX5.out.below HBD'.out)
          have HY6 := Lib.hid (HY6.out.below HBD'.out)
          have HD7 := Lib.hid (HD7.out.below HBD'.out)
          clear hwd
          go_region_held3 (fun wy : World => (∀ o, wy.cell? ⟨w.heap.size, o, none⟩ = ([Value.bool na, .slice A1 l1 c1, .slice A2 l2 c2] : List Value)[o]?) ∧ (∀ o, wy.cell? ⟨w.heap.size + 1, o, none⟩ = ([Value.bool nb, .slice A3 l3 c3, .slice A4 l4 c4] : List Value)[o]?)) (first | exact HT.out _ HB5.out _ _ _ | exact HS.out _ HB5.out | exact HS.out _ HB4.out | exact HS.out _ HBD.out.drew | exact HS.out _ HBD.out) (first | (go_at_call 31; refine (HRD.out na (X - Y) _ _ w4 HLS.out.2.1 HN4.out (HD7.out.below HB4x.out)).mono ?_; rintro e w5 ⟨r5, rfl, HF5, HB5'⟩; obtain ⟨z5, d5, rfl, hs1, hs2⟩ := HF5.out; obtain ⟨A7, c7, rfl⟩ := hs1.shape; obtain ⟨A8, c8, rfl⟩ := hs2.shape; have HB5 := Lib.hid (HB4.out.trans (HB5'.out.mono HB4.out.size)); have q5 := Blk.cell (HK2.out.below HB5.out); have r5 := Blk.frozen (HK2.out.below HB5.out); dsimp only) | (go_at_call 34; refine (HS1.out _ _ wd.drew (HX5.out.below (Below.refl _ _).drew) (HY6.out.below (Below.refl _ _).drew) HLE.out).mono ?_; rintro e w4 ⟨r4, rfl, HN4, HB4''⟩; have HB4x : Hid (Below wd.heap.size wd w4) := Lib.hid (below_undrew HB4''.out); have HB4 := Lib.hid (HBD.out.trans (HB4x.out.mono HBD.out.size)); dsimp only))
          go_wp2
          have HK5 := HK2.out.below HB5.out
          refine bodyPost_ret (results_frac rfl _ _ (w.heap.size + 1 + 1) _ _ _ rfl (blk3 w5 _ _ _ _ _ _ _ HK5)) rfl ?_
          exact ⟨_, rfl, Lib.hid (by rw [HQQ.out]; exact ⟨_, _, rfl, nvF hs1 HK5 _ _ _, nvF hs2 HK5 _ _ _⟩), Lib.hid ((HB0.out.trans (HB5.out.mono HB0.out.size)).trans ((belowF _ _ _ _ _).mono (by omega)))⟩
        · have HZ := Lib.hid (show cmpZ (X : Int) (Y : Int) = -1 by unfold cmpZ; rw [if_pos (by omega)])
          have HQQ := Lib.hid (show qq = mkRat (sg nb (Y - X)) D by
            rw [HQ.out, sg_add_ge nb (show X ≤ Y by omega), show (!nb) = na by rw [HNB.out]; simp, Int.add_comm])
          have HCN := Lib.hid (HCM.out u5 u6 wc HX5.out HY6.out)
          rw [HZ.out] at HCN
          have HLE := Lib.hid (show X ≤ Y by omega)
          clear hle
          go_upto_region 9 with (go_at_call 33; refine HCN.out.mono ?_; rintro e w1 ⟨rfl, m, rfl⟩)
          clear s0 s1
          generalize hwd : wc.drewN m = wd
          have HBD' := Lib.hid (show Below wc.heap.size wc wd by rw [← hwd]; exact below_drawn wc m)
          have HBD := Lib.hid (HBC.out.trans (HBD'.out.mono HBC.out.size))
          have HX5 := Lib.hid (HX5.out.below HBD'.out)
          have HY6 := Lib.hid (HY6.out.below HBD'.out)
          have HD7 := Lib.hid (HD7.out.below HBD'.out)
          clear hwd
          go_region_held3 (fun wy : World => (∀ o, wy.cell? ⟨w.heap.size, o, none⟩ = ([Value.bool na, .slice A1 l1 c1, .slice A2 l2 c2] : List Value)[o]?) ∧ (∀ o, wy.cell? ⟨w.heap.size + 1, o, none⟩ = ([Value.bool nb, .slice A3 l3 c3, .slice A4 l4 c4] : List Value)[o]?)) (first | exact HT.out _ HB5.out _ _ _ | exact HS.out _ HB5.out | exact HS.out _ HB4.out | exact HS.out _ HBD.out.drew | exact HS.out _ HBD.out) (first | (go_at_call 31; refine (HRD.out nb (Y - X) _ _ w4 HLS.out.2.2 HN4.out (HD7.out.below HB4x.out)).mono ?_; rintro e w5 ⟨r5, rfl, HF5, HB5'⟩; obtain ⟨z5, d5, rfl, hs1, hs2⟩ := HF5.out; obtain ⟨A7, c7, rfl⟩ := hs1.shape; obtain ⟨A8, c8, rfl⟩ := hs2.shape; have HB5 := Lib.hid (HB4.out.trans (HB5'.out.mono HB4.out.size)); have q5 := Blk.cell (HK2.out.below HB5.out); have r5 := Blk.frozen (HK2.out.below HB5.out); dsimp only) | (go_at_call 34; refine (HS2.out _ _ wd.drew (HY6.out.below (Below.refl _ _).drew) (HX5.out.below (Below.refl _ _).drew) HLE.out).mono ?_; rintro e w4 ⟨r4, rfl, HN4, HB4''⟩; have HB4x : Hid (Below wd.heap.size wd w4) := Lib.hid (below_undrew HB4''.out); have HB4 := Lib.hid (HBD.out.trans (HB4x.out.mono HBD.out.size)); dsimp only))
          go_wp2
          have HK5 := HK2.out.below HB5.out
          refine bodyPost_ret (results_frac rfl _ _ (w.heap.size + 1 + 1) _ _ _ rfl (blk3 w5 _ _ _ _ _ _ _ HK5)) rfl ?_
          exact ⟨_, rfl, Lib.hid (by rw [HQQ.out]; exact ⟨_, _, rfl, nvF hs1 HK5 _ _ _, nvF hs2 HK5 _ _ _⟩), Lib.hid ((HB0.out.trans (HB5.out.mono HB0.out.size)).trans ((belowF _ _ _ _ _).mono (by omega)))⟩
end Go.Proofs.YtgennilhbedmoaaGreatDoor
