/-
  frac: Neg, Sub.
-/
import Derived.Test.YtgennilhbedmoaaGreatDoorSa12
import Derived.Test.YtgennilhbedmoaaGreatDoorSa16
/-
  frac: Neg, Sub.
-/
namespace Go.Proofs.YtgennilhbedmoaaGreatDoor
open Go.RowKit KeepPlain

theorem neg_sign (q : Rat) : decide ((-q).num < 0) = (!decide (q.num < 0) && !decide (q.num.natAbs = 0)) := by
  rw [Rat.neg_num]
  by_cases h1 : q.num < 0
  · simp [h1]; omega
  · by_cases h2 : q.num = 0
    · simp [h2]
    · have h3 : ¬ q.num.natAbs = 0 := by omega
      simp [h1, h3]; omega
set_option maxRecDepth 100000 in
set_option maxHeartbeats 1600000 in
theorem fneg_any (q : Rat) (v : Value) (w : World) (h : FV w v q) : Calls Tryz.prog 35 #[v] w fun e w' => ∃ r, e = .returned r ∧ Hid (FV w' r (-q)) ∧ Hid (Below w.heap.size w w') := by
  obtain ⟨u, d, rfl, hu, hd⟩ := h
  have HS := Lib.hid (neg_sign q)
  have HFV := Lib.hid (fun wx u d (b : Bool) (hb : decide ((-q).num < 0) = b) (hu : NV wx u q.num.natAbs) (hd : NV wx d q.den) => show FV wx (.agg #[.bool b, u, d]) (-q) from ⟨u, d, by rw [hb], by rw [Rat.neg_num, Int.natAbs_neg]; exact hu, hd⟩)
  generalize decide (q.num < 0) = ng at *
  obtain ⟨w0, hw0, hb0, hk0, hk1⟩ : ∃ w0, (w.alloc (.cells #[.bool ng, u, d] 64)).alloc (.cells #[.bool false, .slice none 0 0, .slice none 0 0] 64) = w0 ∧ Below w.heap.size w w0 ∧ Blk w0 w.heap.size [.bool ng, u, d] 64 ∧ RB w0 (w.heap.size + 1) := by
    refine ⟨_, rfl, ((Below.refl _ _).alloc (Nat.le_refl _) _).alloc (by simp only [World.size_alloc]; omega) _, (news_blk w [.bool ng, u, d] 64).alloc _, ?_⟩
    have := news_blk (w.alloc (.cells #[.bool ng, u, d] 64)) [.bool false, .slice none 0 0, .slice none 0 0] 64
    simp only [World.size_alloc] at this
    exact this
  have HB0 := Lib.hid hb0
  have HW1 := Lib.hid (fun (b : Bool) => show Below w0.heap.size w0 w0 ∧ Below w.heap.size w (w0.setCell ⟨w.heap.size, 0, none⟩ (.bool b)) ∧ Blk (w0.setCell ⟨w.heap.size, 0, none⟩ (.bool b)) w.heap.size [.bool b, u, d] 64 ∧ RB (w0.setCell ⟨w.heap.size, 0, none⟩ (.bool b)) (w.heap.size + 1) from ⟨Below.refl _ _, hb0.setCell (p := ⟨w.heap.size, 0, none⟩) (Nat.le_refl _) _, hk0.set 0 _, Blk.far hk1 (by simp) _⟩)
  have HU := Lib.hid hu
  have HD := Lib.hid hd
  have HZ := Lib.hid (zero_any q.num.natAbs u w0 (hu.below hb0))
  obtain ⟨A1, c1, rfl⟩ := hu.shape
  obtain ⟨A2, c2, rfl⟩ := hd.shape
  have q0 := hk0.cell
  have r0 := hk0.frozen
  generalize decide (q.num.natAbs = 0) = z at *
  generalize (nd q.num.natAbs).length = l1 at *
  generalize (nd q.den).length = l2 at *
  clear hb0 hk0 hk1 hu hd
  cases ng
  · go_enter Tryz.func35, Tryz.ntmps35
    go_upto_region 2 with (go_at_call 47; refine HZ.out.mono ?_; rintro e wz ⟨rfl, hz⟩; subst wz)
    obtain ⟨w1, hw1⟩ : ∃ w1, w1 = w0.setCell ⟨w.heap.size, 0, none⟩ (.bool !z) := ⟨_, rfl⟩
    have HX := Lib.hid (HW1.out (!z))
    rw [← hw1] at HX ⊢
    have q1 := HX.out.2.2.1.cell
    have q2 := Blk.cell HX.out.2.2.2
    have r2 := Blk.frozen HX.out.2.2.2
    clear hw0 q0 r0 hw1
    go_wp2
    refine bodyPost_ret (results_frac rfl _ _ (w.heap.size + 1) _ _ _ rfl (blk3 w1 _ _ _ _ _ _ _ HX.out.2.2.2)) rfl ?_
    exact ⟨_, rfl, Lib.hid (HFV.out _ _ _ _ (by rw [HS.out]; simp) (nvF (HU.out.below HX.out.2.1) HX.out.2.2.2 _ _ _) (nvF (HD.out.below HX.out.2.1) HX.out.2.2.2 _ _ _)), Lib.hid (HX.out.2.1.trans ((belowF _ _ _ _ _).mono (by omega)))⟩
  · go_enter Tryz.func35, Tryz.ntmps35
    go_upto_region 2 with fail
    obtain ⟨w1, hw1⟩ : ∃ w1, w1 = w0.setCell ⟨w.heap.size, 0, none⟩ (.bool false) := ⟨_, rfl⟩
    have HX := Lib.hid (HW1.out false)
    rw [← hw1] at HX ⊢
    have q1 := HX.out.2.2.1.cell
    have q2 := Blk.cell HX.out.2.2.2
    have r2 := Blk.frozen HX.out.2.2.2
    clear hw0 q0 r0 hw1
    go_wp2
    refine bodyPost_ret (results_frac rfl _ _ (w.heap.size + 1) _ _ _ rfl (blk3 w1 _ _ _ _ _ _ _ HX.out.2.2.2)) rfl ?_
    exact ⟨_, rfl, Lib.hid (HFV.out _ _ _ _ (by rw [HS.out]; simp) (nvF (HU.out.below HX.out.2.1) HX.out.2.2.2 _ _ _) (nvF (HD.out.below HX.out.2.1) HX.out.2.2.2 _ _ _)), Lib.hid (HX.out.2.1.trans ((belowF _ _ _ _ _).mono (by omega)))⟩
set_option maxRecDepth 100000 in
set_option maxHeartbeats 3200000 in
theorem fsub_any (qa qb : Rat) (a b : Value) (w : World) (h : FV w a qa) (k : FV w b qb) (hsa : Sz qa 200) (hsb : Sz qb 200) :
    Calls Tryz.prog 19 #[a, b] w fun e w' => ∃ v, e = .returned v ∧ Hid (FV w' v (qa - qb)) ∧ Hid (Below w.heap.size w w') := by
  have HA := Lib.hid h
  have HN := Lib.hid (fun v wx (h : FV wx v qb) => fneg_any qb v wx h)
  have HP := Lib.hid (fun u v wx (hu : FV wx u qa) (hv : FV wx v (-qb)) => fadd_any qa (-qb) u v wx hu hv hsa (sz_neg hsb))
  rw [← Rat.sub_eq_add_neg] at HP
  have HB := Lib.hid k
  obtain ⟨ua, da, rfl, hua, hda⟩ := h
  obtain ⟨ub, db, rfl, hub, hdb⟩ := k
  generalize qa - qb = qc at *
  generalize decide (qa.num < 0) = na at *
  generalize decide (qb.num < 0) = nb at *
  obtain ⟨w0, hw0, hb0, hk0, hk1, hk2⟩ : ∃ w0, ((w.alloc (.cells #[.bool na, ua, da] 64)).alloc (.cells #[.bool nb, ub, db] 64)).alloc (.cells #[.bool false, .slice none 0 0, .slice none 0 0] 64) = w0 ∧ Below w.heap.size w w0 ∧ Blk w0 w.heap.size [.bool na, ua, da] 64 ∧ Blk w0 (w.heap.size + 1) [.bool nb, ub, db] 64 ∧ RB w0 (w.heap.size + 1 + 1) := by
    refine ⟨_, rfl, (((Below.refl _ _).alloc (Nat.le_refl _) _).alloc (by simp only [World.size_alloc]; omega) _).alloc (by simp only [World.size_alloc]; omega) _, ((news_blk w [.bool na, ua, da] 64).alloc _).alloc _, ?_, ?_⟩
    · have := (news_blk (w.alloc (.cells #[.bool na, ua, da] 64)) [.bool nb, ub, db] 64).alloc (.cells #[.bool false, .slice none 0 0, .slice none 0 0] 64)
      simp only [World.size_alloc] at this
      exact this
    · have := news_blk ((w.alloc (.cells #[.bool na, ua, da] 64)).alloc (.cells #[.bool nb, ub, db] 64)) [.bool false, .slice none 0 0, .slice none 0 0] 64
      simp only [World.size_alloc] at this
      exact this
  have HB0 := Lib.hid hb0
  have HK2 := Lib.hid hk2
  have HUA := Lib.hid (HA.out.below hb0)
  have HUB := Lib.hid (HB.out.below hb0)
  have HS := Lib.hid (fun (wx : World) (hb : Below w0.heap.size w0 wx) => show (∀ o, wx.cell? ⟨w.heap.size, o, none⟩ = ([Value.bool na, ua, da] : List Value)[o]?) ∧ (∀ o, wx.cell? ⟨w.heap.size + 1, o, none⟩ = ([Value.bool nb, ub, db] : List Value)[o]?) from ⟨(hk0.below hb).cell, (hk1.below hb).cell⟩)
  have HT := Lib.hid (fun (wx : World) (hb : Below w0.heap.size w0 wx) (x y z : Value) => show (∀ o, (setF wx (w.heap.size + 1 + 1) x y z).cell? ⟨w.heap.size, o, none⟩ = ([Value.bool na, ua, da] : List Value)[o]?) ∧ (∀ o, (setF wx (w.heap.size + 1 + 1) x y z).cell? ⟨w.heap.size + 1, o, none⟩ = ([Value.bool nb, ub, db] : List Value)[o]?) from ⟨((((hk0.below hb).far (by simp; omega) _).far (by simp; omega) _).far (by simp; omega) _).cell, ((((hk1.below hb).far (by simp) _).far (by simp) _).far (by simp) _).cell⟩)
  obtain ⟨A1, c1, rfl⟩ := hua.shape
  obtain ⟨A2, c2, rfl⟩ := hda.shape
  obtain ⟨A3, c3, rfl⟩ := hub.shape
  obtain ⟨A4, c4, rfl⟩ := hdb.shape
  clear hb0 hk0 hk1 hk2 hua hda hub hdb hsa hsb HA HB
  generalize (nd qa.num.natAbs).length = l1 at *
  generalize (nd qa.den).length = l2 at *
  generalize (nd qb.num.natAbs).length = l3 at *
  generalize (nd qb.den).length = l4 at *
  go_enter Tryz.func19, Tryz.ntmps19
  go_upto_region 1 with fail
  clear hw0
  go_region_held3 (fun wy : World => (∀ o, wy.cell? ⟨w.heap.size, o, none⟩ = ([Value.bool na, .slice A1 l1 c1, .slice A2 l2 c2] : List Value)[o]?) ∧ (∀ o, wy.cell? ⟨w.heap.size + 1, o, none⟩ = ([Value.bool nb, .slice A3 l3 c3, .slice A4 l4 c4] : List Value)[o]?)) (first | exact HT.out _ HB3.out _ _ _ | exact HS.out _ HB3.out | exact HS.out _ HB1.out | exact HS.out _ (Below.refl _ _).drew | exact HS.out _ (Below.refl _ _)) (first | (go_at_call 17; have _g := HB1; clear _g; refine (HP.out _ _ w1 (HUA.out.below HB1.out) HN1.out).mono ?_; rintro e w3 ⟨r3, rfl, HF3, HB3'⟩; obtain ⟨u3, d3, rfl, hs1, hs2⟩ := HF3.out; obtain ⟨A7, c7, rfl⟩ := hs1.shape; obtain ⟨A8, c8, rfl⟩ := hs2.shape; have HB3 := Lib.hid (HB1.out.trans (HB3'.out.mono HB1.out.size)); have q3 := Blk.cell (HK2.out.below HB3.out); have r3 := Blk.frozen (HK2.out.below HB3.out); dsimp only) | (go_at_call 35; refine (HN.out _ w0.drew (HUB.out.below (Below.refl _ _).drew)).mono ?_; rintro e w1 ⟨r1, rfl, HN1, HB1'⟩; have HB1 : Hid (Below w0.heap.size w0 w1) := Lib.hid (below_undrew HB1'.out); dsimp only))
  go_wp2
  have HK3 := HK2.out.below HB3.out
  refine bodyPost_ret (results_frac rfl _ _ (w.heap.size + 1 + 1) _ _ _ rfl (blk3 w3 _ _ _ _ _ _ _ HK3)) rfl ?_
  exact ⟨_, rfl, Lib.hid ⟨_, _, rfl, nvF hs1 HK3 _ _ _, nvF hs2 HK3 _ _ _⟩, Lib.hid ((HB0.out.trans (HB3.out.mono HB0.out.size)).trans ((belowF _ _ _ _ _).mono (by omega)))⟩
end Go.Proofs.YtgennilhbedmoaaGreatDoor
