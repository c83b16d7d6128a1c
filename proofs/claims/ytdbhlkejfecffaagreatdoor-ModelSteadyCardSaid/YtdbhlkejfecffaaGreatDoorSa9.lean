/-
  The stream: Model.
-/
import Derived.Test.YtdbhlkejfecffaaGreatDoorSa8
/-
  The stream: Model.
-/
namespace Go.Proofs.YtdbhlkejfecffaaGreatDoor
open Go.RowKit

set_option maxRecDepth 100000 in
set_option maxHeartbeats 6400000 in
theorem model_st (xb : Nat) (V : Value) (L : List Int) (w : World) (h : St w xb V L 0) :
    Calls Tryz.prog 4 #[.pointer (some ⟨xb, 0, none⟩)] w fun e w' => ∃ m p, e = .returned (.agg (mCells m p).toArray) ∧ Hid m.Ok ∧ Hid (MAt w' m p ∧ MNew w.heap.size m p) ∧ Hid (Asks xb V L 1000 w w') := by
  obtain ⟨w0, hw0, hb0, hk0⟩ : ∃ w0, w.alloc (.cells zero27.toArray 27) = w0 ∧ Below w.heap.size w w0 ∧ Blk w0 w.heap.size zero27 27 := ⟨_, rfl, (Below.refl _ _).alloc (Nat.le_refl _) _, heap_alloc_new w _⟩
  have H := Lib.hid h
  have HF := Lib.hid h.far
  have HA0 := Lib.hid ((Asks.refl h).below hb0)
  have HB0 := Lib.hid hb0
  have HK0 := Lib.hid hk0
  have HRG := Lib.hid (fun (k : Nat) (lo hi : Int) (wx : World) (hk : k ≤ 2000) (hlo : -1000 ≤ lo ∧ lo ≤ hi ∧ hi ≤ 1000) (hx : St wx xb V L k) => Range_st xb V L k (by omega) lo hi hlo wx hx)
  have HFL := Lib.hid (fun (k : Nat) (wx : World) (hk : k ≤ 2000) (hx : St wx xb V L k) => Flip_st xb V L k (by omega) 2 (by omega) wx hx)
  have HP1 := Lib.hid (fun (k : Nat) (wx : World) (hk : k ≤ 2000) (hx : St wx xb V L k) => Pick_lit0 xb V L k (by omega) [2, 3, 5, 8, 16] _ rfl 5 rfl (by decide) (by decide) wx hx)
  have HP2 := Lib.hid (fun (k : Nat) (wx : World) (hk : k ≤ 2000) (hx : St wx xb V L k) => Pick_lit0 xb V L k (by omega) [1, 2, 3, 4, 5] _ rfl 5 rfl (by decide) (by decide) wx hx)
  simp only [ints, List.map_cons, List.map_nil] at HP1 HP2
  simp only [zero27] at hw0
  clear h hb0 hk0
  go_enter Tryz.func4, Tryz.ntmps4
  go_upto_region 2 with (first
    | (go_at_call 12; have _g := HA2; clear _g; refine (HP2.out _ w2 (by decide) HA2.out.2).mono ?_; rintro e w3 ⟨r3, rfl, HR3, HA3⟩)
    | (go_at_call 12; have _g := HA1; clear _g; refine (HP1.out _ w1 (by decide) HA1.out.2).mono ?_; rintro e w2 ⟨r2, rfl, HR2, HA2⟩)
    | (go_at_call 5; refine (HRG.out 0 1 3 w0 (by decide) (by decide) HA0.out.2).mono ?_; rintro e w1 ⟨r1, rfl, HR1, HA1⟩))
  have hA3 := ((HA0.out.trans HA1.out).trans HA2.out).trans HA3.out
  have hlt3 : w.heap.size < w3.heap.size := Nat.lt_of_lt_of_le HK0.out.lt ((HA1.out.trans HA2.out).trans HA3.out).1.size
  have HKR := Lib.hid (show Blk w3 w.heap.size zero27 27 from ((HA1.out.trans HA2.out).trans HA3.out).1.blk HK0.out (by have := HF.out.1; omega))
  obtain ⟨w4, hw4, hb4, hk4⟩ : ∃ w4, w3.alloc (.cells #[.int .i64 r1, .int .i64 r2, .int .i64 r3, .int .i64 0, .slice none 0 0, .slice none 0 0, .slice none 0 0, .slice none 0 0, .slice none 0 0, .slice none 0 0, .slice none 0 0] 27) = w4 ∧ Below w3.heap.size w3 w4 ∧ Blk w4 w3.heap.size [.int .i64 r1, .int .i64 r2, .int .i64 r3, .int .i64 0, .slice none 0 0, .slice none 0 0, .slice none 0 0, .slice none 0 0, .slice none 0 0, .slice none 0 0, .slice none 0 0] 27 := ⟨_, rfl, (Below.refl _ _).alloc (Nat.le_refl _) _, heap_alloc_new w3 _⟩
  have HM4 := Lib.hid (show MS xb V L 3 w w3.heap.size w4 _ from ⟨hA3.below hb4, hk4, HF.out, hlt3, HKR.out.below hb4⟩)
  have h1 : 1 ≤ r1 ∧ r1 ≤ 3 := HR1.out
  have h2 : 2 ≤ r2 ∧ r2 ≤ 16 := by have := HR2.out; simp only [List.mem_cons, List.mem_nil_iff, or_false] at this; omega
  have h3 : 1 ≤ r3 ∧ r3 ≤ 5 := by have := HR3.out; simp only [List.mem_cons, List.mem_nil_iff, or_false] at this; omega
  rw [hw4]
  clear hw4 hb4 hk4 hA3 hw0 HR1 HR2 HR3 HA0 HA1 HA2 HA3 HKR
  generalize w3.heap.size = b3 at *
  have HL3 := Lib.hid hlt3
  have HR1 := Lib.hid h1
  have HR2 := Lib.hid h2
  have HR3 := Lib.hid h3
  have c4 := HM4.out.blk.cell
  clear hlt3 h1 h2 h3
  go_upto_if 20 with (first
    | (go_at_call 13; have _g := HM5; clear _g; refine (HFL.out 4 _ (by decide) HM6.out.asks.2).mono ?_; rintro e w7 ⟨rb, rfl, HA7⟩)
    | (go_at_call 5; refine (HRG.out 3 1 r2 w4 (by decide) (by have := HR2.out; omega) HM4.out.asks.2).mono ?_; rintro e w5 ⟨r4, rfl, HR4, HA5⟩; have HM5 := Lib.hid (HM4.out.ask HA5.out); have HM6 := Lib.hid (show MS xb V L 4 w b3 _ [.int .i64 r1, .int .i64 r2, .int .i64 r3, .int .i64 r4, .slice none 0 0, .slice none 0 0, .slice none 0 0, .slice none 0 0, .slice none 0 0, .slice none 0 0, .slice none 0 0] from HM5.out.set 3 (.int .i64 r4)); have c5 := HM5.out.blk.cell; have f5 := HM5.out.blk.frozen))
  have HM7 := Lib.hid (HM6.out.ask HA7.out)
  have c7 := HM7.out.blk.cell
  have f7 := HM7.out.blk.frozen
  clear c4 c5 f5
  go_cut [] (fun wx => ∃ top : Int, Hid (1 ≤ top ∧ top ≤ r2) ∧ Hid (MS xb V L 5 w b3 wx [.int .i64 r1, .int .i64 r2, .int .i64 r3, .int .i64 top, .slice none 0 0, .slice none 0 0, .slice none 0 0, .slice none 0 0, .slice none 0 0, .slice none 0 0, .slice none 0 0]))
  case first =>
    cases rb
    · go_wp2
      go_meet
      exact ⟨r4, HR4, HM7⟩
    · go_wp2
      go_meet
      exact ⟨r2, Lib.hid (by have := HR2.out; omega), Lib.hid (HM7.out.set 3 (.int .i64 r2))⟩
  case rest =>
    obtain ⟨top, HT, HMA⟩ := hcut
    clear c7 f7
    have hb3 := HMA.out.blt
    have HB3L := Lib.hid hb3
    have HXB := Lib.hid (show xb < wc.heap.size from Nat.lt_trans (Nat.lt_trans HF.out.1 HL3.out) hb3)
    go_wp2
    go_loopg [24] 4 (fun gk s24 wx => ∃ (i : Nat) (A : Option Addr) (c : Nat) (l : List Int), s24 = .int .i64 i ∧ i ≤ 4 ∧ gk = 4 - i ∧ Hid (l.length = i ∧ ∀ x, x ∈ l → 1 ≤ x ∧ x ≤ 15) ∧ Hid (wx.ownsRow wc.heap.size 3 1 (.slice A i c) i (ints l)) ∧ Hid (Over b3 wc wx) ∧ Hid (MS xb V L (5 + i) w b3 wx [.int .i64 r1, .int .i64 r2, .int .i64 r3, .int .i64 top, .slice A i c, .slice none 0 0, .slice none 0 0, .slice none 0 0, .slice none 0 0, .slice none 0 0, .slice none 0 0]))
    case atStart => exact ⟨0, none, 0, [], rfl, by decide, rfl, Lib.hid ⟨rfl, fun x hx => absurd hx (by simp)⟩, Lib.hid (World.ownsRow_nil _ _ _ _), Lib.hid (Over.refl _ _), HMA⟩
    case round =>
      obtain ⟨i, A, c, l, rfl, hil, rfl, HC, HO, HV, HM⟩ := hrel
      by_cases hlt : i < 4
      · have ci := HM.out.blk.cell
        have fi := HM.out.blk.frozen
        have qa := fun (o : Obj) => (HM.out.blk.alloc o).cell
        have HI := Lib.hid (show 5 + i ≤ 2000 ∧ i ≤ 1000 by omega)
        have HPK := Lib.hid (fun d => Pick_litD xb V L (5 + i) (by omega) [1, 1, 2, 3, 5, 8, 15] _ rfl 7 rfl (by decide) (by decide) wr HM.out.asks.2 d)
        simp only [ints, List.map_cons, List.map_nil] at HPK
        go_upto_block 1 with fail
        go_cut [] (fun wx => ∃ (A' : Option Addr) (c' : Nat) (l' : List Int), Hid (l'.length = i + 1 ∧ ∀ x, x ∈ l' → 1 ≤ x ∧ x ≤ 15) ∧ Hid (wx.ownsRow wc.heap.size 3 1 (.slice A' (i + 1) c') (i + 1) (ints l')) ∧ Hid (Over b3 wc wx) ∧ Hid (MS xb V L (5 + (i + 1)) w b3 wx [.int .i64 r1, .int .i64 r2, .int .i64 r3, .int .i64 top, .slice A' (i + 1) c', .slice none 0 0, .slice none 0 0, .slice none 0 0, .slice none 0 0, .slice none 0 0, .slice none 0 0]))
        case first =>
          go_upto_region 7 with fail
          go_region_law (first
            | (go_simp; go_at_call 12; refine (HPK.out _).mono ?_; rintro e w2 ⟨r2, rfl, HR2, HA2⟩; have HO2 := Lib.hid (HA2.out.1.own HO.out HXB.out); have c2 := (HM.out.ask HA2.out).blk.cell; have qa2 := fun (o : Obj) => ((HM.out.ask HA2.out).blk.alloc o).cell; dsimp only)
            | (refine step_app1 (by rfl) _ _ (by rfl) wc.heap.size (.slice A i c) i l (by rfl) (ownsRow_below HO2.out ((Below.refl _ _).alloc (Nat.le_refl _) _)) r2 w2.heap.size (by rfl) ((news_blk w2 [_] _).cell 0) HI.out.2 (Nat.le_trans HV.out.size (Nat.le_trans HA2.out.1.size (alloc_le _ _))) ?_; intro g cap w3 hown hb; have HO3 := Lib.hid hown; have HB3 := Lib.hid (((Below.refl wc.heap.size w2).alloc (Nat.le_trans HV.out.size HA2.out.1.size) _).trans hb); have HM3 := Lib.hid ((HM.out.ask HA2.out).base HB3.out HB3L.out); have c3 := HM3.out.blk.cell 4; have f3 := HM3.out.blk.frozen 4; clear hown hb))
          all_goals
            go_wp2_with fail
            go_meet
            exact ⟨some ⟨g, 0, none⟩, cap, l ++ [r2], Lib.hid ⟨by rw [List.length_append, HC.out.1]; rfl, fun x hx => by
              rcases List.mem_append.1 hx with h1 | h1
              · exact HC.out.2 x h1
              · rw [List.mem_singleton.1 h1]
                have := HR2.out
                simp only [List.mem_cons, List.mem_nil_iff, or_false] at this
                omega⟩, Lib.hid (own_set HO3.out HB3L.out _), Lib.hid (((HV.out.trans (HM.out.over HA2.out)).app HB3.out).trans (Over.set _ _ _ _)), Lib.hid (HM3.out.set 4 _)⟩
        case rest =>
          obtain ⟨A', c', l', HC2, HO2, HV2, HM2⟩ := hcut
          go_wp2
          go_roundg (4 - (i + 1))
          case measure => omega
          case rel => exact ⟨i + 1, A', c', l', rfl, by omega, rfl, HC2, HO2, HV2, HM2⟩
      · obtain rfl : i = 4 := by omega
        have HF4 := Lib.hid (Fin3.own HO.out hb3)
        have ci := HM.out.blk.cell
        have HL4 := HC.out
        clear HC
        go_upto_block 2 with fail
        go_cut [4] (fun s4 wx => ∃ mn : Int, s4 = .int .i64 mn ∧ Hid (1 ≤ mn ∧ mn ≤ 4 ∧ (r1 = 1 → mn = 3) ∧ (r1 = 2 → mn = 2)) ∧ Hid (Over b3 wr wx) ∧ Hid (MS xb V L 10 w b3 wx [.int .i64 r1, .int .i64 r2, .int .i64 r3, .int .i64 top, .slice A 4 c, .slice none 0 0, .slice none 0 0, .slice none 0 0, .slice none 0 0, .slice none 0 0, .slice none 0 0]))
        case first =>
          by_cases k2 : r1 = 2
          · have b0 : (r1 == 2) = true := by simp [k2]
            have K2 := Lib.hid k2
            clear k2
            go_wp2
            go_meet
            exact ⟨2, rfl, Lib.hid (by have := K2.out; omega), Lib.hid (Over.refl _ _), Lib.hid (HM.out.up (by decide))⟩
          · have b0 : (r1 == 2) = false := by simp [k2]
            by_cases k3 : r1 = 3
            · have b1 : (r1 == 3) = true := by simp [k3]
              have K3 := Lib.hid k3
              clear k3
              go_wp2_with (go_at_call 5; refine (HRG.out 9 1 4 wr (by decide) (by decide) HM.out.asks.2).mono ?_; rintro e w8 ⟨r8, rfl, HR8, HA8⟩)
              go_meet
              exact ⟨r8, rfl, Lib.hid (by have := HR8.out; have := K3.out; omega), Lib.hid (HM.out.over HA8.out), Lib.hid (HM.out.ask HA8.out)⟩
            · have b1 : (r1 == 3) = false := by simp [k3]
              go_wp2
              go_meet
              exact ⟨3, rfl, Lib.hid (by have := HR1.out; omega), Lib.hid (Over.refl _ _), Lib.hid (HM.out.up (by decide))⟩
        case rest =>
          obtain ⟨mn, rfl, HMN, HVB, HMB⟩ := hcut
          obtain ⟨w9, rfl⟩ : ∃ w9, w9 = wc := ⟨_, rfl⟩
          have HF4B := Lib.hid (HF4.out.over HVB.out)
          clear ci HF4 HVB HO HV HM
          obtain ⟨N1, hN1, hN1b⟩ : ∃ N1 : Nat, r2 * r3 = N1 ∧ N1 ≤ 80 := by
            have h2 := HR2.out
            have h3 := HR3.out
            have : 0 ≤ r2 * r3 ∧ r2 * r3 ≤ 80 := by
              rcases (show r3 = 1 ∨ r3 = 2 ∨ r3 = 3 ∨ r3 = 4 ∨ r3 = 5 by omega) with e | e | e | e | e <;> subst e <;> omega
            exact ⟨(r2 * r3).toNat, by omega, by omega⟩
          have e1 : IntKind.i64.wrap (r2 * r3) = (N1 : Int) := by rw [hN1]; exact IntWalk.i64_in _ (by omega)
          have HN1 := Lib.hid (And.intro hN1 hN1b)
          have HBY := Lib.hid (fun (k : Nat) (n : Nat) (wx : World) (hn : n ≤ 200) (hk : k ≤ 2000) (hx : St wx xb V L k) => bytes_st xb V L k n hn (by omega) wx hx)
          have HSB := Lib.hid (show ∀ (wx : World) (K : Nat) (l : List Value), MS xb V L K w b3 wx l → l[1]? = some (.int .i64 r2) → l[2]? = some (.int .i64 r3) → wx.cell? ⟨b3, 1, none⟩ = some (.int .i64 r2) ∧ wx.cell? ⟨b3, 2, none⟩ = some (.int .i64 r3) from fun wx K l h h1 h2 => ⟨(h.blk.cell 1).trans h1, (h.blk.cell 2).trans h2⟩)
          clear hN1 hN1b
          go_upto_region 15 with fail
          go_region_held3 (fun wy : World => wy.cell? ⟨b3, 1, none⟩ = some (.int .i64 r2) ∧ wy.cell? ⟨b3, 2, none⟩ = some (.int .i64 r3)) (first | exact HSB.out _ _ _ HMF.out rfl rfl | exact HSB.out _ _ _ HME.out rfl rfl | exact HSB.out _ _ _ HMD.out rfl rfl | exact HSB.out _ _ _ HMC.out rfl rfl | exact HSB.out _ _ _ HMB.out.drew rfl rfl) (first
            | (go_at_call 14; have _g := HMC; clear _g; refine (HBY.out (10 + 2 * N1) N1 w10 (by have := HN1.out; omega) (by have := HN1.out; omega) HMC.out.asks.2).mono ?_; rintro e w11 ⟨v8, l8, rfl, HB8, HO8, HA11⟩; obtain ⟨A8, c8, hv8⟩ := ownsRow_shape HO8.out; subst hv8; have HMD := Lib.hid (HMC.out.ask HA11.out); have HME := Lib.hid (HMD.out.set 5 (.slice A5 N1 c5)); have HMF := Lib.hid (HME.out.set 8 (.slice A8 N1 c8)); have c11 := HMD.out.blk.cell; have f11 := HMD.out.blk.frozen; dsimp only)
            | (go_at_call 14; refine (HBY.out 10 N1 w9.drew (by have := HN1.out; omega) (by decide) HMB.out.asks.2).mono ?_; rintro e w10 ⟨v5, l5, rfl, HB5, HO5, HA10⟩; obtain ⟨A5, c5, hv5⟩ := ownsRow_shape HO5.out; subst hv5; have HMC := Lib.hid (show MS xb V L (10 + 2 * N1) w b3 w10 _ from HMB.out.ask HA10.out.undrew); dsimp only))
          rename_i hHeld
          clear hHeld
          obtain ⟨w12, hw12⟩ : ∃ w12, (w11.setCell ⟨b3, 5, none⟩ (.slice A5 N1 c5)).setCell ⟨b3, 8, none⟩ (.slice A8 N1 c8) = w12 := ⟨_, rfl⟩
          have HOV := Lib.hid (show Over b3 w11 w12 by rw [← hw12]; exact (Over.set b3 5 w11 _).trans (Over.set b3 8 _ _))
          have HM12 := Lib.hid (show MS xb V L 340 w b3 w12 [.int .i64 r1, .int .i64 r2, .int .i64 r3, .int .i64 top, .slice A 4 c, .slice A5 N1 c5, .slice none 0 0, .slice none 0 0, .slice A8 N1 c8, .slice none 0 0, .slice none 0 0] by rw [← hw12]; exact HMF.out.up (by have := HN1.out; omega))
          rw [hw12]
          have v1 := HMB.out.over HA10.out.undrew
          have v2 := HMC.out.over HA11.out
          have HG4 := Lib.hid (HF4B.out.over ((v1.trans v2).trans HOV.out))
          have HG5 := Lib.hid ((Fin3.own HO5.out HMB.out.blt).over (v2.trans HOV.out))
          have HG8 := Lib.hid ((Fin3.own HO8.out HMC.out.blt).over HOV.out)
          clear hw12 v1 v2 c11 f11 HOV HF4B HMB HMC HMD HME HMF HA10 HA11 HO5 HO8 e1
          obtain ⟨N3, hN3, hN3b⟩ : ∃ N3 : Nat, mn * r3 * r3 = N3 ∧ N3 ≤ 100 := by
            have h2 := HMN.out
            have h3 := HR3.out
            have : 0 ≤ mn * r3 * r3 ∧ mn * r3 * r3 ≤ 100 := by
              rcases (show r3 = 1 ∨ r3 = 2 ∨ r3 = 3 ∨ r3 = 4 ∨ r3 = 5 by omega) with e | e | e | e | e <;> subst e <;> omega
            exact ⟨(mn * r3 * r3).toNat, by omega, by omega⟩
          have e2 : IntKind.i64.wrap (mn * r3) = mn * r3 := IntWalk.i64_in _ (by
            have h2 := HMN.out
            have h3 := HR3.out
            rcases (show r3 = 1 ∨ r3 = 2 ∨ r3 = 3 ∨ r3 = 4 ∨ r3 = 5 by omega) with e | e | e | e | e <;> subst e <;> omega)
          have e3 : IntKind.i64.wrap (mn * r3 * r3) = (N3 : Int) := by rw [hN3]; exact IntWalk.i64_in _ (by omega)
          have HN3 := Lib.hid (And.intro hN3 hN3b)
          have HP3 := Lib.hid (fun d => Pick_litD xb V L 340 (by omega) [1, 2, 4, 16] _ rfl 4 rfl (by decide) (by decide) w12 HM12.out.asks.2 d)
          simp only [ints, List.map_cons, List.map_nil] at HP3
          clear hN3 hN3b
          have HSC := Lib.hid (show ∀ (wx : World) (K : Nat) (l : List Value), MS xb V L K w b3 wx l → l[2]? = some (.int .i64 r3) → wx.cell? ⟨b3, 2, none⟩ = some (.int .i64 r3) from fun wx K l h h2 => (h.blk.cell 2).trans h2)
          go_upto_region 16 with fail
          go_region_held3 (fun wy : World => wy.cell? ⟨b3, 2, none⟩ = some (.int .i64 r3)) (first | exact HSC.out _ _ _ HM17.out rfl | exact HSC.out _ _ _ HM16.out rfl | exact HSC.out _ _ _ HM15.out rfl | exact HSC.out _ _ _ HM14.out rfl | exact HSC.out _ _ _ HM13.out rfl | exact HSC.out _ _ _ (HM12.out.base ((Below.refl _ _).alloc (Nat.le_refl _) _) HM12.out.blt).drew rfl | exact HSC.out _ _ _ HM12.out.drew rfl) (first
            | (go_at_call 14; have _g := HM14; clear _g; refine (HBY.out 501 N3 w14 (by have := HN3.out; omega) (by decide) HM14.out.asks.2).mono ?_; rintro e w15 ⟨v7, l7, rfl, HB7, HO7, HA15⟩; obtain ⟨A7, c7, hv7⟩ := ownsRow_shape HO7.out; subst hv7; have HM15 := Lib.hid (HM14.out.ask HA15.out); have HM16 := Lib.hid (HM15.out.set 6 (.slice A6 N2 c6)); have HM17 := Lib.hid (HM16.out.set 7 (.slice A7 N3 c7)); have c15 := HM15.out.blk.cell; have f15 := HM15.out.blk.frozen; dsimp only)
            | (go_at_call 14; have _g := HM13; clear _g; refine (HBY.out 341 N2 w13 (by have := HN2.out; omega) (by decide) HM13.out.asks.2).mono ?_; rintro e w14 ⟨v6, l6, rfl, HB6, HO6, HA14⟩; obtain ⟨A6, c6, hv6⟩ := ownsRow_shape HO6.out; subst hv6; have HM14 := Lib.hid ((HM13.out.ask HA14.out).up (show 341 + 2 * N2 ≤ 501 by have := HN2.out; omega)); dsimp only)
            | (go_at_call 12; refine (HP3.out _).mono ?_; rintro e w13 ⟨rp, rfl, HRP, HA13⟩; have HM13 := Lib.hid (HM12.out.ask HA13.out); obtain ⟨N2, e4, HN2⟩ : ∃ N2 : Nat, IntKind.i64.wrap (rp * r3) = (N2 : Int) ∧ Hid (rp * r3 = N2 ∧ N2 ≤ 80 ∧ 1 ≤ rp ∧ rp ≤ 16) := (place_len HRP.out HR3.out); dsimp only))
          rename_i hHeld
          clear hHeld
          obtain ⟨w16, hw16⟩ : ∃ w16, (w15.setCell ⟨b3, 6, none⟩ (.slice A6 N2 c6)).setCell ⟨b3, 7, none⟩ (.slice A7 N3 c7) = w16 := ⟨_, rfl⟩
          have HOV := Lib.hid (show Over b3 w15 w16 by rw [← hw16]; exact (Over.set b3 6 w15 _).trans (Over.set b3 7 _ _))
          have HM18 := Lib.hid (show MS xb V L 701 w b3 w16 [.int .i64 r1, .int .i64 r2, .int .i64 r3, .int .i64 top, .slice A 4 c, .slice A5 N1 c5, .slice A6 N2 c6, .slice A7 N3 c7, .slice A8 N1 c8, .slice none 0 0, .slice none 0 0] by rw [← hw16]; exact HM17.out.up (by have := HN3.out; omega))
          rw [hw16]
          have v1 := HM12.out.over HA13.out
          have v2 := HM13.out.over HA14.out
          have v3 := HM14.out.over HA15.out
          have HJ4 := Lib.hid (HG4.out.over (((v1.trans v2).trans v3).trans HOV.out))
          have HJ5 := Lib.hid (HG5.out.over (((v1.trans v2).trans v3).trans HOV.out))
          have HJ8 := Lib.hid (HG8.out.over (((v1.trans v2).trans v3).trans HOV.out))
          have HJ6 := Lib.hid ((Fin3.own HO6.out HM13.out.blt).over (v3.trans HOV.out))
          have HJ7 := Lib.hid ((Fin3.own HO7.out HM14.out.blt).over HOV.out)
          have HP4 := Lib.hid (Pick_lit0 xb V L 701 (by omega) [1, 2, 5, 64] _ rfl 4 rfl (by decide) (by decide) w16 HM18.out.asks.2)
          simp only [ints, List.map_cons, List.map_nil] at HP4
          clear hw16 v1 v2 v3 c15 f15 HOV HG4 HG5 HG8 HM12 HM13 HM14 HM15 HM16 HM17 HA13 HA14 HA15 HO6 HO7 e2 e3 e4 HP3 HSC HSB
          go_wp2_with (go_at_call 12; refine HP4.out.mono ?_; rintro e w20 ⟨rs, rfl, HRS, HA20⟩)
          obtain ⟨ns, rfl⟩ : ∃ ns : Nat, rs = ns := ⟨rs.toNat, by have := HRS.out; simp only [List.mem_cons, List.mem_nil_iff, or_false] at this; omega⟩
          have HNS := Lib.hid (show 1 ≤ ns ∧ ns ≤ 64 by have := HRS.out; simp only [List.mem_cons, List.mem_nil_iff, or_false] at this; omega)
          have HM20 := Lib.hid (HM18.out.ask HA20.out)
          have v4 := HM18.out.over HA20.out
          have HQ4 := Lib.hid (HJ4.out.over v4)
          have HQ5 := Lib.hid (HJ5.out.over v4)
          have HQ6 := Lib.hid (HJ6.out.over v4)
          have HQ7 := Lib.hid (HJ7.out.over v4)
          have HQ8 := Lib.hid (HJ8.out.over v4)
          have hb20 := HM20.out.blt
          have HB20L := Lib.hid hb20
          have HXB20 := Lib.hid (show xb < w20.heap.size from Nat.lt_trans (Nat.lt_trans HF.out.1 HL3.out) hb20)
          clear v4 HRS HJ4 HJ5 HJ6 HJ7 HJ8 HP4
          go_loopg [81] ns (fun gk s81 wx => ∃ (i : Nat) (A9 : Option Addr) (c9 : Nat) (l9 : List Int), s81 = .int .i64 i ∧ i ≤ ns ∧ gk = ns - i ∧ Hid (l9.length = i ∧ ∀ x, x ∈ l9 → 0 ≤ x ∧ x ≤ 1000) ∧ Hid (wx.ownsRow w20.heap.size 3 1 (.slice A9 i c9) i (ints l9)) ∧ Hid (Over b3 w20 wx) ∧ Hid (MS xb V L (702 + i) w b3 wx [.int .i64 r1, .int .i64 r2, .int .i64 r3, .int .i64 top, .slice A 4 c, .slice A5 N1 c5, .slice A6 N2 c6, .slice A7 N3 c7, .slice A8 N1 c8, .slice A9 i c9, .slice none 0 0]))
          case atStart => exact ⟨0, none, 0, [], rfl, Nat.zero_le _, rfl, Lib.hid ⟨rfl, fun x hx => absurd hx (by simp)⟩, Lib.hid (World.ownsRow_nil _ _ _ _), Lib.hid (Over.refl _ _), HM20⟩
          case round =>
            obtain ⟨i, A9, c9, l9, rfl, hil9, rfl, HC9, HO9, HV9, HM9⟩ := hrel
            by_cases hlt9 : i < ns
            · have ci := HM9.out.blk.cell
              have fi := HM9.out.blk.frozen
              have qa := fun (o : Obj) => (HM9.out.blk.alloc o).cell
              have HI := Lib.hid (show 702 + i ≤ 2000 ∧ i ≤ 1000 by have := HNS.out; omega)
              have HPK := Lib.hid (fun d => Pick_litD xb V L (702 + i) (by have := HI.out; omega) [0, 1, 8, 64, 1000] _ rfl 5 rfl (by decide) (by decide) wr HM9.out.asks.2 d)
              simp only [ints, List.map_cons, List.map_nil] at HPK
              go_upto_block 4 with fail
              go_cut [] (fun wx => ∃ (A' : Option Addr) (c' : Nat) (l' : List Int), Hid (l'.length = (i + 1) ∧ ∀ x, x ∈ l' → 0 ≤ x ∧ x ≤ 1000) ∧ Hid (wx.ownsRow w20.heap.size 3 1 (.slice A' (i + 1) c') (i + 1) (ints l')) ∧ Hid (Over b3 w20 wx) ∧ Hid (MS xb V L (702 + (i + 1)) w b3 wx [.int .i64 r1, .int .i64 r2, .int .i64 r3, .int .i64 top, .slice A 4 c, .slice A5 N1 c5, .slice A6 N2 c6, .slice A7 N3 c7, .slice A8 N1 c8, .slice A' (i + 1) c', .slice none 0 0]))
              case first =>
                go_upto_region 19 with fail
                go_region_law (first
                  | (go_simp; go_at_call 12; refine (HPK.out _).mono ?_; rintro e wp ⟨rq, rfl, HRQ, HAQ⟩; have HOQ := Lib.hid (HAQ.out.1.own HO9.out HXB20.out); have cq := (HM9.out.ask HAQ.out).blk.cell; have qaq := fun (o : Obj) => ((HM9.out.ask HAQ.out).blk.alloc o).cell; dsimp only)
                  | (refine step_app1 (by rfl) _ _ (by rfl) w20.heap.size (.slice A9 i c9) i l9 (by rfl) (ownsRow_below HOQ.out ((Below.refl _ _).alloc (Nat.le_refl _) _)) rq wp.heap.size (by rfl) ((news_blk wp [_] _).cell 0) HI.out.2 (Nat.le_trans HV9.out.size (Nat.le_trans HAQ.out.1.size (alloc_le _ _))) ?_; intro g cap w3 hown hb; have HO3 := Lib.hid hown; have HB3 := Lib.hid (((Below.refl w20.heap.size wp).alloc (Nat.le_trans HV9.out.size HAQ.out.1.size) _).trans hb); have HM3 := Lib.hid ((HM9.out.ask HAQ.out).base HB3.out HB20L.out); have c3 := HM3.out.blk.cell 9; have f3 := HM3.out.blk.frozen 9; clear hown hb))
                all_goals
                  go_wp2_with fail
                  go_meet
                  exact ⟨some ⟨g, 0, none⟩, cap, l9 ++ [rq], Lib.hid (⟨by rw [List.length_append, HC9.out.1]; rfl, fun x hx => by
                rcases List.mem_append.1 hx with h1 | h1
                · exact HC9.out.2 x h1
                · rw [List.mem_singleton.1 h1]
                  have := HRQ.out
                  simp only [List.mem_cons, List.mem_nil_iff, or_false] at this
                  omega⟩), Lib.hid (own_set HO3.out HB20L.out _), Lib.hid (((HV9.out.trans (HM9.out.over HAQ.out)).app (HB3.out)).trans (Over.set _ _ _ _)), Lib.hid (HM3.out.set 9 _)⟩
              case rest =>
                obtain ⟨A', c', l', HC2, HO2, HV2, HM2⟩ := hcut
                go_wp2
                go_roundg (ns - (i + 1))
                case measure => omega
                case rel => exact ⟨i + 1, A', c', l', by first | rfl | exact congrArg (Value.int .i64) (show wrap64 ((i : Int) + 1) = ((i + 1 : Nat) : Int) by rw [wrap64_in (by have := HNS.out; omega)]; rfl), by omega, rfl, HC2, HO2, HV2, HM2⟩
            · obtain rfl : i = ns := by omega
              have HT9 := Lib.hid (Fin3.own HO9.out hb20)
              have HT4 := Lib.hid (HQ4.out.over HV9.out)
              have HT5 := Lib.hid (HQ5.out.over HV9.out)
              have HT6 := Lib.hid (HQ6.out.over HV9.out)
              have HT7 := Lib.hid (HQ7.out.over HV9.out)
              have HT8 := Lib.hid (HQ8.out.over HV9.out)
              clear HQ4 HQ5 HQ6 HQ7 HQ8 HV9
              have HRX := Lib.hid (HRG.out (702 + i) 1 40 wr (by have := HNS.out; omega) (by decide) HM9.out.asks.2)
              go_upto_region 22 with (go_at_call 5; refine HRX.out.mono ?_; rintro e w22 ⟨ro, rfl, HRO, HA22⟩; have HM22 := Lib.hid (HM9.out.ask HA22.out); have qa := fun (o : Obj) => (HM22.out.blk.alloc o).cell; have fa := fun (o : Obj) => (HM22.out.blk.alloc o).frozen)
              obtain ⟨w23, hw23⟩ : ∃ w23, (w22.alloc (.cells #[.int .i64 ro] 3)).setCell ⟨b3, 10, none⟩ (.slice (some ⟨w22.heap.size, 0, none⟩) 1 1) = w23 := ⟨_, rfl⟩
              have hb22 := HM22.out.blt
              have HB22L := Lib.hid hb22
              have HXB22 := Lib.hid (show xb < w22.heap.size from Nat.lt_trans (Nat.lt_trans HF.out.1 HL3.out) hb22)
              have HO23 := Lib.hid (show w23.ownsRow w22.heap.size 3 1 (.slice (some ⟨w22.heap.size, 0, none⟩) 1 1) 1 (ints [ro]) by rw [← hw23]; exact own_set (own_one w22 ro) hb22 _)
              have hm23 := (HM22.out.base ((Below.refl w22.heap.size w22).alloc (Nat.le_refl _) (.cells #[.int .i64 ro] 3)) hb22).set 10 (.slice (some ⟨w22.heap.size, 0, none⟩) 1 1)
              have HM23 := Lib.hid (show MS xb V L 770 w b3 w23 [.int .i64 r1, .int .i64 r2, .int .i64 r3, .int .i64 top, .slice A 4 c, .slice A5 N1 c5, .slice A6 N2 c6, .slice A7 N3 c7, .slice A8 N1 c8, .slice A9 i c9, .slice (some ⟨w22.heap.size, 0, none⟩) 1 1] by rw [← hw23]; exact hm23.up (by have := HNS.out; omega))
              have HV23 := Lib.hid (show Over b3 w22 w23 by rw [← hw23]; exact (Over.of_below ((Below.refl w22.heap.size w22).alloc (Nat.le_refl _) (.cells #[.int .i64 ro] 3))).trans (Over.set _ _ _ _))
              rw [hw23]
              have v5 := HM9.out.over HA22.out
              have HU4 := Lib.hid (HT4.out.over v5)
              have HU5 := Lib.hid (HT5.out.over v5)
              have HU6 := Lib.hid (HT6.out.over v5)
              have HU7 := Lib.hid (HT7.out.over v5)
              have HU8 := Lib.hid (HT8.out.over v5)
              have HU9 := Lib.hid (HT9.out.over v5)
              have HP5 := Lib.hid (Pick_lit0 xb V L 770 (by omega) [0, 1, 4, 63] _ rfl 4 rfl (by decide) (by decide) w23 HM23.out.asks.2)
              simp only [ints, List.map_cons, List.map_nil] at HP5
              clear hw23 hm23 v5 HT4 HT5 HT6 HT7 HT8 HT9 HO9 HM9 HM20 HM18 HA20 HA22 HM22 qa fa
              go_wp2_with (go_at_call 12; refine HP5.out.mono ?_; rintro e w24 ⟨rt, rfl, HRT, HA24⟩)
              obtain ⟨no, rfl⟩ : ∃ no : Nat, rt = no := ⟨rt.toNat, by have := HRT.out; simp only [List.mem_cons, List.mem_nil_iff, or_false] at this; omega⟩
              have HNO := Lib.hid (show no ≤ 63 by have := HRT.out; simp only [List.mem_cons, List.mem_nil_iff, or_false] at this; omega)
              have HM24 := Lib.hid (HM23.out.ask HA24.out)
              have HO24 := Lib.hid (HA24.out.1.own HO23.out HXB22.out)
              have HV24 := Lib.hid (HV23.out.trans (HM23.out.over HA24.out))
              obtain ⟨i9, hi9⟩ : ∃ i9, i9 = i := ⟨_, rfl⟩
              rw [← hi9] at HM24 HC9 HNS HU9
              clear HRT HP5 HM23 HO23 HV23 HA24 hi9 hlt9
              go_loopg [99] no (fun gk s99 wx => ∃ (i : Nat) (A10 : Option Addr) (c10 : Nat) (l10 : List Int), s99 = .int .i64 i ∧ i ≤ no ∧ gk = no - i ∧ Hid (l10.length = i + 1 ∧ (∀ x, x ∈ l10 → 0 ≤ x ∧ x ≤ 1000) ∧ l10.getD 0 0 ≠ 0) ∧ Hid (wx.ownsRow w22.heap.size 3 1 (.slice A10 (i + 1) c10) (i + 1) (ints l10)) ∧ Hid (Over b3 w22 wx) ∧ Hid (MS xb V L (771 + i) w b3 wx [.int .i64 r1, .int .i64 r2, .int .i64 r3, .int .i64 top, .slice A 4 c, .slice A5 N1 c5, .slice A6 N2 c6, .slice A7 N3 c7, .slice A8 N1 c8, .slice A9 i9 c9, .slice A10 (i + 1) c10]))
              case atStart => exact ⟨0, _, _, [ro], rfl, Nat.zero_le _, rfl, Lib.hid ⟨rfl, fun x hx => by rw [List.mem_singleton.1 hx]; have := HRO.out; omega, by show ro ≠ 0; have := HRO.out; omega⟩, HO24, HV24, HM24⟩
              case round =>
                obtain ⟨i, A10, c10, l10, rfl, hil10, rfl, HC10, HO10, HV10, HM10⟩ := hrel
                by_cases hlt10 : i < no
                · have ci := HM10.out.blk.cell
                  have fi := HM10.out.blk.frozen
                  have qa := fun (o : Obj) => (HM10.out.blk.alloc o).cell
                  have HI := Lib.hid (show 771 + i ≤ 2000 ∧ i + 1 ≤ 1000 by have := HNO.out; omega)
                  have HPK := Lib.hid (fun d => Pick_litD xb V L (771 + i) (by have := HI.out; omega) [0, 1, 8, 1000] _ rfl 4 rfl (by decide) (by decide) wr HM10.out.asks.2 d)
                  simp only [ints, List.map_cons, List.map_nil] at HPK
                  go_upto_block 6 with fail
                  go_cut [] (fun wx => ∃ (A' : Option Addr) (c' : Nat) (l' : List Int), Hid (l'.length = i + 1 + 1 ∧ (∀ x, x ∈ l' → 0 ≤ x ∧ x ≤ 1000) ∧ l'.getD 0 0 ≠ 0) ∧ Hid (wx.ownsRow w22.heap.size 3 1 (.slice A' (i + 1 + 1) c') (i + 1 + 1) (ints l')) ∧ Hid (Over b3 w22 wx) ∧ Hid (MS xb V L (771 + (i + 1)) w b3 wx [.int .i64 r1, .int .i64 r2, .int .i64 r3, .int .i64 top, .slice A 4 c, .slice A5 N1 c5, .slice A6 N2 c6, .slice A7 N3 c7, .slice A8 N1 c8, .slice A9 i9 c9, .slice A' (i + 1 + 1) c']))
                  case first =>
                    go_upto_region 24 with fail
                    go_region_law (first
                      | (go_simp; go_at_call 12; refine (HPK.out _).mono ?_; rintro e wp ⟨rq, rfl, HRQ, HAQ⟩; have HOQ := Lib.hid (HAQ.out.1.own HO10.out HXB22.out); have cq := (HM10.out.ask HAQ.out).blk.cell; have qaq := fun (o : Obj) => ((HM10.out.ask HAQ.out).blk.alloc o).cell; dsimp only)
                      | (refine step_app1 (by rfl) _ _ (by rfl) w22.heap.size (.slice A10 (i + 1) c10) (i + 1) l10 (by rfl) (ownsRow_below HOQ.out ((Below.refl _ _).alloc (Nat.le_refl _) _)) rq wp.heap.size (by rfl) ((news_blk wp [_] _).cell 0) HI.out.2 (Nat.le_trans HV10.out.size (Nat.le_trans HAQ.out.1.size (alloc_le _ _))) ?_; intro g cap w3 hown hb; have HO3 := Lib.hid hown; have HB3 := Lib.hid (((Below.refl w22.heap.size wp).alloc (Nat.le_trans HV10.out.size HAQ.out.1.size) _).trans hb); have HM3 := Lib.hid ((HM10.out.ask HAQ.out).base HB3.out HB22L.out); have c3 := HM3.out.blk.cell 10; have f3 := HM3.out.blk.frozen 10; clear hown hb))
                    all_goals
                      go_wp2_with fail
                      go_meet
                      exact ⟨some ⟨g, 0, none⟩, cap, l10 ++ [rq], Lib.hid ⟨by rw [List.length_append, HC10.out.1]; rfl, fun x hx => by
                        rcases List.mem_append.1 hx with h1 | h1
                        · exact HC10.out.2.1 x h1
                        · rw [List.mem_singleton.1 h1]
                          have := HRQ.out
                          simp only [List.mem_cons, List.mem_nil_iff, or_false] at this
                          omega, by
                        rw [List.getD, List.getElem?_append_left (by rw [HC10.out.1]; omega), ← List.getD]
                        exact HC10.out.2.2⟩, Lib.hid (own_set HO3.out HB22L.out _), Lib.hid (((HV10.out.trans (HM10.out.over HAQ.out)).app HB3.out).trans (Over.set _ _ _ _)), Lib.hid (HM3.out.set 10 _)⟩
                  case rest =>
                    obtain ⟨A', c', l', HC2, HO2, HV2, HM2⟩ := hcut
                    go_wp2
                    go_roundg (no - (i + 1))
                    case measure => omega
                    case rel => exact ⟨i + 1, A', c', l', by first | rfl | exact congrArg (Value.int .i64) (show wrap64 ((i : Int) + 1) = ((i + 1 : Nat) : Int) by rw [wrap64_in (by have := HNO.out; omega)]; rfl), by omega, rfl, HC2, HO2, HV2, HM2⟩
                · obtain rfl : i = no := by omega
                  have HT10 := Lib.hid (Fin3.own HO10.out hb22)
                  have HL5 := HB5.out.1
                  have HL6 := HB6.out.1
                  have HL7 := HB7.out.1
                  have HL8 := HB8.out.1
                  have HL9 := HC9.out.1
                  have HL10 := HC10.out.1
                  obtain ⟨m, hm⟩ : ∃ m : MD, m = ⟨r1, r2, r3, top, l, l5, l6, l7, l8, l9, l10⟩ := ⟨_, rfl⟩
                  obtain ⟨p, hp⟩ : ∃ p : MP, p = ⟨⟨A, c⟩, ⟨A5, c5⟩, ⟨A6, c6⟩, ⟨A7, c7⟩, ⟨A8, c8⟩, ⟨A9, c9⟩, ⟨A10, c10⟩⟩ := ⟨_, rfl⟩
                  have HMC := Lib.hid (show MS xb V L 1000 w b3 wr (mCells m p) by
                    have e : mCells m p = [.int .i64 r1, .int .i64 r2, .int .i64 r3, .int .i64 top, .slice A 4 c, .slice A5 N1 c5, .slice A6 N2 c6, .slice A7 N3 c7, .slice A8 N1 c8, .slice A9 i9 c9, .slice A10 (i + 1) c10] := by
                      rw [hm, hp]
                      simp only [mCells, HL4.1, HL5, HL6, HL7, HL8, HL9, HL10]
                    rw [e]
                    exact HM10.out.up (by have := HNO.out; omega))
                  have HOK := Lib.hid (show m.Ok by
                    rw [hm]
                    exact made_ok HR1.out HR2.out HR3.out HT.out HMN.out HL4 HB5.out HN1.out.1 HB6.out HN2.out HB7.out HN3.out.1 HB8.out HC9.out HNS.out HC10.out HNO.out)
                  have HX := Lib.hid (show Fin3 b3 wr (.slice A l.length c) l ∧ Fin3 b3 wr (.slice A5 l5.length c5) l5 ∧ Fin3 b3 wr (.slice A6 l6.length c6) l6 ∧ Fin3 b3 wr (.slice A7 l7.length c7) l7 ∧ Fin3 b3 wr (.slice A8 l8.length c8) l8 ∧ Fin3 b3 wr (.slice A9 l9.length c9) l9 ∧ Fin3 b3 wr (.slice A10 l10.length c10) l10 by
                    rw [HL4.1, HL5, HL6, HL7, HL8, HL9, HL10]
                    exact ⟨HU4.out.over HV10.out, HU5.out.over HV10.out, HU6.out.over HV10.out, HU7.out.over HV10.out, HU8.out.over HV10.out, HU9.out.over HV10.out, HT10.out⟩)
                  have HAT := Lib.hid (show MAt wr m p ∧ MNew (b3 + 1) m p by
                    rw [hm, hp]
                    obtain ⟨x0, x1, x2, x3, x4, x5, x6⟩ := HX.out
                    exact ⟨⟨x0.1, x1.1, x2.1, x3.1, x4.1, x5.1, x6.1⟩, seven x0.2 x1.2 x2.2 x3.2 x4.2 x5.2 x6.2⟩)
                  have ci := HMC.out.blk.cell
                  have cr := HMC.out.res.cell
                  have fr := HMC.out.res.frozen
                  simp only [mCells] at ci
                  simp only [zero27] at cr
                  clear hm hp HL4 HL5 HL6 HL7 HL8 HL9 HL10 HX HU4 HU5 HU6 HU7 HU8 HU9 HT10 HM10 HO10 HV10 HC10
                  go_wp2
                  refine bodyPost_ret (results_cell_row rfl _ _ w.heap.size 27 (mCells m p).toArray (0, 0) _ rfl (set27 HMC.out.res rfl m p).1 Tryz.underlying27 rfl (by kernel_rfl)) rfl ?_
                  exact ⟨m, p, rfl, HOK, Lib.hid ⟨set27_at HAT.out.1 HAT.out.2 (Nat.lt_succ_of_lt HL3.out), fun i hi g hg => Nat.le_trans (Nat.le_succ_of_le (Nat.le_of_lt HL3.out)) (HAT.out.2 i hi g hg)⟩, Lib.hid (HMC.out.asks.base HF.out (set27 HMC.out.res rfl m p).2.2)⟩
end Go.Proofs.YtdbhlkejfecffaaGreatDoor
