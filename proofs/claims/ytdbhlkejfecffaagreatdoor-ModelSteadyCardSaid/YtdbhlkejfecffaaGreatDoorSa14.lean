/-
  models: cell.
  models: conv.
-/
import Derived.Test.YtdbhlkejfecffaaGreatDoorSa13
/-
  models: cell.
-/
namespace Go.Proofs.YtdbhlkejfecffaaGreatDoor
open Go.RowKit

theorem Blk.rdat0 {w : World} {b c : Nat} {l : List Int} (h : Blk w b (ints l) 3) (h1 : l.length ≤ c) (h2 : c ≤ maxLen) : RdAt w b 0 c l := by
  rw [← List.append_nil (ints l)] at h
  exact h.rdat h1 h2
theorem below_step {B : Nat} {a b c : World} (h : Below B a b ∧ B ≤ b.heap.size) (k : Below b.heap.size b c) : Below B a c ∧ B ≤ c.heap.size := ⟨h.1.trans (k.mono h.2), Nat.le_trans h.2 k.size⟩
theorem below_stepD {B : Nat} {a b c : World} (h : Below B a b ∧ B ≤ b.heap.size) {k : Nat} (e : c = b.drewN k) : Below B a c ∧ B ≤ c.heap.size := by rw [e]; exact ⟨below_drewN h.1 _, h.2⟩
theorem modV_C {m : MD} {p : MPl} {W V T Q : Nat} (hd : m.Dim W V T Q) : modV m p W = modC m p := (modC_V hd).symm
theorem matV_any (m : MD) (p : MPl) (W V T Q k : Nat) (hd : m.Dim W V T Q) (hk : k < T) (hc : m.mix.length ≤ p.mix.c) (w : World) : Calls Tryz.prog 37 #[.agg (modV m p W).toArray, .int .i64 k] w fun e w' => e = .returned (.slice (some ⟨p.mix.b, p.mix.o + W * W * k, none⟩) (W * W) (p.mix.c - W * W * k)) ∧ Below w.heap.size w w' := by
  rw [modV_C hd]
  exact mmatrix_any m p W k hd.width hd.w1 (hd.mat hk) hc (by rw [hd.mix]; have := hd.wwt; omega) w
theorem matR_any (m : MD) (p : MPl) (W V T Q k i : Nat) (hd : m.Dim W V T Q) (hk : k < T) (hi : i < W) (hc : m.mix.length ≤ p.mix.c) (w : World) : Calls Tryz.prog 32 #[.slice (some ⟨p.mix.b, p.mix.o + W * W * k, none⟩) (W * W) (p.mix.c - W * W * k), .int .i64 i, .int .i64 W] w fun e w' => e = .returned (.slice (some ⟨p.mix.b, p.mix.o + W * W * k + W * i, none⟩) W (p.mix.c - W * W * k - W * i)) ∧ w' = w :=
  mrow_any p.mix.b (p.mix.o + W * W * k) (p.mix.c - W * W * k) (W * W) i W (by have := hd.w1; omega) (Nat.mul_le_mul_left W hi) (by have := hd.mat hk; rw [Nat.mul_add, Nat.mul_one] at this; omega) (by have := Nat.mul_le_mul hd.w1.2 hd.w1.2; omega) w

set_option maxRecDepth 100000 in
set_option maxHeartbeats 3200000 in
theorem cell_any (m : MD) (p : MPl) (W V T Q : Nat) (hm : m.Ok) (hk2 : m.kind = 2) (hd : m.Dim W V T Q) (b o c n : Nat) (E : List (List Int)) (P : Nat → Pl) (hn : n = E.length) (hn2 : n ≤ 64) (w : World) (h : ModAt w m p) (he : EntsAt w b o E W P) :
    Calls Tryz.prog 50 #[.agg (modV m p W).toArray, .slice (some ⟨b, o, none⟩) n c] w fun e w' => ∃ g c, e = .returned (.slice (some ⟨g, 0, none⟩) W c) ∧ Hid (Below w.heap.size w w') ∧ Hid (RdAt w' g 0 c (cellH m W E E.length)) := by
  obtain ⟨wb, hwb, hbel, hblk⟩ : ∃ wb, w.alloc (.cells (modV m p W).toArray 27) = wb ∧ Below w.heap.size w wb ∧ Blk wb w.heap.size (modV m p W) 27 := ⟨_, rfl, (Below.refl _ _).alloc (Nat.le_refl _) _, heap_alloc_new w _⟩
  have hb1 := h.below hbel
  have HD := Lib.hid hb1
  have HM := Lib.hid hm
  have HDM := Lib.hid hd
  have HQ := Lib.hid (fun (wx : World) (hb : Below wb.heap.size wb wx) => (hblk.below hb).cell)
  have q0 := hblk.cell
  have HB := Lib.hid hbel
  have HWB := Lib.hid hwb
  have hw1 := hd.w1
  have HN := Lib.hid hn
  have HEL := Lib.hid (fun i (hi : i < n) => he.len i (by omega))
  have HER := Lib.hid (fun (wx : World) (hb : Below wb.heap.size wb wx) i (hi : i < n) => ((he.below hbel).below hb).rd i (by omega))
  have HEC := Lib.hid (fun (wx : World) (hb : Below wb.heap.size wb wx) i (hi : i < n) => ((he.below hbel).below hb).cell i (by omega))
  have HC1 := Lib.hid (hm.cut 1 (by decide))
  have HT := Lib.hid (hd.t2 hk2)
  have HMC := Lib.hid hb1.mix.1
  have HMX := Lib.hid (fun (k : Nat) (hk : k < T) wx => matV_any m p W V T Q k hd hk hb1.mix.1 wx)
  have HMX0 := Lib.hid (fun wx => HMX.out 0 (by have := HT.out; omega) wx)
  have HMX1 := Lib.hid (fun wx => HMX.out 1 (by have := HT.out; omega) wx)
  have HCC := Lib.hid (fun (wx : World) (hb : Below wb.heap.size wb wx) => (hb1.below hb).cut hm 1 (by decide))
  have HRA := Lib.hid (fun r (hr : r < W) wx => matR_any m p W V T Q 0 r hd (by have := HT.out; omega) hr hb1.mix.1 wx)
  have HRB := Lib.hid (fun r (hr : r < W) wx => matR_any m p W V T Q 1 r hd (by have := HT.out; omega) hr hb1.mix.1 wx)
  have HMA := Lib.hid (fun (wx : World) (hb : Below wb.heap.size wb wx) r (hr : r < W) => mixR_at (hb1.below hb) hd 0 r (by have := HT.out; omega) hr)
  have HMB := Lib.hid (fun (wx : World) (hb : Below wb.heap.size wb wx) r (hr : r < W) => mixR_at (hb1.below hb) hd 1 r (by have := HT.out; omega) hr)
  simp only [modV] at q0 HQ HMX0 HMX1 hwb ⊢
  obtain ⟨k1, hk1⟩ : ∃ k1, k1 = m.cut 1 := ⟨_, rfl⟩
  rw [← hk1] at HC1 HCC
  have HK1 := Lib.hid hk1
  clear hbel hblk h hd he hb1 hm hn hk2 hk1 HMX
  generalize hM0 : p.mix.o + W * W * 0 = M0 at *
  generalize hM1 : p.mix.o + W * W * 1 = M1 at *
  generalize hC0 : p.mix.c - W * W * 0 = C0 at *
  generalize hC1 : p.mix.c - W * W * 1 = C1 at *
  generalize hWW : W * W = ww at *
  clear hM0 hM1 hC0 hC1 hWW
  obtain ⟨w7, hmk, hb7, hk7⟩ := make_zeros W (by omega) wb
  have HB7 := Lib.hid hb7
  have HK7 := Lib.hid (show RdAt w7 wb.heap.size 0 W (cellH m W E 0) from by
    have hk8 : Blk w7 wb.heap.size (ints (List.replicate W 0) ++ []) 3 := by rw [List.append_nil]; exact hk7
    exact hk8.rdat (by rw [List.length_replicate]; exact Nat.le_refl _) (by unfold maxLen; omega))
  clear hb7 hk7
  go_enter Tryz.func50, Tryz.ntmps50
  go_wp2
  clear q0 hmk
  go_loopg [6, 18] n (fun gk s6 s18 wx => ∃ (i g c : Nat), s18 = .int .i64 i ∧ s6 = .slice (some ⟨g, 0, none⟩) W c ∧ i ≤ n ∧ Hid (Below wb.heap.size wb wx) ∧ Hid (RdAt wx g 0 c (cellH m W E i)) ∧ gk = n - i)
  case atStart => exact ⟨0, _, _, rfl, rfl, Nat.zero_le _, HB7, HK7, rfl⟩
  case round =>
    obtain ⟨i, g, c6, rfl, rfl, hi, HBi, HHi, rfl⟩ := hrel
    by_cases hlt : i < n
    · have q1 := HQ.out wr HBi.out
      have c1 := HEC.out wr HBi.out i hlt
      obtain ⟨w8, hmk, hb8, hk8⟩ := make_zeros W (by omega) wr
      have HB8 := Lib.hid (HBi.out.trans (hb8.mono HBi.out.size))
      have HX8 := Lib.hid hb8
      have HK8 := Lib.hid hk8
      have HG8 := Lib.hid (show wb.heap.size ≤ wr.heap.size from HBi.out.size)
      have HHR := Lib.hid (fun (wx : World) (hb : Below wr.heap.size wr wx) => HHi.out.below hb)
      have HEK := Lib.hid (fun (wx : World) (hb : Below wr.heap.size wr wx) => HER.out wx (HBi.out.trans (hb.mono HBi.out.size)) i hlt)
      have HEKL := Lib.hid (HEL.out i hlt)
      have HHL := Lib.hid (cellH_len m W E i)
      have HBW := Lib.hid (fun (wx : World) (hb : Below wr.heap.size wr wx) => HBi.out.trans (hb.mono HBi.out.size))
      obtain ⟨fx, hfx⟩ : ∃ fx : Int → Nat → Int, fx = fun _ o => min (max (shiftI (w32 (wrap64 (dotI (mixR m W 0 o) (cellH m W E i) + dotI (mixR m W 1 o) (eAt E i)))) k1) (-1000)) 1000 := ⟨_, rfl⟩
      have HFX := Lib.hid (fun x o => show fx x o = min (max (shiftI (w32 (wrap64 (dotI (mixR m W 0 o) (cellH m W E i) + dotI (mixR m W 1 o) (eAt E i)))) k1) (-1000)) 1000 by rw [hfx])
      have HNX := Lib.hid (show cellH m W E (i + 1) = stL fx (List.replicate W 0) W by rw [hfx, HK1.out]; rfl)
      generalize cellH m W E i = hv at *
      generalize eAt E i = ev at *
      generalize hgr : wr.heap.size = gr at hmk HX8 HK8 HG8 HHR HEK HBW
      have HGR := Lib.hid hgr
      clear hb8 hk8 hfx hgr
      go_upto_region 7 with fail
      clear q1 c1 hmk
      go_wp2
      go_loopg [26] W (fun gk s26 wx => ∃ r : Nat, s26 = .int .i64 r ∧ r ≤ W ∧ Hid (Below gr wr wx) ∧ Hid (Blk wx gr (ints (stL fx (List.replicate W 0) r)) 3) ∧ gk = W - r)
      case atStart => exact ⟨0, rfl, Nat.zero_le _, HX8, HK8, rfl⟩
      case round =>
        obtain ⟨r, rfl, hr, HBr, HKr, rfl⟩ := hrel
        have hll := stL_len fx (List.replicate W 0) r
        rw [List.length_replicate] at hll
        have HLL := Lib.hid hll
        clear hll
        by_cases hltr : r < W
        · have HBB := Lib.hid (HBW.out wr HBr.out)
          have HGB := Lib.hid (And.intro HBr.out (show gr ≤ wr.heap.size by rw [← HGR.out]; exact HBr.out.size))
          have HS1 := Lib.hid (fun (wx : World) (hb : Below wb.heap.size wb wx) => HQ.out wx hb)
          have c1 : wr.cell? ⟨gr, r, none⟩ = some (.int .i64 ((stL fx (List.replicate W 0) r).getD r 0)) := by
            rw [HKr.out.cell r]; simp [ints, List.getD, HLL.out, hltr]
          have HS := Lib.hid (show stL fx (List.replicate W 0) (r + 1) = (stL fx (List.replicate W 0) r).set r (min (max (shiftI (w32 (wrap64 (dotI (mixR m W 0 r) hv + dotI (mixR m W 1 r) ev))) k1) (-1000)) 1000) by rw [← HFX.out ((stL fx (List.replicate W 0) r).getD r 0) r]; rfl)
          have HR0 := Lib.hid (fun wx => HRA.out r hltr wx)
          have HR1 := Lib.hid (fun wx => HRB.out r hltr wx)
          have HM0 := Lib.hid (fun (wx : World) (hb : Below wb.heap.size wb wx) => HMA.out wx hb r hltr)
          have HM1 := Lib.hid (fun (wx : World) (hb : Below wb.heap.size wb wx) => HMB.out wx hb r hltr)
          have HL0 := Lib.hid (mixR_len HDM.out 0 r (by have := HT.out; omega) hltr)
          have HL1 := Lib.hid (mixR_len HDM.out 1 r (by have := HT.out; omega) hltr)
          generalize mixR m W 0 r = m0 at *
          generalize mixR m W 1 r = m1 at *
          clear c1
          go_upto_region 10 with fail
          go_region_held3 (fun wy : World => (∀ o, wy.cell? ⟨w.heap.size, o, none⟩ = ([Value.int .i64 m.kind, .int .i64 m.vocab, .int .i64 W, .int .i64 m.top, .slice (some ⟨p.cuts.b, p.cuts.o, none⟩) 4 p.cuts.c, .slice (some ⟨p.embed.b, p.embed.o, none⟩) m.embed.length p.embed.c, .slice (some ⟨p.place.b, p.place.o, none⟩) m.place.length p.place.c, .slice (some ⟨p.mix.b, p.mix.o, none⟩) m.mix.length p.mix.c, .slice (some ⟨p.out.b, p.out.o, none⟩) m.out.length p.out.c, .slice (some ⟨p.soft.b, p.soft.o, none⟩) m.soft.length p.soft.c, .slice (some ⟨p.odds.b, p.odds.o, none⟩) m.odds.length p.odds.c] : List Value)[o]?)) (first | exact HS1.out _ HB13.out | exact HS1.out _ HB12.out | exact HS1.out _ HB11.out | exact HS1.out _ HB10.out | exact HS1.out _ HBB.out.drew) (first
            | (go_at_call 34; refine (mwrap_any _ _).mono ?_; rintro e wz ⟨rfl, hz⟩; subst wz; dsimp only)
            | (go_at_call 36; have _g := HB12; clear _g; refine (mdot_any m1 ev _ _ _ _ _ _ W W _ (HM1.out _ HB12.out) (HEK.out _ HG12.out.1) HL1.out.symm HEKL.out.symm (Nat.le_refl _) (by omega)).mono ?_; rintro e w13 ⟨rfl, k13, hw13⟩; have HB13 := Lib.hid (show Below wb.heap.size wb w13 by rw [hw13]; exact below_drewN HB12.out _); have HG13 := Lib.hid (below_stepD HG12.out hw13); have HX13 := Lib.hid (below_stepD HX12.out hw13); clear hw13; dsimp only)
            | (go_at_call 32; have _g := HB12; clear _g; refine (HR1.out _).mono ?_; rintro e wz ⟨rfl, hz⟩; subst wz; dsimp only)
            | (go_at_call 37; have _g := HB11; clear _g; refine (HMX1.out _).mono ?_; rintro e w12 ⟨rfl, hb12⟩; have HB12 := Lib.hid (HB11.out.trans (hb12.mono HB11.out.size)); have HG12 := Lib.hid (below_step HG11.out hb12); have HX12 := Lib.hid (below_step HX11.out hb12); clear hb12; dsimp only)
            | (go_at_call 36; have _g := HB10; clear _g; refine (mdot_any m0 hv _ _ _ _ _ _ W W _ (HM0.out _ HB10.out) (HHR.out _ HG10.out.1) HL0.out.symm HHL.out.symm (Nat.le_refl _) (by omega)).mono ?_; rintro e w11 ⟨rfl, k11, hw11⟩; have HB11 := Lib.hid (show Below wb.heap.size wb w11 by rw [hw11]; exact below_drewN HB10.out _); have HG11 := Lib.hid (below_stepD HG10.out hw11); have HX11 := Lib.hid (below_stepD HX10.out hw11); clear hw11; dsimp only)
            | (go_at_call 32; have _g := HB10; clear _g; refine (HR0.out _).mono ?_; rintro e wz ⟨rfl, hz⟩; subst wz; dsimp only)
            | (go_at_call 37; refine (HMX0.out _).mono ?_; rintro e w10 ⟨rfl, hb10⟩; have HB10 := Lib.hid (show Below wb.heap.size wb w10 from HBB.out.trans ((below_undrew hb10).mono HBB.out.size)); have HG10 := Lib.hid (below_step HGB.out (below_undrew hb10)); have HX10 := Lib.hid (And.intro (below_undrew hb10) (below_undrew hb10).size); clear hb10; dsimp only))
          have HK13 := Lib.hid (show Blk w13 gr (ints (stL fx (List.replicate W 0) r)) 3 from HKr.out.below HX13.out.1)
          have f1 := HK13.out.frozen r
          have c1 : w13.cell? ⟨gr, r, none⟩ = some (.int .i64 ((stL fx (List.replicate W 0) r).getD r 0)) := by
            rw [HK13.out.cell r]; simp [ints, List.getD, HLL.out, hltr]
          have q13 := HQ.out w13 HB13.out
          have c2 := HCC.out w13 HB13.out
          have tr1 : (r : Int) < (W : Int) := by omega
          generalize (stL fx (List.replicate W 0) r).getD r 0 = yv at c1
          go_wp2_with (go_at_call 35; refine (mshift_any _ _ ⟨HC1.out.1, HC1.out.2.1⟩ _).mono ?_; rintro e wz ⟨rfl, hz⟩; subst wz)
          go_roundg (W - (r + 1))
          case measure => omega
          case rel =>
            refine ⟨r + 1, by go_num, by omega, Lib.hid (HG13.out.1.setCell (by rw [← HGR.out]; exact Nat.le_refl _) _), Lib.hid ?_, rfl⟩
            have := HK13.out.set r (.int .i64 (min (max (shiftI (w32 (wrap64 (dotI m0 hv + dotI m1 ev))) k1) (-1000)) 1000))
            rw [ints_set, ← HS.out] at this
            exact this
        · obtain rfl : W = r := by omega
          go_wp2
          go_roundg (n - (i + 1))
          case measure => omega
          case rel =>
            refine ⟨i + 1, gr, W, by go_num, rfl, by omega, Lib.hid (HBW.out _ HBr.out), Lib.hid ?_, rfl⟩
            rw [HNX.out]
            exact HKr.out.rdat0 (by rw [HLL.out]; exact Nat.le_refl _) (by unfold maxLen; omega)
    · obtain rfl : n = i := by omega
      go_wp2
      go_ret
      exact ⟨_, _, rfl, Lib.hid (HB.out.trans (HBi.out.mono HB.out.size)), Lib.hid (by rw [← HN.out]; exact HHi.out)⟩
end Go.Proofs.YtdbhlkejfecffaaGreatDoor
/-
  models: conv.
-/
namespace Go.Proofs.YtdbhlkejfecffaaGreatDoor
open Go.RowKit

set_option maxRecDepth 100000 in
set_option maxHeartbeats 3200000 in
theorem conv_any (m : MD) (p : MPl) (W V T Q : Nat) (hm : m.Ok) (hd : m.Dim W V T Q) (b o c n : Nat) (E : List (List Int)) (P : Nat → Pl) (hn : n = E.length) (hn2 : n ≤ 64) (w : World) (h : ModAt w m p) (he : EntsAt w b o E W P) :
    Calls Tryz.prog 51 #[.agg (modV m p W).toArray, .slice (some ⟨b, o, none⟩) n c] w fun e w' => ∃ g c, e = .returned (.slice (some ⟨g, 0, none⟩) W c) ∧ Hid (Below w.heap.size w w') ∧ Hid (RdAt w' g 0 c (convOut m W T E)) := by
  obtain ⟨wb, hwb, hbel, hblk⟩ : ∃ wb, w.alloc (.cells (modV m p W).toArray 27) = wb ∧ Below w.heap.size w wb ∧ Blk wb w.heap.size (modV m p W) 27 := ⟨_, rfl, (Below.refl _ _).alloc (Nat.le_refl _) _, heap_alloc_new w _⟩
  have hb1 := h.below hbel
  have HQ := Lib.hid (fun (wx : World) (hb : Below wb.heap.size wb wx) => (hblk.below hb).cell)
  have q0 := hblk.cell
  have HB := Lib.hid hbel
  have HWB := Lib.hid hwb
  have hw1 := hd.w1
  have ht1 := hd.t1
  have HN := Lib.hid hn
  have HEL := Lib.hid (fun i (hi : i < n) => he.len i (by omega))
  have HER := Lib.hid (fun (wx : World) (hb : Below wb.heap.size wb wx) i (hi : i < n) => ((he.below hbel).below hb).rd i (by omega))
  have HEC := Lib.hid (fun (wx : World) (hb : Below wb.heap.size wb wx) i (hi : i < n) => ((he.below hbel).below hb).cell i (by omega))
  have HC1 := Lib.hid (hm.cut 1 (by decide))
  have HMX := Lib.hid (fun (k : Nat) (hk : k < T) wx => matV_any m p W V T Q k hd hk hb1.mix.1 wx)
  have HCC := Lib.hid (fun (wx : World) (hb : Below wb.heap.size wb wx) => (hb1.below hb).cut hm 1 (by decide))
  have HRA := Lib.hid (fun k (hk : k < T) r (hr : r < W) wx => matR_any m p W V T Q k r hd hk hr hb1.mix.1 wx)
  have HMA := Lib.hid (fun (wx : World) (hb : Below wb.heap.size wb wx) k (hk : k < T) r (hr : r < W) => mixR_at (hb1.below hb) hd k r hk hr)
  have HML := Lib.hid (fun k (hk : k < T) r (hr : r < W) => mixR_len hd k r hk hr)
  have hww1 : 1 * 1 ≤ W * W := Nat.mul_le_mul hw1.1 hw1.1
  have hww2 : W * W ≤ 5 * 5 := Nat.mul_le_mul hw1.2 hw1.2
  have hcww : ((W : Int) * (W : Int)) = ((W * W : Nat) : Int) := by rw [← Int.natCast_mul]
  have HRW := Lib.hid (fun wx => rows_any (some ⟨p.mix.b, p.mix.o, none⟩) m.mix.length p.mix.c ((W * W : Nat) : Int) T wx (by omega) (by rw [hd.mix, Int.natCast_mul (W * W) T]; exact Int.mul_emod_right _ _) (by rw [hd.mix, Int.natCast_mul (W * W) T]; exact Int.mul_ediv_cancel_left _ (by omega)) (by omega))
  simp only [modV] at q0 HQ HMX hwb ⊢
  obtain ⟨k1, hk1⟩ : ∃ k1, k1 = m.cut 1 := ⟨_, rfl⟩
  rw [← hk1] at HC1 HCC
  have HK1 := Lib.hid hk1
  clear hbel hblk h hd he hb1 hm hn hk1
  generalize hWW : W * W = ww at *
  have ew : wrap64 ((W : Int) * (W : Int)) = (ww : Int) := by rw [hcww, wrap64_in (by omega)]
  have ew' : IntKind.i64.wrap ((W : Int) * (W : Int)) = (ww : Int) := by rw [hcww, IntWalk.i64_in _ (by omega)]
  clear hWW hcww
  obtain ⟨w7, hmk, hb7, hk7⟩ := make_zeros W (by omega) wb
  have HB7 := Lib.hid hb7
  have HK7 := Lib.hid hk7
  obtain ⟨fx, hfx⟩ : ∃ fx : Int → Nat → Int, fx = fun _ o => max (shiftI (convS m W T E o T) k1) 0 := ⟨_, rfl⟩
  have HFX := Lib.hid (fun x o => show fx x o = max (shiftI (convS m W T E o T) k1) 0 by rw [hfx])
  have HOUT := Lib.hid (show convOut m W T E = stL fx (List.replicate W 0) W by rw [hfx, HK1.out]; rfl)
  clear hb7 hk7 hfx
  generalize hgb : wb.heap.size = gb at hmk HB7 HK7 HQ HER HEC HCC HMA
  have HGB := Lib.hid hgb
  clear hgb
  go_enter Tryz.func51, Tryz.ntmps51
  go_upto_region 4 with (go_at_call 33; refine (HRW.out _).mono ?_; rintro e wz ⟨rfl, hz⟩; subst wz)
  clear q0 hmk ew ew'
  go_wp2
  go_loopg [24] W (fun gk s24 wx => ∃ r : Nat, s24 = .int .i64 r ∧ r ≤ W ∧ Hid (Below gb wb wx) ∧ Hid (Blk wx gb (ints (stL fx (List.replicate W 0) r)) 3) ∧ gk = W - r)
  case atStart => exact ⟨0, rfl, Nat.zero_le _, HB7, HK7, rfl⟩
  case round =>
    obtain ⟨r, rfl, hr, HBr, HKr, rfl⟩ := hrel
    have hll := stL_len fx (List.replicate W 0) r
    rw [List.length_replicate] at hll
    have HLL := Lib.hid hll
    clear hll
    by_cases hltr : r < W
    · go_wp2
      go_loopg [9, 28] T (fun gk s9 s28 wx => ∃ j : Nat, s28 = .int .i64 j ∧ j ≤ T ∧ s9 = .int .i64 (convS m W T E r j) ∧ Hid (Below wr.heap.size wr wx) ∧ gk = T - j)
      case atStart => exact ⟨0, rfl, Nat.zero_le _, rfl, Lib.hid (Below.refl _ _), rfl⟩
      case round =>
        obtain ⟨j, rfl, hj, rfl, HX, rfl⟩ := hrel
        by_cases hltj : j < T
        · have tj : decide ((j : Int) < (T : Int)) = true := decide_eq_true (by omega)
          obtain ⟨d, hd⟩ : ∃ d : Int, d = (n : Int) - (T : Int) := ⟨_, rfl⟩
          have hdb : -4 ≤ d ∧ d ≤ 64 := by omega
          have ed : IntKind.i64.wrap ((n : Int) - (T : Int)) = d := by rw [IntWalk.i64_in _ (by omega)]; omega
          have ed' : wrap64 ((n : Int) - (T : Int)) = d := by rw [wrap64_in (by omega)]; omega
          by_cases hcv : T ≤ n + j
          · have HSV := Lib.hid (show convS m W T E r (j + 1) = w32 (wrap64 (convS m W T E r j + dotI (mixR m W j r) (eAt E (n + j - T)))) by rw [convS, ← HN.out, if_pos hcv])
            obtain ⟨ii, hii⟩ : ∃ ii, ii = n + j - T := ⟨_, rfl⟩
            rw [← hii] at HSV
            have ex : IntKind.i64.wrap (d + (j : Int)) = (ii : Int) := by rw [IntWalk.i64_in _ (by omega)]; omega
            have ex' : wrap64 (d + (j : Int)) = (ii : Int) := by rw [wrap64_in (by omega)]; omega
            have ti : ii < n := by omega
            have hHX := HX.out
            have HBX := Lib.hid (show Below gb wb wr from by first | exact HBr.out.trans (hHX.mono (by rw [← HGB.out]; exact HBr.out.size)))
            have HS1 := Lib.hid (fun (wx : World) (hb : Below gb wb wx) => And.intro (HQ.out wx hb) (HEC.out wx hb ii ti))
            have HMX1 := Lib.hid (fun wx => HMX.out j hltj wx)
            have HRA1 := Lib.hid (fun wx => HRA.out j hltj r hltr wx)
            have HMA1 := Lib.hid (fun wx (hb : Below gb wb wx) => HMA.out wx hb j hltj r hltr)
            have HML1 := Lib.hid (HML.out j hltj r hltr)
            have HEI := Lib.hid (fun wx (hb : Below gb wb wx) => HER.out wx hb ii ti)
            have HEIL := Lib.hid (HEL.out ii ti)
            have HGS := Lib.hid (show gb ≤ wr.heap.size from Nat.le_trans (by rw [← HGB.out]; exact HBr.out.size) hHX.size)
            generalize mixR m W j r = mr at *
            generalize eAt E ii = ev at *
            generalize p.mix.o + ww * j = M0 at *
            generalize p.mix.c - ww * j = C0 at *
            generalize hcs : convS m W T E r j = cs at *
            have HCS := Lib.hid hcs
            have tx : decide (0 ≤ (ii : Int)) = true := decide_eq_true (by omega)
            clear hd hii hdb hcv hHX hcs
            go_upto_region 13 with fail
            go_region_held3 (fun wy : World => (∀ q, wy.cell? ⟨w.heap.size, q, none⟩ = ([Value.int .i64 m.kind, .int .i64 m.vocab, .int .i64 W, .int .i64 m.top, .slice (some ⟨p.cuts.b, p.cuts.o, none⟩) 4 p.cuts.c, .slice (some ⟨p.embed.b, p.embed.o, none⟩) m.embed.length p.embed.c, .slice (some ⟨p.place.b, p.place.o, none⟩) m.place.length p.place.c, .slice (some ⟨p.mix.b, p.mix.o, none⟩) m.mix.length p.mix.c, .slice (some ⟨p.out.b, p.out.o, none⟩) m.out.length p.out.c, .slice (some ⟨p.soft.b, p.soft.o, none⟩) m.soft.length p.soft.c, .slice (some ⟨p.odds.b, p.odds.o, none⟩) m.odds.length p.odds.c] : List Value)[q]?) ∧ wy.cell? ⟨b, o + ii, none⟩ = some (.slice (some ⟨(P ii).b, (P ii).o, none⟩) W (P ii).c)) (first | exact HS1.out _ HB11.out | exact HS1.out _ HB10.out | exact HS1.out _ HBX.out.drew) (first
              | (go_at_call 34; refine (mwrap_any _ _).mono ?_; rintro e wz ⟨rfl, hz⟩; subst wz; dsimp only)
              | (go_at_call 36; refine (mdot_any mr ev _ _ _ _ _ _ W W _ (HMA1.out _ HB10.out) (HEI.out _ HB10.out) HML1.out.symm HEIL.out.symm (Nat.le_refl _) (by omega)).mono ?_; rintro e w11 ⟨rfl, k11, hw11⟩; have HB11 := Lib.hid (show Below gb wb w11 by rw [hw11]; exact below_drewN HB10.out _); have HX11 := Lib.hid (below_stepD HX10.out hw11); clear hw11; dsimp only)
              | (go_at_call 32; refine (HRA1.out _).mono ?_; rintro e wz ⟨rfl, hz⟩; subst wz; dsimp only)
              | (go_at_call 37; refine (HMX1.out _).mono ?_; rintro e w10 ⟨rfl, hb10⟩; have HB10 := Lib.hid (show Below gb wb w10 from HBX.out.trans ((below_undrew hb10).mono HGS.out)); have HX10 := Lib.hid (And.intro (below_undrew hb10) (below_undrew hb10).size); clear hb10; dsimp only))
            go_wp2
            go_roundg (T - (j + 1))
            case measure => omega
            case rel => exact ⟨j + 1, by go_num, by omega, by rw [HSV.out, wrapEq], Lib.hid (HX.out.trans (HX11.out.1.mono HX.out.size)), rfl⟩
          · have HSV := Lib.hid (show convS m W T E r (j + 1) = convS m W T E r j by rw [convS, ← HN.out, if_neg hcv])
            obtain ⟨x, hx⟩ : ∃ x : Int, x = d + (j : Int) := ⟨_, rfl⟩
            have ex : IntKind.i64.wrap (d + (j : Int)) = x := by rw [IntWalk.i64_in _ (by omega)]; omega
            have ex' : wrap64 (d + (j : Int)) = x := by rw [wrap64_in (by omega)]; omega
            have tx : decide (0 ≤ x) = false := decide_eq_false (by omega)
            have tx2 : x < 0 := by omega
            clear hd hx hdb hcv
            go_wp2
            go_roundg (T - (j + 1))
            case measure => omega
            case rel => exact ⟨j + 1, by go_num, by omega, by rw [HSV.out], HX, rfl⟩
        · obtain rfl : T = j := by omega
          have HKX := Lib.hid (HKr.out.below HX.out)
          have HBX := Lib.hid (HBr.out.trans (HX.out.mono (by rw [← HGB.out]; exact HBr.out.size)))
          have HS := Lib.hid (show stL fx (List.replicate W 0) (r + 1) = (stL fx (List.replicate W 0) r).set r (max (shiftI (convS m W T E r T) k1) 0) by rw [← HFX.out ((stL fx (List.replicate W 0) r).getD r 0) r]; rfl)
          have f1 := HKX.out.frozen r
          have c1 : wr.cell? ⟨gb, r, none⟩ = some (.int .i64 ((stL fx (List.replicate W 0) r).getD r 0)) := by
            rw [HKX.out.cell r]; simp [ints, List.getD, HLL.out, hltr]
          have q13 := HQ.out wr HBX.out
          have c2 := HCC.out wr HBX.out
          have tr1 : (r : Int) < (W : Int) := by omega
          generalize (stL fx (List.replicate W 0) r).getD r 0 = yv at c1
          generalize convS m W T E r T = cs at *
          go_wp2_with (go_at_call 35; refine (mshift_any _ _ ⟨HC1.out.1, HC1.out.2.1⟩ _).mono ?_; rintro e wz ⟨rfl, hz⟩; subst wz)
          go_roundg (W - (r + 1))
          case measure => omega
          case rel =>
            refine ⟨r + 1, by go_num, by omega, Lib.hid (HBX.out.setCell (Nat.le_refl _) _), Lib.hid ?_, rfl⟩
            have := HKX.out.set r (.int .i64 (max (shiftI cs k1) 0))
            rw [ints_set, ← HS.out] at this
            exact this
    · obtain rfl : W = r := by omega
      go_wp2
      go_ret
      exact ⟨_, _, rfl, Lib.hid (HB.out.trans (by have := HBr.out; rw [← HGB.out] at this; exact this.mono HB.out.size)), Lib.hid (by rw [HOUT.out]; exact HKr.out.rdat0 (by rw [HLL.out]; exact Nat.le_refl _) (by unfold maxLen; omega))⟩
end Go.Proofs.YtdbhlkejfecffaaGreatDoor
