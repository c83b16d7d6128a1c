/-
  models: entry.
-/
import Derived.Test.YtdbhlkejfecffaaGreatDoorSa10
import Derived.Test.YtdbhlkejfecffaaGreatDoorSa11
/-
  models: entry.
-/
namespace Go.Proofs.YtdbhlkejfecffaaGreatDoor
open Go.RowKit

/-- The sizes of a model as natural numbers. -/
structure MD.Dim (m : MD) (W V T Q : Nat) : Prop where
  width : m.width = W
  vocab : m.vocab = V
  w1 : 1 ≤ W ∧ W ≤ 5
  v1 : 2 ≤ V ∧ V ≤ 16
  cuts : m.cuts.length = 4
  embed : m.embed.length = W * V
  out : m.out.length = W * V
  place : m.place.length = W * Q
  q1 : 1 ≤ Q ∧ Q ≤ 16
  mix : m.mix.length = W * W * T
  t1 : 1 ≤ T ∧ T ≤ 4
  t3 : m.kind = 1 → T = 3
  t2 : m.kind = 2 → T = 2
theorem MD.Ok.dim {m : MD} (h : m.Ok) : ∃ W V T Q, m.Dim W V T Q := by
  obtain ⟨W, hW⟩ : ∃ W : Nat, m.width = W := ⟨m.width.toNat, by have := h.width; omega⟩
  obtain ⟨V, hV⟩ : ∃ V : Nat, m.vocab = V := ⟨m.vocab.toNat, by have := h.vocab; omega⟩
  have h1 := h.width; have h2 := h.vocab; have h3 := h.embed; have h4 := h.out; have h5 := h.place; have h6 := h.mix
  rw [hW] at h1 h3 h4 h5 h6
  rw [hV] at h2 h3 h4
  rw [← Int.natCast_mul] at h3 h4 h6
  have hw : 0 < W := by omega
  have hww : 0 < W * W := Nat.mul_pos hw hw
  have a1 : (m.place.length : Int) % (W : Int) = ((m.place.length % W : Nat) : Int) := rfl
  have a2 : (m.place.length : Int) / (W : Int) = ((m.place.length / W : Nat) : Int) := rfl
  have a3 : (m.mix.length : Int) % ((W * W : Nat) : Int) = ((m.mix.length % (W * W) : Nat) : Int) := rfl
  have a4 : (m.mix.length : Int) / ((W * W : Nat) : Int) = ((m.mix.length / (W * W) : Nat) : Int) := rfl
  have e5 := Nat.div_add_mod m.place.length W
  have e6 := Nat.div_add_mod m.mix.length (W * W)
  rw [a1, a2] at h5
  rw [a3, a4] at h6
  refine ⟨W, V, m.mix.length / (W * W), m.place.length / W, ⟨hW, hV, by omega, by omega, h.cuts, by rw [Nat.mul_comm]; omega, by rw [Nat.mul_comm]; omega, by omega, by omega, by omega, by omega, fun k => by have := h6.2.1 k; omega, fun k => by have := h6.2.2.1 k; omega⟩⟩
section
variable {m : MD} {W V T Q : Nat}
theorem MD.Dim.qe (h : m.Dim W V T Q) : m.place.length / W = Q := by rw [h.place]; exact Nat.mul_div_cancel_left Q (by have := h.w1; omega)
theorem MD.Dim.te (h : m.Dim W V T Q) : m.mix.length / (W * W) = T := by
  rw [h.mix]; exact Nat.mul_div_cancel_left T (Nat.mul_pos (by have := h.w1; omega) (by have := h.w1; omega))
theorem MD.Dim.wv (h : m.Dim W V T Q) : W * V ≤ 5 * 16 := Nat.mul_le_mul h.w1.2 h.v1.2
theorem MD.Dim.wq (h : m.Dim W V T Q) : W * Q ≤ 5 * 16 := Nat.mul_le_mul h.w1.2 h.q1.2
theorem MD.Dim.wwt (h : m.Dim W V T Q) : W * W * T ≤ 25 * 4 := Nat.mul_le_mul (Nat.mul_le_mul h.w1.2 h.w1.2) h.t1.2
theorem MD.Dim.row (_h : m.Dim W V T Q) {k n : Nat} (hk : k < n) : W * (k + 1) ≤ W * n := Nat.mul_le_mul_left W hk
theorem MD.Dim.mat (h : m.Dim W V T Q) {k : Nat} (hk : k < T) : W * W * (k + 1) ≤ m.mix.length := by rw [h.mix]; exact Nat.mul_le_mul_left (W * W) hk
end
theorem MD.Ok.cut {m : MD} (hm : m.Ok) (i : Nat) (hi : i < 4) : 1 ≤ m.cut i ∧ m.cut i ≤ 15 ∧ m.cuts.getD i 0 = (m.cut i : Int) := by
  have hl := hm.cuts
  have := hm.cuts' (m.cuts.getD i 0) (getD_mem (by omega))
  unfold MD.cut
  omega
theorem ModAt.cut {w : World} {m : MD} {p : MPl} (h : ModAt w m p) (hm : m.Ok) (i : Nat) (hi : i < 4) : w.cell? ⟨p.cuts.b, p.cuts.o + i, none⟩ = some (.int .i64 (m.cut i : Int)) := by
  rw [← (hm.cut i hi).2.2]
  exact h.cuts.2.2 i (by rw [hm.cuts]; exact hi)
theorem entJ_at (m : MD) (W t a k i : Nat) (hi : i < W) : entJ m W t a (W * k + i) = shiftI (dotI (mixR m W k i) (xL m W t a)) (m.cut 0) := by
  unfold entJ
  rw [Nat.mul_add_div (by omega), Nat.div_eq_of_lt hi, Nat.mul_add_mod, Nat.mod_eq_of_lt hi, Nat.add_zero]
theorem mixR_at {w : World} {m : MD} {p : MPl} {W V T Q : Nat} (h : ModAt w m p) (hd : m.Dim W V T Q) (k i : Nat) (hk : k < T) (hi : i < W) : RdAt w p.mix.b (p.mix.o + W * W * k + W * i) (p.mix.c - W * W * k - W * i) (mixR m W k i) :=
  (h.mix.row k (W * W) (hd.mat hk)).row i W (by rw [rowL_len (hd.mat hk)]; exact Nat.mul_le_mul_left W hi)
theorem mixR_len {m : MD} {W V T Q : Nat} (hd : m.Dim W V T Q) (k i : Nat) (hk : k < T) (hi : i < W) : (mixR m W k i).length = W :=
  rowL_len (by rw [rowL_len (hd.mat hk)]; exact Nat.mul_le_mul_left W hi)
theorem xL_len {m : MD} {W V T Q : Nat} (hd : m.Dim W V T Q) (t a : Nat) (ht : t < V) : (xL m W t a).length = W := by
  rw [xL, stL_len]; exact rowL_len (by rw [hd.embed]; exact hd.row ht)

set_option maxRecDepth 100000 in
set_option maxHeartbeats 3200000 in
theorem mentry_any (m : MD) (p : MPl) (W V T Q : Nat) (hm : m.Ok) (hd : m.Dim W V T Q) (t a : Nat) (ht : t < V) (ha : a < 1000) (w : World) (h : ModAt w m p) :
    Calls Tryz.prog 20 #[.agg (modC m p).toArray, .int .i64 t, .int .i64 a] w fun e w' => ∃ g c, e = .returned (.slice (some ⟨g, 0, none⟩) (lenE m W) c) ∧ Hid (Below w.heap.size w w') ∧ Hid (RdAt w' g 0 c (entL m W t a) ∧ w.heap.size ≤ g) := by
  obtain ⟨wb, hwb, hbel, hblk⟩ : ∃ wb, w.alloc (.cells (modC m p).toArray 27) = wb ∧ Below w.heap.size w wb ∧ Blk wb w.heap.size (modC m p) 27 := ⟨_, rfl, (Below.refl _ _).alloc (Nat.le_refl _) _, heap_alloc_new w _⟩
  have hb1 := h.below hbel
  have hel : (rowL m.embed t W).length = W := rowL_len (by rw [hd.embed]; exact hd.row ht)
  have HCL := Lib.hid (iclone_blk (rowL m.embed t W) _ _ _ W hel.symm wb (hb1.embed.row t W (by rw [hd.embed]; exact hd.row ht)) (by have := hd.w1; omega) (by have := hd.w1; omega))
  have hqm : a % Q < Q := Nat.mod_lt _ (by have := hd.q1; omega)
  have HRE := Lib.hid (fun wx => mrow_any p.embed.b p.embed.o p.embed.c m.embed.length t W (by have := hd.w1; omega) (by rw [hd.embed]; exact hd.row ht) hb1.embed.1 (by rw [hd.embed]; have := hd.wv; omega) wx)
  have HRP := Lib.hid (fun wx => mrow_any p.place.b p.place.o p.place.c m.place.length (a % Q) W (by have := hd.w1; omega) (by rw [hd.place]; exact hd.row hqm) hb1.place.1 (by rw [hd.place]; have := hd.wq; omega) wx)
  have HRW := Lib.hid (fun wx => rows_any (some ⟨p.place.b, p.place.o, none⟩) m.place.length p.place.c W Q wx (by have := hd.w1; omega) (by rw [hd.place, Int.natCast_mul]; exact Int.mul_emod_right _ _) (by rw [hd.place, Int.natCast_mul]; exact Int.mul_ediv_cancel_left _ (by have := hd.w1; omega)) (by have := hd.q1; omega))
  have HMX := Lib.hid (fun (k : Nat) (hk : k < T) wx => mmatrix_any m p W k hd.width hd.w1 (hd.mat hk) hb1.mix.1 (by rw [hd.mix]; have := hd.wwt; omega) wx)
  have HRM := Lib.hid (fun (k i : Nat) (hk : k < T) (hi : i < W) wx => mrow_any p.mix.b (p.mix.o + W * W * k) (p.mix.c - W * W * k) (W * W) i W (by have := hd.w1; omega) (Nat.mul_le_mul_left W hi) (by have := hb1.mix.1; have := hd.mat hk; rw [Nat.mul_add, Nat.mul_one] at this; omega) (by have := Nat.mul_le_mul hd.w1.2 hd.w1.2; omega) wx)
  have HM := Lib.hid hm
  have HDM := Lib.hid hd
  have HD := Lib.hid hb1
  have HQ := Lib.hid (fun (wx : World) (hb : Below wb.heap.size wb wx) => (hblk.below hb).cell)
  have q0 := hblk.cell
  have HB := Lib.hid hbel
  have HWB := Lib.hid hwb
  have HEL := Lib.hid hel
  have hw1 := hd.w1
  have hq1 := hd.q1
  have hcl := hd.cuts
  have hwd := hd.width
  have HAQ := Lib.hid hqm
  have HMV := Lib.hid (show modC m p = [Value.int .i64 m.kind, .int .i64 m.vocab, .int .i64 W, .int .i64 m.top, .slice (some ⟨p.cuts.b, p.cuts.o, none⟩) 4 p.cuts.c, .slice (some ⟨p.embed.b, p.embed.o, none⟩) m.embed.length p.embed.c, .slice (some ⟨p.place.b, p.place.o, none⟩) m.place.length p.place.c, .slice (some ⟨p.mix.b, p.mix.o, none⟩) m.mix.length p.mix.c, .slice (some ⟨p.out.b, p.out.o, none⟩) m.out.length p.out.c, .slice (some ⟨p.soft.b, p.soft.o, none⟩) m.soft.length p.soft.c, .slice (some ⟨p.odds.b, p.odds.o, none⟩) m.odds.length p.odds.c] by unfold modC; rw [hd.width, hd.cuts])
  have HKD := Lib.hid hm.kind
  rw [HMV.out] at q0 HQ HMX hwb ⊢
  clear hbel hblk h hb1 hel hqm hm hd hcl hwd HMV
  generalize hk0 : m.kind = kd at *
  have HK0 := Lib.hid hk0
  clear hk0
  go_enter Tryz.func20, Tryz.ntmps20
  go_upto_region 3 with (first | (go_at_call 32; refine (HRE.out _).mono ?_; rintro e wz ⟨rfl, hz⟩; subst wz) | (go_at_call 31; refine HCL.out.mono ?_; rintro e w2 ⟨g2, c2, rest2, rfl, HB2, HK2⟩; have q2 := HQ.out _ HB2.out))
  have hm1 : ((a : Nat) : Int).tmod (Q : Int) = ((a % Q : Nat) : Int) := by rw [Int.tmod_eq_emod_of_nonneg (by omega)]; rfl
  have hm2 : ¬ (Q : Int) = 0 := by omega
  have hm3 : ((Q : Int) == 0) = false := by simpa using hm2
  go_quiet (first | (go_at_call 33; exact Calls.quiet_of_same (HRW.out _)) | (go_at_call 32; exact Calls.quiet_of_same (HRP.out _)))
  have HDP := Lib.hid (fun (wx : World) (hb : Below wb.heap.size wb wx) => (HD.out.below hb).place.row (a % Q) W (by rw [HDM.out.place]; exact HDM.out.row HAQ.out))
  have HPL := Lib.hid (show (rowL m.place (a % Q) W).length = W from rowL_len (by rw [HDM.out.place]; exact HDM.out.row HAQ.out))
  obtain ⟨fx, hfx⟩ : ∃ fx : Int → Nat → Int, fx = fun x o => w32 (wrap64 (x + (rowL m.place (a % Q) W).getD o 0)) := ⟨_, rfl⟩
  have HX := Lib.hid (show xL m W t a = stL fx (rowL m.embed t W) W by unfold xL; rw [HDM.out.qe, hfx])
  have HFX := Lib.hid (fun x o => show fx x o = w32 (wrap64 (x + (rowL m.place (a % Q) W).getD o 0)) by rw [hfx])
  generalize hex : rowL m.embed t W = ex at *
  generalize hpr : rowL m.place (a % Q) W = pr at *
  clear hfx hex hpr hm1 hm2 hm3
  go_wp2
  go_loopg [33] W (fun gk s33 wx => ∃ k : Nat, s33 = .int .i64 k ∧ k ≤ W ∧ Hid (Below wb.heap.size wb wx) ∧ Hid (Blk wx g2 (ints (stL fx ex k) ++ rest2) 3) ∧ gk = W - k)
  case atStart => exact ⟨0, rfl, by omega, Lib.hid (below_drewN HB2.out _), Lib.hid (HK2.out.1.drewN _), rfl⟩
  case round =>
    obtain ⟨k, rfl, hk, HB3, HK3, rfl⟩ := hrel
    have q3 := HQ.out wr HB3.out
    clear q0 q2
    by_cases hlt : k < W
    · have hll := stL_len fx ex k
      rw [HEL.out] at hll
      have c1 : wr.cell? ⟨g2, k, none⟩ = some (.int .i64 ((stL fx ex k).getD k 0)) := by
        have := (HK3.out.rdat (c := 1000) (by rw [hll]; omega) (by decide)).2.2 k (by rw [hll]; exact hlt)
        rw [Nat.zero_add] at this; exact this
      have f1 := HK3.out.frozen k
      have c3 := (HDP.out wr HB3.out).2.2 k (by rw [HPL.out]; exact hlt)
      have HS := Lib.hid (show stL fx ex (k + 1) = (stL fx ex k).set k (w32 (wrap64 ((stL fx ex k).getD k 0 + pr.getD k 0))) by rw [← HFX.out]; rfl)
      have HLL := Lib.hid hll
      clear hll
      generalize (stL fx ex k).getD k 0 = xv at c1 HS
      generalize pr.getD k 0 = nv at c3 HS
      go_wp2_with (go_at_call 34; refine (mwrap_any _ _).mono ?_; rintro e wz ⟨rfl, hz⟩; subst wz)
      go_roundg (W - (k + 1))
      case measure => omega
      case rel =>
        refine ⟨k + 1, by go_num, by omega, Lib.hid (HB3.out.setCell HK2.out.2.1 _), Lib.hid ?_, rfl⟩
        have := HK3.out.set k (.int .i64 (w32 (wrap64 (xv + nv))))
        rw [List.set_append_left _ _ (by rw [ints_length, HLL.out]; exact hlt), ints_set, ← HS.out] at this
        exact this
    · obtain rfl : W = k := by omega
      have hxl : (stL fx ex W).length = W := by rw [stL_len]; exact HEL.out
      have HX5 := Lib.hid (show RdAt wr g2 0 c2 (stL fx ex W) from HK3.out.rdat (by rw [hxl]; exact HK2.out.2.2.1) HK2.out.2.2.2)
      have HXL := Lib.hid hxl
      rw [HX.out.symm] at hxl
      have HB03 := Lib.hid (HB.out.trans (HB3.out.mono HB.out.size))
      by_cases hkd : kd = 1
      · have HEN := Lib.hid (show entL m W t a = mkL (entJ m W t a) (3 * W) ∧ lenE m W = 3 * W from ⟨by unfold entL; rw [if_pos (HK0.out.trans hkd)], by unfold lenE; rw [if_pos (HK0.out.trans hkd)]⟩)
        have HT := Lib.hid (HDM.out.t3 (HK0.out.trans hkd))
        subst hkd
        obtain ⟨w5, rfl⟩ : ∃ w5, w5 = wr := ⟨_, rfl⟩
        have HQ5 := Lib.hid (fun (wx : World) (hb : Below w5.heap.size w5 wx) => HQ.out wx (HB3.out.trans (hb.mono HB3.out.size)))
        have hd5 := HD.out.below HB3.out
        have HD5 := Lib.hid hd5
        have HS5 := Lib.hid (fun (wx : World) (hb : Below w5.heap.size w5 wx) => And.intro (HQ5.out wx hb) (show wx.cell? ⟨p.cuts.b, p.cuts.o, none⟩ = some (.int .i64 (m.cut 0 : Int)) from (hd5.below hb).cut HM.out 0 (by decide)))
        have HC0 := Lib.hid (HM.out.cut 0 (by decide))
        obtain ⟨i0, hi, hz0, hz1, hz2⟩ := info_parts info3
        generalize hc0 : m.cut 0 = k0 at HS5 HC0
        have HCC0 := Lib.hid hc0
        clear hd5 hc0 hxl
        go_wp2
        go_loopg [11, 53] 3 (fun gk s11 s53 wx => ∃ k : Nat, s53 = .int .i64 k ∧ k ≤ 3 ∧ Hid (Below w5.heap.size w5 wx) ∧ Hid (wx.ownsRow w5.heap.size 3 1 s11 (W * k) (ints (mkL (entJ m W t a) (W * k)))) ∧ gk = 3 - k)
        case atStart => exact ⟨0, rfl, by omega, Lib.hid (Below.refl _ _), Lib.hid (World.ownsRow_nil _ _ _ _), rfl⟩
        case round =>
          obtain ⟨k, rfl, hk3, HB6, HO6, rfl⟩ := hrel
          clear q3
          by_cases hlt3 : k < 3
          · have t3 : decide ((k : Int) < 3) = true := decide_eq_true (by omega)
            have HWK := Lib.hid (show W * k ≤ 5 * 3 from Nat.mul_le_mul hw1.2 (by omega))
            have hkT : k < T := by rw [HT.out]; exact hlt3
            have HKT := Lib.hid hkT
            clear hkT
            generalize hwk : W * k = wk at *
            have HWKE := Lib.hid hwk
            clear hwk
            go_wp2
            go_loopg [11, 57] W (fun gk s11 s57 wx => ∃ i : Nat, s57 = .int .i64 i ∧ i ≤ W ∧ Hid (Below w5.heap.size w5 wx) ∧ Hid (wx.ownsRow w5.heap.size 3 1 s11 (wk + i) (ints (mkL (entJ m W t a) (wk + i)))) ∧ gk = W - i)
            case atStart => exact ⟨0, rfl, by omega, HB6, HO6, rfl⟩
            case round =>
              obtain ⟨i, rfl, hiW, HB7, HO7, rfl⟩ := hrel
              obtain ⟨A7, c7, hv7⟩ := ownsRow_shape HO7.out
              subst hv7
              by_cases hlti : i < W
              · have HMX1 := Lib.hid (fun wx => HMX.out k HKT.out wx)
                have HRM1 := Lib.hid (fun wx => HRM.out k i HKT.out hlti wx)
                have HMR := Lib.hid (fun (wx : World) (hb : Below w5.heap.size w5 wx) => mixR_at (HD5.out.below hb) HDM.out k i HKT.out hlti)
                have HML := Lib.hid (mixR_len HDM.out k i HKT.out hlti)
                have HJ := Lib.hid (show entJ m W t a (wk + i) = shiftI (dotI (mixR m W k i) (stL fx ex W)) k0 by rw [← HWKE.out, entJ_at m W t a k i hlti, HX.out, HCC0.out])
                have hb1 : wk + i + 1 ≤ maxLen := by have := HWK.out; unfold maxLen; omega
                have hb2 : (wk + i + 1) * 8 ≤ 140737488355328 := by have := HWK.out; omega
                have HH := Lib.hid (And.intro hb1 hb2)
                have hti : decide ((i : Int) < (W : Int)) = true := decide_eq_true (by omega)
                generalize hmr : mixR m W k i = mr at *
                generalize hxw : stL fx ex W = xw at *
                clear hmr hxw hb1 hb2
                generalize hpo : p.mix.o + W * W * k = po at *
                generalize hpc : p.mix.c - W * W * k = pc at *
                generalize hww : W * W = ww at *
                clear hpo hpc hww
                go_upto_region 17 with fail
                go_region_held3 (fun wy : World => (∀ o, wy.cell? ⟨w.heap.size, o, none⟩ = ([Value.int .i64 1, .int .i64 m.vocab, .int .i64 W, .int .i64 m.top, .slice (some ⟨p.cuts.b, p.cuts.o, none⟩) 4 p.cuts.c, .slice (some ⟨p.embed.b, p.embed.o, none⟩) m.embed.length p.embed.c, .slice (some ⟨p.place.b, p.place.o, none⟩) m.place.length p.place.c, .slice (some ⟨p.mix.b, p.mix.o, none⟩) m.mix.length p.mix.c, .slice (some ⟨p.out.b, p.out.o, none⟩) m.out.length p.out.c, .slice (some ⟨p.soft.b, p.soft.o, none⟩) m.soft.length p.soft.c, .slice (some ⟨p.odds.b, p.odds.o, none⟩) m.odds.length p.odds.c] : List Value)[o]?) ∧ wy.cell? ⟨p.cuts.b, p.cuts.o, none⟩ = some (.int .i64 (k0 : Int))) (first | exact HS5.out _ HB11.out | exact HS5.out _ (HB9.out.alloc HB9.out.size _) | exact HS5.out _ HB9.out | exact HS5.out _ HB8.out | exact HS5.out _ HB7.out.drew) (first
                  | (refine step_append_lies _ (by rfl) _ _ _ (by rfl) w5.heap.size 3 i0 (.int .i64 0) 1 8 Tryz.underlying22 hi hz0 hz1 hz2 rfl (by decide) (.slice A7 (wk + i) c7) (wk + i) _ (by rfl) (ownsRow_below HO9.out (Below.alloc (Below.refl _ _) (Nat.le_refl _) _)) ⟨w9.heap.size, 0, none⟩ 1 1 [.int .i64 (shiftI (dotI mr xw) k0)] (by rfl) (by rfl) (news1' _ _ _) (one_int _ _) Nat.one_pos HH.out.1 HH.out.2 (Nat.le_trans HB9.out.size (alloc_le _ _)) _ rfl ?_; intro g11 cap11 w11 hown11 hgrow11 hat11 hlt11; have HO11 := Lib.hid hown11; have HB11 := Lib.hid (Below.trans (HB9.out.alloc HB9.out.size _) (Below.ofGrown hgrow11 (Nat.le_trans HB9.out.size (alloc_le _ _)) (ownsRow_base HO7.out))); clear hown11 hgrow11 hat11 hlt11)
                  | (go_at_call 35; refine (mshift_any _ _ ⟨HC0.out.1, HC0.out.2.1⟩ _).mono ?_; rintro e wz ⟨rfl, hz⟩; subst wz; dsimp only)
                  | (go_at_call 36; refine (mdot_any mr xw _ _ _ _ _ _ W W _ (HMR.out _ HB8.out) (HX5.out.below HB8.out) HML.out.symm HXL.out.symm (Nat.le_refl _) (by omega)).mono ?_; rintro e w9 ⟨rfl, k9, hw9⟩; have HB9 := Lib.hid (show Below w5.heap.size w5 w9 by rw [hw9]; exact below_drewN HB8.out _); have HO9 := Lib.hid (show w9.ownsRow w5.heap.size 3 1 (.slice A7 (wk + i) c7) (wk + i) (ints (mkL (entJ m W t a) (wk + i))) by rw [hw9]; exact ownsRow_below HO8.out (below_drewN (Below.refl _ _) _)); clear hw9; dsimp only)
                  | (go_at_call 32; refine (HRM1.out _).mono ?_; rintro e wz ⟨rfl, hz⟩; subst wz; dsimp only)
                  | (go_at_call 37; refine (HMX1.out _).mono ?_; rintro e w8 ⟨rfl, hb8⟩; have HB8 := Lib.hid (show Below w5.heap.size w5 w8 from HB7.out.trans ((below_undrew hb8).mono HB7.out.size)); have HO8 := Lib.hid (ownsRow_below HO7.out (below_undrew hb8)); clear hb8; dsimp only))
                go_wp2
                go_roundg (W - (i + 1))
                case measure => omega
                case rel =>
                  refine ⟨i + 1, by go_num, by omega, HB11, Lib.hid ?_, rfl⟩
                  have := HO11.out
                  rw [show wk + (i + 1) = wk + i + 1 by omega, mkL, HJ.out, ints, List.map_append]
                  exact this
              · obtain rfl : W = i := by omega
                go_wp2
                go_roundg (3 - (k + 1))
                case measure => omega
                case rel => exact ⟨k + 1, by go_num, by omega, HB7, Lib.hid (by rw [Nat.mul_succ, HWKE.out]; exact HO7.out), rfl⟩
          · obtain rfl : k = 3 := by omega
            rcases HO6.out.2 with ⟨hv, hn⟩ | ⟨g, cap, cur, hv, hrest⟩
            · omega
            · have HO6' := Lib.hid HO6.out
              subst hv
              clear hrest
              go_wp2
              go_ret
              have hrow := HO6'.out
              refine ⟨g, cap, by rw [HEN.out.2, Nat.mul_comm 3 W]; rfl, Lib.hid (HB03.out.trans (HB6.out.mono HB03.out.size)), Lib.hid ⟨?_, ?_⟩⟩
              · rw [HEN.out.1, Nat.mul_comm 3 W]; exact rdat_own hrow
              · exact Nat.le_trans HB03.out.size (ownsRow_base hrow g rfl)
      · have HEN := Lib.hid (show entL m W t a = stL fx ex W ∧ lenE m W = W from ⟨by unfold entL; rw [if_neg (fun h => hkd (HK0.out.symm.trans h)), HX.out], by unfold lenE; rw [if_neg (fun h => hkd (HK0.out.symm.trans h))]⟩)
        have t1 : (kd == 1) = false := by simpa using hkd
        have t2 : (kd != 1) = true := by simpa using hkd
        clear hxl
        go_wp2
        go_ret
        exact ⟨g2, c2, by rw [HEN.out.2]; rfl, HB03, Lib.hid ⟨by rw [HEN.out.1]; exact HX5.out, Nat.le_trans HB.out.size HK2.out.2.1⟩⟩
end Go.Proofs.YtdbhlkejfecffaaGreatDoor
