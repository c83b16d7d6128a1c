/-
  wefttop: TopAnyKept: what is not asked of.
-/
import Derived.Test.YtplkchmcojnimaaGreatDoorSa10
import Derived.Test.YtplkchmcojnimaaGreatDoorSa22
/-
  wefttop: TopAnyKept: what is not asked of.
-/
namespace Go.Proofs.YtplkchmcojnimaaGreatDoor
open Go.RowKit

set_option maxRecDepth 100000 in
set_option maxHeartbeats 3200000 in
theorem law_start (m : MD) (p : MP) (n k : Int) (A : Option Addr) (len c : Nat) (Ls : List Int) (at' by' : Int) (w : World) (hd : MAt w m p) (ho : Rd w (.slice A len c) Ls) :
    Calls Tryz.prog 4 #[.agg (mCells m p).toArray, .int .i64 n, .int .i64 k, .slice A len c, .int .i64 at', .int .i64 by'] w fun e w' => e = .returned (.bool true) ∧ Hid (Below w.heap.size w w') := by
  obtain ⟨w0, hw0, hb0, hk0⟩ : ∃ w0, w.alloc (.cells (mCells m p).toArray 27) = w0 ∧ Below w.heap.size w w0 ∧ Blk w0 w.heap.size (mCells m p) 27 := ⟨_, rfl, (Below.refl _ _).alloc (Nat.le_refl _) _, heap_alloc_new w _⟩
  have HB0 := Lib.hid hb0
  have HQ := Lib.hid (fun (wx : World) (hb : Below w0.heap.size w0 wx) => (hk0.below hb).cell)
  have q0 := hk0.cell
  have HF := Lib.hid (fault_any m p w0 (hd.below hb0))
  have HH := Lib.hid (fun wx => h10one_any wx)
  clear hb0 hk0
  simp only [mCells] at hw0 q0 HQ HF ⊢
  go_enter Tryz.func4, Tryz.ntmps4
  go_upto_region 1 with fail
  clear hw0
  by_cases hr : (1 ≤ n ∧ n ≤ 64) ∧ 1 ≤ k ∧ k ≤ 64
  rotate_left
  · have hc : n < 1 ∨ (¬ n < 1 ∧ 64 < n) ∨ (¬ n < 1 ∧ ¬ 64 < n ∧ k < 1) ∨ (¬ n < 1 ∧ ¬ 64 < n ∧ ¬ k < 1 ∧ 64 < k) := by omega
    clear hr hd ho
    rcases hc with h | ⟨h1, h2⟩ | ⟨h1, h2, h3⟩ | ⟨h1, h2, h3, h4⟩
    all_goals
      go_wp2_with (first | (go_at_call 19; refine HF.out.mono ?_; rintro e w1 ⟨k1, rfl, hk1, HB1⟩; have q1 := HQ.out w1 HB1.out; by_cases hz : k1 = 0) | (go_at_call 9; refine (HH.out _).mono ?_; rintro e w2 ⟨rfl, HB2⟩))
    all_goals
      go_ret
      exact ⟨rfl, Lib.hid ((HB0.out.trans (HB1.out.mono HB0.out.size)).trans (HB2.out.mono (Nat.le_trans HB0.out.size HB1.out.size)))⟩
  obtain ⟨N, rfl⟩ : ∃ N : Nat, n = N := ⟨n.toNat, by omega⟩
  obtain ⟨K, rfl⟩ : ∃ K : Nat, k = K := ⟨k.toNat, by omega⟩
  have HN := Lib.hid (show 1 ≤ N ∧ N ≤ 64 by omega)
  have HK := Lib.hid (show 1 ≤ K ∧ K ≤ 64 by omega)
  have t1 : ¬ (N : Int) < 1 := by omega
  have t2 : ¬ (64 : Int) < N := by omega
  have t3 : ¬ (K : Int) < 1 := by omega
  have t4 : ¬ (64 : Int) < K := by omega
  have HD := Lib.hid hd
  have HO := Lib.hid ho
  clear hr hd ho
  go_upto_region 3 with (first | (go_at_call 19; refine HF.out.mono ?_; rintro e w1 ⟨k1, rfl, hk1, HB1⟩; have q1 := HQ.out w1 HB1.out; by_cases hz : k1 = 0) | (go_at_call 9; refine (HH.out _).mono ?_; rintro e w2 ⟨rfl, HB2⟩))
  all_goals try (go_ret; exact ⟨rfl, Lib.hid ((HB0.out.trans (HB1.out.mono HB0.out.size)).trans (HB2.out.mono (Nat.le_trans HB0.out.size HB1.out.size)))⟩)
  have HM := Lib.hid (hk1 (by first | exact hz | rfl))
  have HB02 := Lib.hid (HB1.out.trans (HB2.out.mono HB1.out.size))
  have HD2 := Lib.hid (HD.out.below (HB0.out.trans (HB02.out.mono HB0.out.size)))
  have HSH := Lib.hid (shards_any m p HM.out N HN.out w2 HD2.out)
  have HWR := Lib.hid (fun wx (hb : Below w2.heap.size w2 wx) => write_any m p HM.out wx (HD2.out.below hb))
  have q2 := HQ.out w2 HB02.out
  have HFS := Lib.hid (show 7 < (sealB (fileB m.bytes)).length from (file_shape HM.out _ rfl).1)
  have HFL := Lib.hid (show (sealB (fileB m.bytes)).length ≤ 4000 by have := HM.out.bytes_len; simp only [sealB, fileB, List.length_append, low4, List.length_cons, List.length_nil]; omega)
  clear HF HH q0 q1 hk1
  simp only [mCells] at HSH HWR
  generalize hFg : sealB (fileB m.bytes) = F at HWR HFS HFL
  have HFE := Lib.hid hFg
  clear hFg
  go_upto_region 5 with (first | (go_at_call 7; refine HSH.out.mono ?_; rintro e w3 ⟨g, c3, vs, rfl, HB3', HX3, HS3⟩; have HB3 := Lib.hid (HB02.out.trans (HB3'.out.mono HB02.out.size)); have q3 := HQ.out w3 HB3.out) | (go_at_call 8; refine (HWR.out w3 HB3'.out).mono ?_; rintro e w4 ⟨gf, cf, rfl, HB4', HF4⟩; have HB4 := Lib.hid (HB3.out.trans (HB4'.out.mono HB3.out.size))))
  have f7 : ¬ (F.length : Int) < 7 := by have := HFS.out; omega
  go_upto_region 8 with fail
  have hvl : vs.length = N := by have := HS3.out.1; rw [shardsTo_len] at this; exact this
  have HX4 := Lib.hid (ownsRow_below HX3.out HB4'.out)
  have hgf : gf ≠ g := by
    intro e
    have h1 := (HX3.out.lt g rfl).2
    have h2 := ownsRow_base HF4.out gf rfl
    omega
  have HGF := Lib.hid hgf
  have HVL := Lib.hid hvl
  have HSP := Lib.hid (fun j (hj : j < N) => ownsRow_shape (HS3.out.2 j (by rw [shardsTo_len]; exact hj)))
  have hNp : 1 ≤ N ∧ N ≤ 1000000 := by have := HN.out; omega
  have HNP := Lib.hid hNp
  have HBO := Lib.hid (fun (wx : World) (hk : KS g w4 wx) => show Below w.heap.size w wx from (HB0.out.trans (HB4.out.mono HB0.out.size)).trans (hk.below (by have := ownsRow_base HX3.out g rfl; have := HB0.out.size; have := HB02.out.size; omega) (by have := HB0.out.size; have := HB4.out.size; omega)))
  clear q2 q3 hgf hvl hNp f7 t1 t2 t3 t4
  go_loopg [82] N (fun gk s82 wx => ∃ (i : Nat) (js : Nat → Nat), s82 = .int .i64 i ∧ i ≤ N ∧ gk = N - i ∧ Hid (Perm N js) ∧ Hid (wx.ownsRow w2.heap.size 34 1 (.slice (some ⟨g, 0, none⟩) N c3) N (permV vs N js)) ∧ Hid (KS g w4 wx))
  case atStart => exact ⟨0, fun i => i, rfl, Nat.zero_le _, rfl, Lib.hid (Perm.id N), Lib.hid (by rw [permV_id HVL.out]; exact HX4.out), Lib.hid (KS.refl _ _)⟩
  case round =>
    obtain ⟨i, js, rfl, hiN, rfl, HP, HXR, HKS⟩ := hrel
    by_cases hlt : i < N
    · by_cases hol : i < len
      · have hLs : len = Ls.length := by
          obtain ⟨A', c', hv, -⟩ := HO.out
          injection hv
        have hB := HBO.out wr HKS.out
        obtain ⟨bo, oo, hA, co⟩ := (HO.out.below hB).at (i := i) (by omega)
        subst hA
        obtain ⟨J, hJ, hJN, hJ2, hJ3⟩ := rest_of (Ls.getD i 0) HNP.out
        generalize Ls.getD i 0 = xo at co hJ
        have ci := HXR.out.cellAt i (by omega)
        have cJ := HXR.out.cellAt J (by omega)
        rw [permV_get vs js hlt] at ci
        rw [permV_get vs js hJN] at cJ
        have fi := HXR.out.frozenAt i
        have fJ := HXR.out.frozenAt J
        obtain ⟨Ai, cci, hvi⟩ := HSP.out (js i) (HP.out.lt i hlt)
        obtain ⟨AJ, ccJ, hvJ⟩ := HSP.out (js J) (HP.out.lt J hJN)
        have HSW := Lib.hid (permV_swap vs js hlt hJN)
        rw [hvi] at ci HSW
        rw [hvJ] at cJ HSW
        have HPS := Lib.hid (HP.out.swap hlt hJN)
        have cK : (wr.setCell ⟨g, i, none⟩ (.slice AJ ((shardsTo m.bytes N N).getD (js J) []).length ccJ)).cell? ⟨g, J, none⟩ = some (.slice AJ ((shardsTo m.bytes N N).getD (js J) []).length ccJ) := by
          rw [(HXR.out.stored i _).1.cellAt J (by omega)]
          exact set_at (by rw [permV_get vs js hJN, hvJ])
        generalize ((shardsTo m.bytes N N).getD (js i) []).length = li at ci HSW
        generalize ((shardsTo m.bytes N N).getD (js J) []).length = lJ at cJ HSW cK
        clear hLs hB hvi hvJ
        have hNz : ¬ N = 0 := by omega
        go_upto_region 12 with fail
        go_region
        all_goals
          go_wp2
          go_roundg (N - (i + 1))
        case measure => omega
        case rel =>
          refine ⟨i + 1, swapJ js i J, by go_num, by omega, rfl, HPS, Lib.hid ?_, Lib.hid ((HKS.out.trans ((KS.set g i _ _).trans (KS.set g J _ _))).drew)⟩
          rw [← HSW.out]
          exact ((HXR.out.stored i _).1.stored J _).1
      · have hol' : len ≤ i := by omega
        go_wp2
        go_roundg (N - (i + 1))
        case measure => omega
        case rel => exact ⟨i + 1, js, by go_num, by omega, rfl, HP, HXR, HKS⟩
    · have : i = N := by omega
      subst this
      obtain ⟨w5, rfl⟩ : ∃ w5, w5 = wr := ⟨_, rfl⟩
      have hBw5 := HBO.out w5 HKS.out
      have hg2 : w2.heap.size ≤ g := ownsRow_base HX3.out g rfl
      have hB05 : Below w0.heap.size w0 w5 := HB4.out.trans (HKS.out.below (by have := HB02.out.size; omega) HB4.out.size)
      have HS5 := Lib.hid (shs_ks (HS3.out.below HB4'.out) HX4.out HKS.out)
      have HL5 := Lib.hid (shs_perm HS5.out HP.out)
      have HV5 := Lib.hid (rdv_row1 HXR.out)
      have HF5 := Lib.hid (ownsRow_block HF4.out fun b _ hv => HKS.out.block b (by have e : gf = b := by simpa [Value.ownBlock] using hv
                                                                                   rw [← e]; exact HGF.out))
      have HD5 := Lib.hid (HD.out.below hBw5)
      have q5 := HQ.out w5 hB05
      have HB5 := Lib.hid hB05
      have HOP := Lib.hid (open_ok m HM.out F HFE.out.symm gf F.length cf w5 (rdv_row1 HF5.out))
      have HSM := Lib.hid (fun q wx (h1 : MAt wx m p) (h2 : MAt wx m q) => same_any m p q HM.out wx h1 h2)
      have HKF := Lib.hid (fun wx (h1 : MAt wx m p) (h2 : RdV wx (.slice (some ⟨g, 0, none⟩) i c3) (permV vs i js)) (h3 : ShR wx (permV vs i js) (permL m.bytes i js)) => kept_full m HM.out p i HN.out js HP.out _ g 0 i c3 wx h1 h2 h3)
      clear HSH HWR hlt hg2 hB05 hBw5
      simp only [mCells] at HSM HKF
      go_upto_region 15 with (go_at_call 11; refine HOP.out.mono ?_; rintro e w6 ⟨p2, rfl, HM6, HB6⟩; simp only [mCells])
      obtain ⟨w7, hw7, hb7, hk7⟩ : ∃ w7, w6.alloc (.cells (mCells m p2).toArray 27) = w7 ∧ Below w5.heap.size w5 w7 ∧ Blk w7 w6.heap.size (mCells m p2) 27 := ⟨_, rfl, HB6.out.alloc HB6.out.size _, heap_alloc_new w6 _⟩
      have HB7 := Lib.hid hb7
      have HK7 := Lib.hid hk7
      have HM7 := Lib.hid (HM6.out.1.below ((Below.refl w6.heap.size w6).alloc (Nat.le_refl _) (.cells (mCells m p2).toArray 27)))
      rw [hw7] at HM7
      have q7 := hk7.cell
      have q57 := HQ.out w7 (HB5.out.trans (hb7.mono HB5.out.size))
      clear hb7 hk7 q5
      simp only [mCells] at hw7 q7
      go_upto_region 17 with (first | (go_at_call 12; refine (HSM.out p2 w7 (HD5.out.below HB7.out) HM7.out).mono ?_; rintro e w8 ⟨rfl, HB8'⟩; have HB8 := Lib.hid (HB7.out.trans (HB8'.out.mono HB7.out.size)); have q8 := HQ.out w8 (HB5.out.trans (HB8.out.mono HB5.out.size))) | (go_at_call 13; refine (HKF.out w8 (HD5.out.below HB8.out) (HV5.out.below HB8.out) (HL5.out.below HB8.out)).mono ?_; rintro e w9 ⟨rfl, HB9'⟩; have HB9 := Lib.hid (HB8.out.trans (HB9'.out.mono HB8.out.size))))
      clear q7 q57 q8 hw7
      obtain ⟨J1, hj1, hj1N, hj1a, hj1b⟩ := rest_of at' (n := F.length) (by have := HFS.out; have := HFL.out; omega)
      obtain ⟨r1, hr1, hr1N, hr1a, hr1b⟩ := rest_of by' (n := 255) (by omega)
      obtain ⟨hp1, hp2⟩ := plus_one hr1N
      have hr2 : (IntKind.u64.wrap by').tmod 255 = r1 := hr1
      have hp3 : (1 + (r1 : Int)) % 256 = 1 + r1 := by omega
      have hby := (file_shape HM.out F HFE.out.symm).2.2.2.2.2.2
      obtain ⟨x1, hx1, hx1b⟩ := hby.getD J1
      have HF9 := Lib.hid (ownsRow_below HF5.out HB9.out)
      have cf1 := HF9.out.cellAt J1 (by omega)
      rw [show (bys F)[J1]? = some (.int .u8 (F.getD J1 0)) by simp [bys, List.getD, hj1N], hx1] at cf1
      have ff1 := HF9.out.frozenAt J1
      obtain ⟨hy1, hy2, hy3⟩ := xor_u8 (x := (x1 : Int)) (y := 1 + (r1 : Int)) (by omega) (by omega)
      generalize hyy : bits BinOp.xor IntKind.u8 (x1 : Int) (1 + (r1 : Int)) = y at hy1 hy2 hy3
      have HBAD := Lib.hid (show intactB (F.set J1 y) = false by
        rw [← HFE.out]
        exact seal_changed (fileB_bytes HM.out.bytes) (by rw [HFE.out]; exact hj1N) ⟨hy1, hy2⟩ (by rw [HFE.out, hx1]; exact fun e => hy3 e.symm))
      have HFB := Lib.hid (hby.set J1 (show 0 ≤ y ∧ y ≤ 255 from ⟨hy1, hy2⟩))
      have HSTO := Lib.hid (HF9.out.stored J1 (.int .u8 y)).1
      have hFz : ¬ F.length = 0 := by omega
      go_upto_region 18 with fail
      obtain ⟨w10, hw10⟩ : ∃ w10, w9.setCell ⟨gf, J1, none⟩ (.int .u8 y) = w10 := ⟨_, rfl⟩
      rw [hw10] at HSTO ⊢
      have hgf3 : w3.heap.size ≤ gf := ownsRow_base HF4.out gf rfl
      have hgf5 : gf < w5.heap.size := (HF5.out.lt gf rfl).2
      have HKG := Lib.hid (show KS gf w9 w10 by rw [← hw10]; exact KS.set gf J1 _ _)
      have h03 := HB3.out.size
      have h00 := HB0.out.size
      have h23 := HB3'.out.size
      have HBB := Lib.hid (show Below w.heap.size w w10 from (HBO.out w5 HKS.out).trans ((HB9.out.mono (by have := (HBO.out w5 HKS.out).size; exact this)).trans (HKG.out.below (by omega) (by have := (HBO.out w5 HKS.out).size; have := HB9.out.size; omega))))
      have HB010 := Lib.hid (show Below w0.heap.size w0 w10 from HB5.out.trans ((HB9.out.mono HB5.out.size).trans (HKG.out.below (by omega) (by have := HB5.out.size; have := HB9.out.size; omega))))
      have HS10 := Lib.hid (shs_block (HS5.out.below HB9.out) (w' := w10) fun j hj b hb hv => HKG.out.block b (by
        have h1 := ((HS3.out.2 j hj).lt b hv).2
        omega))
      have HX10 := Lib.hid (ownsRow_block (ownsRow_below HXR.out HB9.out) (w' := w10) fun b _ hv => HKG.out.block b (by
        have e : g = b := by simpa [Value.ownBlock] using hv
        rw [← e]; exact fun h => HGF.out h.symm))
      have HV10 := Lib.hid (rdv_row1 HX10.out)
      have HL10 := Lib.hid (shs_perm HS10.out HP.out)
      have HD10 := Lib.hid (HD.out.below HBB.out)
      have HK10 := Lib.hid (((HK7.out.below (show Below w7.heap.size w7 w9 from HB8'.out.trans (HB9'.out.mono HB8'.out.size)))).ks HKG.out (by have := HB6.out.size; omega))
      have HOS := Lib.hid (open_sum (F.set J1 y) HFB.out (by rw [List.length_set]; have := HFS.out; omega) HBAD.out (some ⟨gf, 0, none⟩) F.length cf w10 (rdv_row1 (by have := HSTO.out; rw [bys_set]; exact this)))
      obtain ⟨J2, hj2, hj2N, hj2a, hj2b⟩ := rest_of at' HNP.out
      have hiz : ¬ i = 0 := by omega
      clear hr2 hp3 hw10 hx1 cf1 ff1 hyy hy1 hy2 hy3 hby hj1 hr1 hp1 hp2 hgf3 hgf5 h03 h00 h23
      simp only [zero27] at HOS
      go_upto_region 22 with (go_at_call 11; refine HOS.out.mono ?_; rintro e w11 ⟨rfl, HB11⟩)
      obtain ⟨w12, hw12⟩ : ∃ w12, w11.alloc (.cells #[.int .i64 0, .int .i64 0, .int .i64 0, .int .i64 0, .slice none 0 0, .slice none 0 0, .slice none 0 0, .slice none 0 0, .slice none 0 0, .slice none 0 0, .slice none 0 0] 27) = w12 := ⟨_, rfl⟩
      have HB12 := Lib.hid (show Below w10.heap.size w10 w12 by rw [← hw12]; exact HB11.out.alloc HB11.out.size _)
      rw [hw12]
      clear hw12
      have HBW := Lib.hid (HBB.out.trans (HB12.out.mono HBB.out.size))
      have HB0W := Lib.hid (HB010.out.trans (HB12.out.mono HB010.out.size))
      have HV12 := Lib.hid (HV10.out.below HB12.out)
      have HL12 := Lib.hid (HL10.out.below HB12.out)
      have hpl := permL_len m.bytes i js
      have hpg := permL_get m.bytes js hj2N
      have HLJ := Lib.hid (HP.out.lt J2 hj2N)
      have hss := shard_shape HM.out.bytes HN.out HLJ.out _ rfl
      obtain ⟨gs, os, cs, hcj, hrj⟩ := shr_at HV12.out HL12.out (k := J2) (by rw [hpl]; exact hj2N) (by rw [hpg, hss.1]; omega)
      rw [hpg] at hcj hrj
      have HSS := Lib.hid hss
      have HRJ := Lib.hid hrj
      have hcaps := HV12.out.caps
      rw [permV_len] at hcaps
      have hc1 : J2 ≤ c3 := by omega
      have hc2 : J2 + 1 ≤ i := by omega
      have hx1 : IntKind.i64.wrap ((J2 : Int) + 1) = (J2 : Int) + 1 := IntWalk.i64_in _ (by have := HNP.out; omega)
      have hx2 : (0 : Int) ≤ (J2 : Int) + 1 := by omega
      have hx3 : ((J2 : Int) + 1).toNat = J2 + 1 := by omega
      have hx4 : (J2 : Int) ≤ (c3 : Int) := by omega
      have hx5 : (J2 : Int) + 1 ≤ (i : Int) := by omega
      have hx6 : (i : Int) ≤ (c3 : Int) := by omega
      rw [Nat.zero_add] at hcj
      have H1V := Lib.hid (show ∀ u ∈ permV vs i js, u.oneCell' = true from fun u hu => by
        obtain ⟨t, ht, rfl⟩ := List.mem_map.1 hu
        obtain ⟨A9, c9, e9⟩ := HSP.out (js t) (HP.out.lt t (List.mem_range.1 ht))
        rw [e9]; rfl)
      have HSX := Lib.hid (fun (wx : World) (hb : Below w12.heap.size w12 wx) => show (∀ o, wx.cell? ⟨w.heap.size, o, none⟩ = ([.int .i64 m.kind, .int .i64 m.vocab, .int .i64 m.width, .int .i64 m.top, .slice p.cuts.A m.cuts.length p.cuts.c, .slice p.embed.A m.embed.length p.embed.c, .slice p.place.A m.place.length p.place.c, .slice p.mix.A m.mix.length p.mix.c, .slice p.out.A m.out.length p.out.c, .slice p.soft.A m.soft.length p.soft.c, .slice p.odds.A m.odds.length p.odds.c] : List Value)[o]?) ∧ wx.cell? ⟨g, J2, none⟩ = some (.slice (some ⟨gs, os, none⟩) (shard m.bytes i (js J2)).length cs) from
        ⟨HQ.out wx (HB0W.out.trans (hb.mono HB0W.out.size)), (World.cell?_of_block (a := ⟨g, J2, none⟩) (w := w12) (hb.block g (World.block_lt_of_cell? w12 _ hcj))).trans hcj⟩)
      have HKM := Lib.hid (fun A9 c9 wx hV9 hL9 => kept_missing m HM.out p i HN.out js HP.out J2 hj2N ((permV vs i js).eraseIdx J2) A9 (i - 1) c9 wx hV9 hL9)
      have HK6 := Lib.hid (fun g9 c9 wx hV9 hL9 => kept_case m p m.bytes HM.out.bytes i HN.out (permL m.bytes i js ++ [shard m.bytes i (js J2)]) (fun t => if t < i then js t else js J2) i 6 (by decide) (case_twice HP.out hj2N) (by rw [List.length_append]; exact Nat.succ_pos _) (permV vs i js ++ [.slice (some ⟨gs, os, none⟩) (shard m.bytes i (js J2)).length cs]) g9 0 (i + 1) c9 wx hV9 hL9)
      have HVC := Lib.hid (fun wx (hb : Below w12.heap.size w12 wx) => vclone_any (permV vs i js) H1V.out g 0 i c3 HN.out.1 (by have := HN.out.2; omega) wx (HV12.out.below hb))
      have HCD := Lib.hid (fun A1 hA1 pb wx h0 h1 hV => concat_drop (g := g) (c := c3) H1V.out hj2N HN.out.2 A1 hA1 pb wx h0 h1 hV)
      simp only [mCells] at HKM HK6
      clear hcj hss hrj hpl hpg hcaps
      go_cut [191] (fun s191 wx => s191 = .bool false ∧ Hid (Below w12.heap.size w12 wx))
      case first =>
        go_region_held3 (fun wy : World => (∀ o, wy.cell? ⟨w.heap.size, o, none⟩ = ([.int .i64 m.kind, .int .i64 m.vocab, .int .i64 m.width, .int .i64 m.top, .slice p.cuts.A m.cuts.length p.cuts.c, .slice p.embed.A m.embed.length p.embed.c, .slice p.place.A m.place.length p.place.c, .slice p.mix.A m.mix.length p.mix.c, .slice p.out.A m.out.length p.out.c, .slice p.soft.A m.soft.length p.soft.c, .slice p.odds.A m.odds.length p.odds.c] : List Value)[o]?) ∧ wy.cell? ⟨g, J2, none⟩ = some (.slice (some ⟨gs, os, none⟩) (shard m.bytes i (js J2)).length cs)) (first | exact HSX.out _ HB17.out | exact HSX.out _ HB16.out | exact HSX.out _ (HB15.out.alloc HB15.out.size _) | exact HSX.out _ HB15.out | exact HSX.out _ (HB14.out.alloc HB14.out.size _) | exact HSX.out _ HB14.out | exact HSX.out _ HB13.out | exact HSX.out _ (Below.refl _ _).drew | exact HSX.out _ ((Below.refl _ _).alloc (Nat.le_refl _) _).drew) (first
          | (go_at_call 13; have _g := HB16; clear _g; refine (HK6.out _ _ w16 (rdv_row1 HO16.out) ((HL12.out.below HB16.out).more (HRJ.out.below HB16.out))).mono ?_; rintro e w17 ⟨rfl, HB17'⟩; have HB17 := Lib.hid (HB16.out.trans (HB17'.out.mono HB16.out.size)); dsimp only)
          | (refine step_append_vals (by rfl) _ _ (by rfl) w12.heap.size _ i _ (by rfl) HO15.out _ (by rfl) w14.heap.size (by rfl) (((news_blk w14 [_] _).below HB15'.out).cell 0) (by have := HN.out.2; omega) HB15.out.size ?_; intro g16 c16 w16 hown hgrow; have HO16 := Lib.hid hown; have HB16 := Lib.hid (HB15.out.trans (Below.ofGrown hgrow HB15.out.size (ownsRow_base HO15.out))); clear hown hgrow)
          | (refine step_append_vals (by rfl) _ _ (by rfl) w12.heap.size _ i _ (by rfl) (ownsRow_below HO15.out ((Below.refl _ _).alloc (Nat.le_refl _) _)) _ (by rfl) w15.heap.size (by rfl) ((news_blk w15 [_] _).cell 0) (by have := HN.out.2; omega) (Nat.le_trans HB15.out.size (alloc_le _ _)) ?_; intro g16 c16 w16 hown hgrow; have HO16 := Lib.hid hown; have HB16 := Lib.hid ((HB15.out.alloc HB15.out.size _).trans (Below.ofGrown hgrow (Nat.le_trans HB15.out.size (alloc_le _ _)) (ownsRow_base HO15.out))); clear hown hgrow)
          | (go_at_call 16; have _g := HB14; clear _g; refine (HVC.out w14 HB14.out).mono ?_; rintro e w15 ⟨g15, c15, rfl, HB15', HO15'⟩; have HB15 := Lib.hid (HB14.out.trans (HB15'.out.mono HB14.out.size)); have HO15 := Lib.hid (ownsRow_mono HO15'.out HB14.out.size); dsimp only)
          | (go_at_call 16; have _g := HB14; clear _g; refine (HVC.out _ (HB14.out.alloc HB14.out.size _)).mono ?_; rintro e w15 ⟨g15, c15, rfl, HB15', HO15'⟩; have HB15 := Lib.hid ((HB14.out.alloc HB14.out.size _).trans (HB15'.out.mono (Nat.le_trans HB14.out.size (alloc_le _ _)))); have HO15 := Lib.hid (ownsRow_mono HO15'.out (Nat.le_trans HB14.out.size (alloc_le _ _))); dsimp only)
          | (go_at_call 13; have _g := HB13; clear _g; refine (HKM.out _ _ w13 (rdv_row1 HO13.out) ((HL12.out.below HB13.out).drop J2)).mono ?_; rintro e w14 ⟨rfl, HB14'⟩; have HB14 := Lib.hid (HB13.out.trans (HB14'.out.mono HB13.out.size)); dsimp only)
          | (go_at_call 15; refine (HCD.out _ (fun h => if_neg h) w12.heap.size _ ((news_blk w12 [_, _] _).drew.cell 0) ((news_blk w12 [_, _] _).drew.cell 1) (HV12.out.below ((Below.refl _ _).alloc (Nat.le_refl _) _).drew)).mono ?_; rintro e w13 ⟨A13, c13, rfl, HB13', HO13⟩; have HB13 := Lib.hid (((Below.refl w12.heap.size w12).alloc (Nat.le_refl _) _).drew.trans (HB13'.out.mono (alloc_le _ _))); dsimp only))
        all_goals (generalize (if c3 = J2 + 1 then some ⟨g, 0, none⟩ else some (⟨g, J2 + 1, none⟩ : Addr)) = A1; go_wp2_with fail; go_meet; exact ⟨rfl, HB17⟩)
      case rest =>
        obtain ⟨rfl, HB17⟩ := hcut
        clear hx1 hx2 hx3 hx4 hx5 hx6 hc1 hc2
        have HKW := Lib.hid ((HK10.out.below HB12.out).below HB17.out)
        have HB1W := Lib.hid (HB12.out.trans (HB17.out.mono HB12.out.size))
        have HGA := Lib.hid (gather_full m HM.out i HN.out js HP.out (permV vs i js) g 0 i c3 wc (HV12.out.below HB17.out) (HL12.out.below HB17.out))
        go_upto_region 25 with (go_at_call 17; refine HGA.out.mono ?_; rintro e w18 ⟨p3, rfl, HM18, HB18⟩; have HK18 := Lib.hid (HKW.out.below HB18.out); have q18 := HK18.out.cell; have r18 := HK18.out.frozen; simp only [mCells] at q18 ⊢)
        obtain ⟨w19, hw19⟩ : ∃ w19, w19 = setAll27 w18 w6.heap.size m p3 := ⟨_, rfl⟩
        have hR19 := set27 HK18.out rfl m p3
        have HK19 := Lib.hid (show Blk w19 w6.heap.size (mCells m p3) 27 by rw [hw19]; exact hR19.1)
        have HM19 := Lib.hid (show MAt w19 m p3 by rw [hw19]; exact set27_at HM18.out.1 HM18.out.2 HKW.out.lt)
        have HKS19 := Lib.hid (show KS w6.heap.size w18 w19 by rw [hw19]; exact set27_ks _ _ _ _)
        have HBB19 := Lib.hid (show Below w6.heap.size w18 w19 by rw [hw19]; exact hR19.2.2.2)
        have s0 := HB0.out.size
        have s5 := HB5.out.size
        have s6 := HB6.out.size
        have s3 := HB3'.out.size
        have s03 := HB3.out.size
        have s34 := HB4'.out.size
        have sk := HKS.out.size
        have HB1X := Lib.hid (HB1W.out.trans (HB18.out.mono HB1W.out.size))
        have HBQ := Lib.hid (show Below w0.heap.size w0 w19 from HB010.out.trans ((HB1X.out.mono HB010.out.size).trans (HBB19.out.mono (by omega))))
        have HBR := Lib.hid (show Below w.heap.size w w19 from HBB.out.trans ((HB1X.out.mono HBB.out.size).trans (HBB19.out.mono (by omega))))
        have HX18 := Lib.hid (ownsRow_below HX10.out HB1X.out)
        have hg5 : g < w5.heap.size := (HXR.out.lt g rfl).2
        have HX19 := Lib.hid (ownsRow_block HX18.out (w' := w19) fun b _ hv => HKS19.out.block b (by
          have e : g = b := by simpa [Value.ownBlock] using hv
          omega))
        have HS19 := Lib.hid (shs_block (HS10.out.below HB1X.out) (w' := w19) fun j hj b hb hv => HKS19.out.block b (by
          have h1 := ((HS3.out.2 j hj).lt b hv).2
          omega))
        have HL19 := Lib.hid (shs_perm HS19.out HP.out)
        have HV19 := Lib.hid (rdv_row1 HX19.out)
        have HD19 := Lib.hid (HD.out.below HBR.out)
        have q19 := HQ.out w19 HBQ.out
        have t19 := HK19.out.cell
        have HSH3 := Lib.hid (shards_any m p3 HM.out K HK.out w19 HM19.out)
        have HKF2 := Lib.hid (fun g9 c9 vs9 wx (hd : MAt wx m p) (hl : vs9.length = K) (hV : RdV wx (.slice (some ⟨g9, 0, none⟩) K c9) vs9) (hL : Shs wx w19.heap.size vs9 (shardsTo m.bytes K K)) => kept_full m HM.out p K HK.out (fun i => i) (Perm.id K) vs9 g9 0 K c9 wx hd hV (by have := shs_perm hL (Perm.id K); rwa [permV_id hl] at this))
        simp only [setAll27] at hw19
        rw [← hw19]
        clear hw19 hR19 q18 r18 s0 s5 s6 s3 s03 s34 sk hg5
        simp only [mCells] at t19 HSH3 HKF2
        go_upto_region 28 with (first | (go_at_call 13; have _g := HX20; clear _g; refine (HKF2.out _ _ vs20 w20 (HD19.out.below HB20.out) (by have := HS20.out.1; rw [shardsTo_len] at this; exact this) (rdv_row1 HX20.out) HS20.out).mono ?_; rintro e w21 ⟨rfl, HB21'⟩; have HB21 := Lib.hid (HB20.out.trans (HB21'.out.mono HB20.out.size))) | (go_at_call 7; refine HSH3.out.mono ?_; rintro e w20 ⟨g20, c20, vs20, rfl, HB20, HX20, HS20⟩; have q20 := HQ.out w20 (HBQ.out.trans (HB20.out.mono HBQ.out.size))))
        clear q19 t19 q20
        have HV21 := Lib.hid (HV19.out.below HB21.out)
        have HL21 := Lib.hid (HL19.out.below HB21.out)
        have HD21 := Lib.hid (HD19.out.below HB21.out)
        have HBQ21 := Lib.hid (HBQ.out.trans (HB21.out.mono HBQ.out.size))
        have HBR21 := Lib.hid (HBR.out.trans (HB21.out.mono HBR.out.size))
        have hpl := permL_len m.bytes i js
        have hpg := permL_get m.bytes js hj2N
        obtain ⟨k12, -, -, -, -, -, -, -, ksb⟩ := HSS.out
        obtain ⟨gu, ou, cu, hcu, hru⟩ := shr_at HV21.out HL21.out (k := J2) (by rw [hpl]; exact hj2N) (by rw [hpg, k12]; omega)
        rw [hpg] at hcu hru
        rw [Nat.zero_add] at hcu
        obtain ⟨SB, hSB⟩ : ∃ SB, SB = shard m.bytes i (js J2) := ⟨_, rfl⟩
        have HSE := Lib.hid hSB
        have hlo : SB.length ≤ 4000 := by
          have h1 : shSize m.bytes.length i (js J2) ≤ m.bytes.length + 1 := by
            unfold shSize
            have := Nat.div_le_self m.bytes.length i
            split <;> omega
          have h2 := HM.out.bytes_len
          rw [hSB, k12]; omega
        rw [← hSB] at hcu hru k12 ksb
        have hl12 : 12 ≤ SB.length := by omega
        have HLO := Lib.hid (And.intro hl12 hlo)
        have HSBB := Lib.hid ksb
        have HBC := Lib.hid (bclone_any SB gu ou SB.length cu (by omega) (by omega) w21 hru)
        obtain ⟨J3, hj3, hj3N, hj3a, hj3b⟩ := rest_of at' (n := SB.length) (by omega)
        obtain ⟨r3, hr3, hr3N, hr3a, hr3b⟩ := rest_of by' (n := 255) (by omega)
        obtain ⟨hp1, hp2⟩ := plus_one hr3N
        have hr4 : (IntKind.u64.wrap by').tmod 255 = r3 := hr3
        have hp3 : (1 + (r3 : Int)) % 256 = 1 + r3 := by omega
        obtain ⟨x3, hx3, hx3b⟩ := ksb.getD J3
        have HCE := Lib.hid (show (bys SB)[J3]? = some (.int .u8 x3) by rw [← hx3]; simp [bys, List.getD, hj3N])
        obtain ⟨hy1, hy2, hy3⟩ := xor_u8 (x := (x3 : Int)) (y := 1 + (r3 : Int)) (by omega) (by omega)
        generalize hyy : bits BinOp.xor IntKind.u8 (x3 : Int) (1 + (r3 : Int)) = y3 at hy1 hy2 hy3
        have HBAD3 := Lib.hid (show intactB (SB.set J3 y3) = false by
          have hse : SB = sealB (shB (crcOf m.bytes) i (js J2) m.bytes) := HSE.out
          rw [hse]
          exact seal_changed (shB_bytes HM.out.bytes i (js J2) HN.out.2 HLJ.out) (by rw [← hse]; exact hj3N) ⟨hy1, hy2⟩ (by rw [← hse, hx3]; exact fun e => hy3 e.symm))
        have HFB3 := Lib.hid (ksb.set J3 (show 0 ≤ y3 ∧ y3 ≤ 255 from ⟨hy1, hy2⟩))
        have HCS := Lib.hid (fun g9 c9 V9 wx hV hL => kept_case m p m.bytes HM.out.bytes i HN.out ((permL m.bytes i js).set J2 (SB.set J3 y3)) js J2 12 (by decide) (case_sum HP.out hj2N HFB3.out (by rw [List.length_set]; exact hl12) HBAD3.out) (by rw [List.length_set, hpl]; exact HN.out.1) V9 g9 0 i c9 wx hV hL)
        have HVC := Lib.hid (fun wx (hb : Below w21.heap.size w21 wx) => vclone_any (permV vs i js) H1V.out g 0 i c3 HN.out.1 (by have := HN.out.2; omega) wx (HV21.out.below hb))
        clear hSB hru hlo hl12 k12 ksb hpl hpg hx3 hy1 hy2 hy3 hr3
        simp only [mCells] at HCS
        generalize SB.length = L at *
        have hLz : ¬ L = 0 := by have := HLO.out; omega
        have hLz2 : ¬ (L : Int) = 0 := by omega
        go_upto_region 31 with (go_at_call 18; refine HBC.out.mono ?_; rintro e w22 ⟨gb, cb, rfl, HB22, HO22⟩; have cJ := HO22.out.cellAt J3 (by rw [Nat.mul_one]; exact hj3N); rw [HCE.out] at cJ; have fJ := HO22.out.frozenAt J3)
        go_upto_region 32 with fail
        obtain ⟨w23, hw23⟩ : ∃ w23, w22.setCell ⟨gb, J3, none⟩ (.int .u8 y3) = w23 := ⟨_, rfl⟩
        have HO23 := Lib.hid (show w23.ownsRow w21.heap.size 5 1 (.slice (some ⟨gb, 0, none⟩) L cb) L (bys (SB.set J3 y3)) by rw [← hw23, bys_set]; exact (HO22.out.stored J3 (.int .u8 y3)).1)
        have HB23 := Lib.hid (show Below w21.heap.size w21 w23 by rw [← hw23]; exact HB22.out.setCell (ownsRow_base HO22.out gb rfl) _)
        rw [hw23]
        clear hyy hw23 cJ fJ hr4 hp1 hp2 hp3 hj3
        go_upto_region 33 with (go_at_call 16; refine (HVC.out w23 HB23.out).mono ?_; rintro e w24 ⟨gz, cz, rfl, HB24, HO24⟩; have c24 := HO24.out.cellAt J2 (by rw [Nat.mul_one]; exact hj2N); rw [permV_get vs js hj2N] at c24; have f24 := HO24.out.frozenAt J2)
        go_upto_region 34 with fail
        obtain ⟨w25, hw25⟩ : ∃ w25, w24.setCell ⟨gz, J2, none⟩ (.slice (some ⟨gb, 0, none⟩) L cb) = w25 := ⟨_, rfl⟩
        have HO25 := Lib.hid (show w25.ownsRow w23.heap.size 34 1 (.slice (some ⟨gz, 0, none⟩) i cz) i ((permV vs i js).set J2 (.slice (some ⟨gb, 0, none⟩) L cb)) by rw [← hw25]; exact (HO24.out.stored J2 (.slice (some ⟨gb, 0, none⟩) L cb)).1)
        have HB25 := Lib.hid (show Below w23.heap.size w23 w25 by rw [← hw25]; exact HB24.out.setCell (ownsRow_base HO24.out gz rfl) _)
        rw [hw25]
        clear hw25 c24 f24
        have HBA := Lib.hid (HB23.out.trans (HB25.out.mono HB23.out.size))
        have HRB := Lib.hid (show RdV w25 (.slice (some ⟨gb, 0, none⟩) (SB.set J3 y3).length cb) (bys (SB.set J3 y3)) by
          have h1 := rdv_row1 (ownsRow_below HO23.out HB25.out)
          have h2 := h1.caps.1
          rw [bys_length] at h2
          rw [← h2]; exact h1)
        have hll : (SB.set J3 y3).length = L := by have := HRB.out.caps.1; have h2 := (rdv_row1 HO23.out).caps.1; rw [bys_length] at h2; exact h2.symm
        have HLF := Lib.hid (show ShR w25 ((permV vs i js).set J2 (.slice (some ⟨gb, 0, none⟩) L cb)) ((permL m.bytes i js).set J2 (SB.set J3 y3)) by
          have h1 := (HL21.out.below HBA.out).put J2 HRB.out
          rwa [hll] at h1)
        have HFIN := Lib.hid (HCS.out gz cz _ w25 (rdv_row1 HO25.out) HLF.out)
        have q25 := HQ.out w25 (HBQ21.out.trans (HBA.out.mono HBQ21.out.size))
        clear hll
        go_wp2_with (go_at_call 13; refine HFIN.out.mono ?_; rintro e w26 ⟨rfl, HB26⟩)
        go_ret
        have HZ := HBR21.out.trans (HBA.out.mono HBR21.out.size)
        exact ⟨rfl, Lib.hid (HZ.trans (HB26.out.mono HZ.size))⟩
end Go.Proofs.YtplkchmcojnimaaGreatDoor
