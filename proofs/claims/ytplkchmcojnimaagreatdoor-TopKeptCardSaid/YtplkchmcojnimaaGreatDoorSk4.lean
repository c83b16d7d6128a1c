/-
  wefttop: TopKept: what is not asked of.
-/
import Derived.Test.YtplkchmcojnimaaGreatDoorSa10
import Derived.Test.YtplkchmcojnimaaGreatDoorSa22
import Derived.Test.YtplkchmcojnimaaGreatDoorSk3
/-
  wefttop: TopKept: what is not asked of.
-/
namespace Go.Proofs.YtplkchmcojnimaaGreatDoor
open Go.RowKit

theorem Shs.kept {w w' : World} {xb base : Nat} {vs : List Value} {ls : List (List Int)} (h : Shs w base vs ls) (hk : Keep xb w w') (hb : xb < base) : Shs w' base vs ls :=
  shs_block h fun j hj b hlt hv => hk.block b hlt (by have := ownsRow_base (h.2 j hj) b hv; omega)
/-- What stands by while the stream is asked: the model and the box it lies in. -/
structure By (v : World) (xb b8 : Nat) (m : MD) (p : MP) : Prop where
  blk : Blk v b8 (mCells m p) 27
  at' : MAt v m p
  new : ∀ i, i < 7 → ∀ g, (Value.slice (p.pl i).A (m.lst i).length (p.pl i).c).ownBlock = some g → g ≠ xb
  lt : ∀ i, i < 7 → ∀ g, (Value.slice (p.pl i).A (m.lst i).length (p.pl i).c).ownBlock = some g → g < v.heap.size
  ne : b8 ≠ xb
theorem By.cells {v : World} {xb b8 : Nat} {m : MD} {p : MP} (h : By v xb b8 m p) {w : World} (k : Keep xb v w) : Blk w b8 (mCells m p) 27 := k.blk h.blk h.ne
theorem By.model {v : World} {xb b8 : Nat} {m : MD} {p : MP} (h : By v xb b8 m p) {w : World} (k : Keep xb v w) : MAt w m p :=
  h.at'.blocks fun i hi g hg => k.block g (h.lt i hi g hg) (h.new i hi g hg)
theorem own_beside {w w' : World} {base : Nat} {e : TypeId} {a g n c size : Nat} {xs : List Value} (h : w.ownsRow base e size (.slice (some ⟨a, 0, none⟩) n c) n xs) (k : KS g w w') (hne : a ≠ g) : w'.ownsRow base e size (.slice (some ⟨a, 0, none⟩) n c) n xs :=
  ownsRow_block h fun b _ hv => k.block b (by
    have e : a = b := by simpa [Value.ownBlock] using hv
    rw [← e]; exact hne)
theorem byte_pick {F : List Int} (hb : Bytes F) {r : Int} (h : 0 ≤ r ∧ r < (F.length : Int)) : ∃ J x : Nat, r = J ∧ J < F.length ∧ (bys F)[J]? = some (.int .u8 x) ∧ F.getD J 0 = x ∧ x < 256 := by
  have hJ : r.toNat < F.length := by omega
  obtain ⟨x, hx, hx2⟩ := hb.getD r.toNat
  exact ⟨r.toNat, x, by omega, hJ, by rw [← hx]; simp [bys, List.getD, hJ], hx, hx2⟩
theorem byte_turn {x : Nat} (hx : x < 256) {r : Int} (h : 0 ≤ r ∧ r < 255) : ∃ y : Int, IntKind.i64.wrap (1 + r) = 1 + r ∧ IntKind.u8.wrap (1 + r) = 1 + r ∧ bits BinOp.xor IntKind.u8 (x : Int) (1 + r) = y ∧ 0 ≤ y ∧ y ≤ 255 ∧ y ≠ (x : Int) := by
  obtain ⟨h1, h2, h3⟩ := xor_u8 (x := (x : Int)) (y := 1 + r) (by omega) (by omega)
  have hw8 : ∀ x : Int, IntKind.u8.wrap x = x % 256 := fun x => by simp [IntKind.wrap, IntKind.signed, IntKind.bits]
  exact ⟨_, IntWalk.i64_in _ (by omega), by rw [hw8]; omega, rfl, h1, h2, h3⟩
theorem plus1 {r : Int} (h : 0 ≤ r ∧ r < 64) : ∃ N : Nat, IntKind.i64.wrap (1 + r) = (N : Int) ∧ 1 ≤ N ∧ N ≤ 64 :=
  ⟨(1 + r).toNat, by rw [IntWalk.i64_in _ (by omega)]; omega, by omega, by omega⟩
set_option maxRecDepth 100000 in
set_option maxHeartbeats 6400000 in
theorem law_kept (A : Option Addr) (len c : Nat) (Ls : List Int) (n k : Int) (w : World) (ho : Rd w (.slice A len c) Ls) :
    Calls Tryz.prog 3 #[.slice A len c, .int .i64 n, .int .i64 k] w fun e w' => e = .returned (.bool true) ∧ Hid (Below w.heap.size w w') := by
  obtain ⟨w0, hw0, hb0, hk0⟩ : ∃ w0, w.alloc (.cells #[.slice A len c, .int .i64 0] 25) = w0 ∧ Below w.heap.size w w0 ∧ Blk w0 w.heap.size [.slice A len c, .int .i64 0] 25 := ⟨_, rfl, (Below.refl _ _).alloc (Nat.le_refl _) _, heap_alloc_new w _⟩
  have hst : St w0 w.heap.size (.slice A len c) Ls 0 := ⟨0, Nat.le_refl _, hk0, ho.below hb0, fun h0 e => by have := ho.lt h0 _ e; omega⟩
  have HM := Lib.hid (model_st w.heap.size (.slice A len c) Ls w0 hst)
  have HB0 := Lib.hid hb0
  have HXL := Lib.hid (show w.heap.size < w0.heap.size from hk0.lt)
  have HFAR := Lib.hid hst.far
  have HBL := Lib.hid (fun x wx => below_any x 64 (by omega) wx)
  clear hb0 hk0 hst ho
  go_enter Tryz.func3, Tryz.ntmps3
  go_upto_region 3 with (go_at_call 5; refine HM.out.mono ?_; rintro e w1 ⟨m, p, rfl, HOK, HMA, HA1⟩; simp only [mCells])
  clear hw0 HM
  obtain ⟨v, hv, hbv, hkv⟩ : ∃ v, w1.alloc (.cells (mCells m p).toArray 27) = v ∧ Below w1.heap.size w1 v ∧ Blk v w1.heap.size (mCells m p) 27 := ⟨_, rfl, (Below.refl _ _).alloc (Nat.le_refl _) _, heap_alloc_new w1 _⟩
  have hv1 := HA1.out.1.size
  have HBY := Lib.hid (show By v w.heap.size w1.heap.size m p from ⟨hkv, HMA.out.1.below hbv, fun i hi g hg => by have := HMA.out.2 i hi g hg; have := HXL.out; omega, fun i hi g hg => Nat.lt_of_lt_of_le (HMA.out.1.lt HOK.out i hi g hg) hbv.size, by have := HXL.out; omega⟩)
  have HAV := Lib.hid (show Asks w.heap.size (.slice A len c) Ls 1000 w0 v from HA1.out.below hbv)
  have HFV := Lib.hid (HFAR.out.mono (show w0.heap.size ≤ v.heap.size from HAV.out.1.size))
  have HZ := Lib.hid (show Asks w.heap.size (.slice A len c) Ls 1000 v v from Asks.refl HAV.out.2)
  have HXV := Lib.hid (show w.heap.size < v.heap.size from HFV.out.1)
  have HW := Lib.hid (fun (wx : World) (h : Keep w.heap.size v wx) => show Below w.heap.size w wx from (HAV.out.1.trans h).below (w0 := w) HB0.out (Nat.le_refl _))
  have hq0 := hkv.cell
  clear hbv hkv hv1
  simp only [mCells] at hv hq0
  rw [hv]
  clear hv HMA HA1 HAV HB0 HXL HFAR
  generalize w1.heap.size = b8 at HBY hq0 ⊢
  go_upto_region 4 with (first
    | (go_at_call 6; have _g := HN; clear _g; refine (HBL.out _ _).mono ?_; rintro e wz ⟨⟨r2, rfl, h0, h1⟩, hz⟩; subst wz; obtain ⟨K, e2, hK⟩ := plus1 ⟨h0, h1⟩; have HK := Lib.hid hK; clear h0 h1 hK)
    | (go_at_call 6; refine (HBL.out _ _).mono ?_; rintro e wz ⟨⟨r1, rfl, h0, h1⟩, hz⟩; subst wz; obtain ⟨N, e1, hN⟩ := plus1 ⟨h0, h1⟩; have HN := Lib.hid hN; clear h0 h1 hN))
  clear e1 e2
  have HSH := Lib.hid (shards_any m p HOK.out N HN.out v (HBY.out.at'))
  have HWR := Lib.hid (fun wx (hb : Keep w.heap.size v wx) => write_any m p HOK.out wx (HBY.out.model hb))
  have HQ := Lib.hid (fun (wx : World) (hb : Keep w.heap.size v wx) => (HBY.out.cells hb).cell)
  have HDV := Lib.hid (fun (wx : World) (hb : Keep w.heap.size v wx) => HBY.out.model hb)
  have HH := Lib.hid (fun wx => h10one_any wx)
  have HFS := Lib.hid (show 7 < (sealB (fileB m.bytes)).length from (file_shape HOK.out _ rfl).1)
  have HFL := Lib.hid (show (sealB (fileB m.bytes)).length ≤ 4000 by have := HOK.out.bytes_len; simp only [sealB, fileB, List.length_append, low4, List.length_cons, List.length_nil]; omega)
  simp only [mCells] at HSH HWR HQ
  generalize hFg : sealB (fileB m.bytes) = F at HWR HFS HFL
  have HFE := Lib.hid hFg
  clear hFg
  go_upto_region 6 with (first | (go_at_call 7; refine HSH.out.mono ?_; rintro e w3 ⟨g, c3, vs, rfl, HB3, HX3, HS3⟩; have HA3 := Lib.hid (HZ.out.below HB3.out); have q3 := HQ.out w3 HA3.out.1) | (go_at_call 8; refine (HWR.out w3 HA3.out.1).mono ?_; rintro e w4 ⟨gf, cf, rfl, HB4, HF4⟩; have HA4 := Lib.hid (HA3.out.below HB4.out)))
  have f7 : ¬ (F.length : Int) < 7 := by have := HFS.out; omega
  go_upto_region 8 with (go_at_call 9; refine (HH.out _).mono ?_; rintro e w5 ⟨rfl, HB5⟩; have HA5 := Lib.hid (HA4.out.below HB5.out))
  have HX5 := Lib.hid (ownsRow_below (ownsRow_below HX3.out HB4.out) HB5.out)
  have HS5 := Lib.hid ((HS3.out.below HB4.out).below HB5.out)
  have HF5 := Lib.hid (ownsRow_below HF4.out HB5.out)
  have hgv := ownsRow_base HX3.out g rfl
  have hgfv : v.heap.size ≤ gf := Nat.le_trans HB3.out.size (ownsRow_base HF4.out gf rfl)
  have HGV := Lib.hid (And.intro hgv hgfv)
  have hvl : vs.length = N := by have := HS3.out.1; rw [shardsTo_len] at this; exact this
  have HVL := Lib.hid hvl
  have HSN := Lib.hid (fun j (hj : j < N) b (hv : (vs.getD j (.slice none 0 0)).ownBlock = some b) => show b ≠ gf from by
    have h1 := ((HS3.out.2 j (by rw [shardsTo_len]; exact hj)).lt b hv).2
    have h2 := ownsRow_base HF4.out gf rfl
    omega)
  have HF5v := Lib.hid (ownsRow_mono HF5.out HB3.out.size)
  have HORD := Lib.hid (order_st w.heap.size (.slice A len c) Ls 1000 N HN.out (by decide) w5 HA5.out.2)
  clear hq0 q3 f7 hgv hgfv hvl HSH HWR HH HB3 HB4 HB5 HA3 HA4 HX3 HS3 HF4 HF5
  go_wp2_with (go_at_call 10; refine HORD.out.mono ?_; rintro e w6 ⟨go, co, lo, rfl, HLO, HOR, HO56⟩)
  have HA6 := Lib.hid (HA5.out.trans HO56.out)
  have HX6 := Lib.hid (HO56.out.1.own HX5.out HXV.out)
  have HS6 := Lib.hid (HS5.out.kept HO56.out.1 HXV.out)
  have HF6 := Lib.hid (HO56.out.1.own HF5v.out HXV.out)
  have HNE := Lib.hid (show go ≠ g ∧ gf ≠ g from ⟨own_ne (by decide) HOR.out HX6.out rfl, own_ne (by decide) HF6.out HX6.out rfl⟩)
  have HSP := Lib.hid (fun j (hj : j < N) => ownsRow_shape (HS6.out.2 j (by rw [shardsTo_len]; exact hj)))
  clear HX5 HS5 HF5v HO56 HORD HA5
  go_loopg [71] N (fun gk s71 wx => ∃ (i : Nat) (js : Nat → Nat), s71 = .int .i64 i ∧ i ≤ N ∧ gk = N - i ∧ Hid (Perm N js) ∧ Hid (wx.ownsRow v.heap.size 34 1 (.slice (some ⟨g, 0, none⟩) N c3) N (permV vs N js)) ∧ Hid (KS g w6 wx))
  case atStart => exact ⟨0, fun i => i, rfl, Nat.zero_le _, rfl, Lib.hid (Perm.id N), Lib.hid (by rw [permV_id HVL.out]; exact HX6.out), Lib.hid (KS.refl _ _)⟩
  case round =>
    obtain ⟨i, js, rfl, hiN, rfl, HP, HXR, HKS⟩ := hrel
    by_cases hlt : i < N
    · obtain ⟨J, hJ⟩ : ∃ J : Nat, lo.getD i 0 = J := ⟨(lo.getD i 0).toNat, by have := HLO.out.get hlt; omega⟩
      have hJN : J < N := by have := HLO.out.get hlt; omega
      have hll := HLO.out.1
      have HOW := Lib.hid (own_beside HOR.out HKS.out HNE.out.1)
      have cl := HOW.out.cellAt i (by omega)
      rw [ints_at (by omega), hJ] at cl
      have ci := HXR.out.cellAt i (by omega)
      have cJ := HXR.out.cellAt J (by omega)
      rw [permV_get vs js hlt] at ci
      rw [permV_get vs js hJN] at cJ
      have fi := HXR.out.frozenAt i
      have fJ := HXR.out.frozenAt J
      obtain ⟨Ai, cci, hvi⟩ := HSP.out (js i) (HP.out.lt i hlt)
      obtain ⟨AJ, ccJ, hvJ⟩ := HSP.out (js J) (HP.out.lt J hJN)
      have HSW := Lib.hid (permV_swap vs js hlt hJN)
      rw [hvi] at ci HSW
      rw [hvJ] at cJ HSW
      have HPS := Lib.hid (HP.out.swap hlt hJN)
      have cK : (wr.setCell ⟨g, i, none⟩ (.slice AJ ((shardsTo m.bytes N N).getD (js J) []).length ccJ)).cell? ⟨g, J, none⟩ = some (.slice AJ ((shardsTo m.bytes N N).getD (js J) []).length ccJ) := by
        rw [(HXR.out.stored i _).1.cellAt J (by omega)]
        exact set_at (by rw [permV_get vs js hJN, hvJ])
      generalize ((shardsTo m.bytes N N).getD (js i) []).length = li at ci HSW
      generalize ((shardsTo m.bytes N N).getD (js J) []).length = lJ at cJ HSW cK
      clear hvi hvJ hJ hll
      go_upto_region 11 with fail
      go_region
      all_goals
        go_wp2
        go_roundg (N - (i + 1))
      case measure => omega
      case rel =>
        refine ⟨i + 1, swapJ js i J, congrArg (Value.int .i64) (show wrap64 ((i : Int) + 1) = ((i + 1 : Nat) : Int) by rw [wrap64_in (by have := HN.out; omega)]; rfl), by omega, rfl, HPS, Lib.hid ?_, Lib.hid ((HKS.out.trans ((KS.set g i _ _).trans (KS.set g J _ _))).drew)⟩
        rw [← HSW.out]
        exact ((HXR.out.stored i _).1.stored J _).1
    · have hie : N = i := by omega
      subst hie
      obtain ⟨w7, rfl⟩ : ∃ w7, w7 = wr := ⟨_, rfl⟩
      have hv6 : v.heap.size ≤ w6.heap.size := HA6.out.1.size
      have HA7 := Lib.hid (HA6.out.base HFV.out (HKS.out.below HGV.out.1 hv6))
      have HS7 := Lib.hid (shs_ks HS6.out HX6.out HKS.out)
      have HL7 := Lib.hid (shs_perm HS7.out HP.out)
      have HF7 := Lib.hid (own_beside HF6.out HKS.out HNE.out.2)
      have q7 := HQ.out w7 HA7.out.1
      have HOP := Lib.hid (open_ok m HOK.out F HFE.out.symm gf F.length cf w7 (rdv_row1 HF7.out))
      have HSM := Lib.hid (fun q wx (h1 : MAt wx m p) (h2 : MAt wx m q) => same_any m p q HOK.out wx h1 h2)
      have HKF := Lib.hid (fun wx (h1 : MAt wx m p) (h2 : RdV wx (.slice (some ⟨g, 0, none⟩) N c3) (permV vs N js)) (h3 : ShR wx (permV vs N js) (permL m.bytes N js)) => kept_full m HOK.out p N HN.out js HP.out _ g 0 N c3 wx h1 h2 h3)
      simp only [mCells] at HSM HKF
      clear hiN hlt hv6 HX6 HS6 HF6 HOR HLO HA6 HKS
      go_upto_region 14 with (go_at_call 11; refine HOP.out.mono ?_; rintro e w8 ⟨p2, rfl, HM8, HB8⟩; simp only [mCells])
      obtain ⟨w9, hw9, hb9, hk9⟩ : ∃ w9, w8.alloc (.cells (mCells m p2).toArray 27) = w9 ∧ Below w8.heap.size w8 w9 ∧ Blk w9 w8.heap.size (mCells m p2) 27 := ⟨_, rfl, (Below.refl _ _).alloc (Nat.le_refl _) _, heap_alloc_new w8 _⟩
      have HA9 := Lib.hid ((HA7.out.below HB8.out).below hb9)
      have HB79 := Lib.hid (HB8.out.trans (hb9.mono HB8.out.size))
      have HK9 := Lib.hid hk9
      have HM9 := Lib.hid (HM8.out.1.below hb9)
      have h89 : v.heap.size ≤ w8.heap.size := Nat.le_trans HA7.out.1.size HB8.out.size
      have HB15 := Lib.hid (show v.heap.size ≤ w8.heap.size ∧ gf < w8.heap.size ∧ g < w8.heap.size from ⟨h89, Nat.lt_of_lt_of_le (HF7.out.lt gf rfl).2 HB8.out.size, Nat.lt_of_lt_of_le (HXR.out.lt g rfl).2 HB8.out.size⟩)
      have HBN := Lib.hid (show w8.heap.size ≠ w.heap.size ∧ w8.heap.size ≠ gf ∧ w8.heap.size ≠ g by have := HB15.out; have := HXV.out; omega)
      have HSB := Lib.hid (fun j (hj : j < N) b (hv : (vs.getD j (.slice none 0 0)).ownBlock = some b) => show b < w8.heap.size from Nat.lt_of_lt_of_le ((HS7.out.2 j (by rw [shardsTo_len]; exact hj)).lt b hv).2 HB8.out.size)
      have t9 := hk9.cell
      have q9 := HQ.out w9 HA9.out.1
      clear hb9 hk9 q7 h89 HM8
      simp only [mCells] at hw9 t9
      rw [hw9]
      clear hw9
      generalize w8.heap.size = b15 at HK9 HB15 HSB HBN t9 ⊢
      go_upto_region 16 with (first | (go_at_call 12; refine (HSM.out p2 w9 (HDV.out w9 HA9.out.1) HM9.out).mono ?_; rintro e w10 ⟨rfl, HB10⟩; have HA10 := Lib.hid (HA9.out.below HB10.out); have HB710 := Lib.hid (HB79.out.trans (HB10.out.mono HB79.out.size)); have q10 := HQ.out w10 HA10.out.1) | (go_at_call 13; refine (HKF.out w10 (HDV.out w10 HA10.out.1) ((rdv_row1 HXR.out).below HB710.out) (HL7.out.below HB710.out)).mono ?_; rintro e w11 ⟨rfl, HB11⟩; have HA11 := Lib.hid (HA10.out.below HB11.out); have HB711 := Lib.hid (HB710.out.trans (HB11.out.mono HB710.out.size))))
      have HX11 := Lib.hid (ownsRow_below HXR.out HB711.out)
      have HS11 := Lib.hid (HS7.out.below HB711.out)
      have HF11 := Lib.hid (ownsRow_below HF7.out HB711.out)
      have HK11 := Lib.hid ((HK9.out.below HB10.out).below HB11.out)
      clear q9 q10 t9 HB79 HB710 HB711 HB8 HB10 HB11 HA7 HA9 HA10 HXR HS7 HL7 HF7 HK9 HOP HM9
      have HNX := Lib.hid (fun (k : Nat) (wx : World) (q : Int) (hk : k ≤ 200000) (hq : 1 ≤ q ∧ q ≤ 100000) (hx : St wx w.heap.size (.slice A len c) Ls k) => Next_st w.heap.size (.slice A len c) Ls k (by omega) q (by omega) wx hx)
      have HFB := Lib.hid (show Bytes F by rw [← HFE.out]; exact (file_shape HOK.out _ rfl).2.2.2.2.2.2)
      have HK1 := Lib.hid (show 1000 + N ≤ 200000 ∧ 1000 + N + 1 ≤ 200000 ∧ (1 : Int) ≤ (F.length : Int) ∧ (F.length : Int) ≤ 100000 by have := HN.out; have := HFS.out; have := HFL.out; omega)
      go_cut [] (fun wx => ∃ (J1 : Nat) (y : Int), Hid (Bytes (F.set J1 y)) ∧ Hid (intactB (F.set J1 y) = false) ∧ Hid (wx.ownsRow v.heap.size 5 1 (.slice (some ⟨gf, 0, none⟩) F.length cf) F.length (bys (F.set J1 y))) ∧ Hid (Asks w.heap.size (.slice A len c) Ls (1000 + N + 1 + 1) v wx) ∧ Hid (wx.ownsRow v.heap.size 34 1 (.slice (some ⟨g, 0, none⟩) N c3) N (permV vs N js)) ∧ Hid (Shs wx v.heap.size vs (shardsTo m.bytes N N)) ∧ Hid (Blk wx b15 (mCells m p2) 27))
      case first =>
        go_region_law (first
          | (go_simp; go_at_call 14; have _g := HR1; clear _g; refine (HNX.out (1000 + N + 1) w12 255 HK1.out.2.1 (by decide) HA12.out.2).mono ?_; rintro e w13 ⟨r2, rfl, HR2, HA13⟩; obtain ⟨y, e5, e6, hyy, hy⟩ := byte_turn HX1.out HR2.out; have HY := Lib.hid hy; clear hy; have HF13 := Lib.hid (HA13.out.1.own HF12.out HXV.out); have cf2 := HF13.out.cellAt J1 (by rw [Nat.mul_one]; exact HJ1.out); rw [HJ2.out] at cf2; have ff2 := HF13.out.frozenAt J1; dsimp only)
          | (go_simp; go_at_call 14; refine (HNX.out (1000 + N) w11.drew (F.length : Int) HK1.out.1 HK1.out.2.2 HA11.out.2).mono ?_; rintro e w12 ⟨r1, rfl, HR1, HA12'⟩; obtain ⟨J1, x1, hr1, hJ1, hJ2, hJ3, hJ4⟩ := byte_pick HFB.out HR1.out; subst hr1; have HJ1 := Lib.hid hJ1; have HJ2 := Lib.hid hJ2; have HJ3 := Lib.hid hJ3; have HX1 := Lib.hid hJ4; have HA12 := Lib.hid HA12'.out.undrew; have HF12 := Lib.hid (HA12.out.1.own HF11.out HXV.out); have cf1 := HF12.out.cellAt J1 (by rw [Nat.mul_one]; exact hJ1); rw [hJ2] at cf1; have ff1 := HF12.out.frozenAt J1; clear hJ2 hJ3 hJ4; dsimp only))
        all_goals
          go_wp2_with fail
          go_meet
          have hB := HA12.out.1.trans HA13.out.1
          have hW := KS.set gf J1 w13 (.int .u8 y)
          refine ⟨J1, y, Lib.hid (HFB.out.set J1 ⟨HY.out.1, HY.out.2.1⟩), Lib.hid ?_, Lib.hid ?_, Lib.hid (((HA11.out.trans HA12.out).trans HA13.out).base HFV.out ((Below.refl _ _).setCell HGV.out.2 _)), Lib.hid (own_beside (hB.own HX11.out HXV.out) hW (Ne.symm HNE.out.2)), Lib.hid ?_, Lib.hid ((hB.blk HK11.out HBN.out.1).far (show b15 ≠ gf by have := HB15.out; omega) _)⟩
          · rw [← HFE.out]
            exact seal_changed (fileB_bytes HOK.out.bytes) (by rw [HFE.out]; exact HJ1.out) ⟨HY.out.1, HY.out.2.1⟩ (by rw [HFE.out, HJ3.out]; exact fun e => HY.out.2.2 e.symm)
          · rw [bys_set]
            exact (HF13.out.stored J1 (.int .u8 y)).1
          · exact shs_block (HS11.out.kept hB HXV.out) fun j hj b _ hv => hW.block b (HSN.out j (by rw [shardsTo_len] at hj; exact hj) b hv)
      case rest =>
        obtain ⟨J1, y, HYB, HYI, HYF, HAC, HXC, HSC, HKC⟩ := hcut
        clear HF11 HX11 HS11 HK11 HA11 HFB HK1
        have HOS := Lib.hid (open_sum (F.set J1 y) HYB.out (by rw [List.length_set]; have := HFS.out; omega) HYI.out (some ⟨gf, 0, none⟩) F.length cf wc (rdv_row1 HYF.out))
        simp only [zero27] at HOS
        go_upto_region 20 with (go_at_call 11; refine HOS.out.mono ?_; rintro e w14 ⟨rfl, HB14⟩)
        obtain ⟨w15, hw15⟩ : ∃ w15, w14.alloc (.cells #[.int .i64 0, .int .i64 0, .int .i64 0, .int .i64 0, .slice none 0 0, .slice none 0 0, .slice none 0 0, .slice none 0 0, .slice none 0 0, .slice none 0 0, .slice none 0 0] 27) = w15 := ⟨_, rfl⟩
        have HB15w := Lib.hid (show Below wc.heap.size wc w15 by rw [← hw15]; exact HB14.out.alloc HB14.out.size _)
        rw [hw15]
        clear hw15 HOS HB14
        have HA15 := Lib.hid (HAC.out.below HB15w.out)
        have HNY := Lib.hid (HNX.out (1000 + N + 1 + 1) w15 (N : Int) (by have := HN.out; omega) (by have := HN.out; omega) HA15.out.2)
        go_upto_region 21 with (go_at_call 14; refine HNY.out.mono ?_; rintro e wd ⟨r5, rfl, HR5, HAQ⟩)
        obtain ⟨J2, rfl⟩ : ∃ J2 : Nat, r5 = J2 := ⟨r5.toNat, by have := HR5.out; omega⟩
        have hj2N : J2 < N := by have := HR5.out; omega
        have HAd := Lib.hid (HA15.out.trans HAQ.out)
        have HXd := Lib.hid (HAQ.out.1.own (ownsRow_below HXC.out HB15w.out) HXV.out)
        have HSd := Lib.hid ((HSC.out.below HB15w.out).kept HAQ.out.1 HXV.out)
        have HKd := Lib.hid (HAQ.out.1.blk (HKC.out.below HB15w.out) HBN.out.1)
        have HVd := Lib.hid (rdv_row1 HXd.out)
        have HLd := Lib.hid (shs_perm HSd.out HP.out)
        clear HYB HYI HYF HAC HXC HSC HKC HNY HB15w HA15 HAQ HR5
        have hpl := permL_len m.bytes N js
        have hpg := permL_get m.bytes js hj2N
        have HLJ := Lib.hid (HP.out.lt J2 hj2N)
        have hss := shard_shape HOK.out.bytes HN.out HLJ.out _ rfl
        obtain ⟨gs, os, cs, hcj, hrj⟩ := shr_at HVd.out HLd.out (k := J2) (by rw [hpl]; exact hj2N) (by rw [hpg, hss.1]; omega)
        rw [hpg] at hcj hrj
        have HSS := Lib.hid hss
        have HRJ := Lib.hid hrj
        have hcaps := HVd.out.caps
        rw [permV_len] at hcaps
        have hc1 : J2 ≤ c3 := by omega
        have hc2 : J2 + 1 ≤ N := by omega
        have hx1 : IntKind.i64.wrap ((J2 : Int) + 1) = (J2 : Int) + 1 := IntWalk.i64_in _ (by have := HN.out; omega)
        have hx2 : (0 : Int) ≤ (J2 : Int) + 1 := by omega
        have hx3 : ((J2 : Int) + 1).toNat = J2 + 1 := by omega
        have hx4 : (J2 : Int) ≤ (c3 : Int) := by omega
        have hx5 : (J2 : Int) + 1 ≤ (N : Int) := by omega
        have hx6 : (N : Int) ≤ (c3 : Int) := by omega
        rw [Nat.zero_add] at hcj
        have H1V := Lib.hid (show ∀ u ∈ permV vs N js, u.oneCell' = true from fun u hu => by
          obtain ⟨t, ht, rfl⟩ := List.mem_map.1 hu
          obtain ⟨A9, c9, e9⟩ := HSP.out (js t) (HP.out.lt t (List.mem_range.1 ht))
          rw [e9]; rfl)
        have HSX := Lib.hid (fun (wx : World) (hb : Below wd.heap.size wd wx) => show (∀ o, wx.cell? ⟨b8, o, none⟩ = ([.int .i64 m.kind, .int .i64 m.vocab, .int .i64 m.width, .int .i64 m.top, .slice p.cuts.A m.cuts.length p.cuts.c, .slice p.embed.A m.embed.length p.embed.c, .slice p.place.A m.place.length p.place.c, .slice p.mix.A m.mix.length p.mix.c, .slice p.out.A m.out.length p.out.c, .slice p.soft.A m.soft.length p.soft.c, .slice p.odds.A m.odds.length p.odds.c] : List Value)[o]?) ∧ wx.cell? ⟨g, J2, none⟩ = some (.slice (some ⟨gs, os, none⟩) (shard m.bytes N (js J2)).length cs) from
          ⟨HQ.out wx (HAd.out.below hb).1, (World.cell?_of_block (a := ⟨g, J2, none⟩) (w := wd) (hb.block g (World.block_lt_of_cell? wd _ hcj))).trans hcj⟩)
        have HKM := Lib.hid (fun A9 c9 wx hV9 hL9 => kept_missing m HOK.out p N HN.out js HP.out J2 hj2N ((permV vs N js).eraseIdx J2) A9 (N - 1) c9 wx hV9 hL9)
        have HK6 := Lib.hid (fun g9 c9 wx hV9 hL9 => kept_case m p m.bytes HOK.out.bytes N HN.out (permL m.bytes N js ++ [shard m.bytes N (js J2)]) (fun t => if t < N then js t else js J2) N 6 (by decide) (case_twice HP.out hj2N) (by rw [List.length_append]; exact Nat.succ_pos _) (permV vs N js ++ [.slice (some ⟨gs, os, none⟩) (shard m.bytes N (js J2)).length cs]) g9 0 (N + 1) c9 wx hV9 hL9)
        have HVC := Lib.hid (fun wx (hb : Below wd.heap.size wd wx) => vclone_any (permV vs N js) H1V.out g 0 N c3 HN.out.1 (by have := HN.out.2; omega) wx (HVd.out.below hb))
        have HCD := Lib.hid (fun A1 hA1 pb wx h0 h1 hV => concat_drop (g := g) (c := c3) H1V.out hj2N HN.out.2 A1 hA1 pb wx h0 h1 hV)
        simp only [mCells] at HKM HK6
        clear hcj hss hrj hpl hpg hcaps
        go_cut [163] (fun s163 wx => s163 = .bool false ∧ Hid (Below wd.heap.size wd wx))
        case first =>
          go_region_held3 (fun wy : World => (∀ o, wy.cell? ⟨b8, o, none⟩ = ([.int .i64 m.kind, .int .i64 m.vocab, .int .i64 m.width, .int .i64 m.top, .slice p.cuts.A m.cuts.length p.cuts.c, .slice p.embed.A m.embed.length p.embed.c, .slice p.place.A m.place.length p.place.c, .slice p.mix.A m.mix.length p.mix.c, .slice p.out.A m.out.length p.out.c, .slice p.soft.A m.soft.length p.soft.c, .slice p.odds.A m.odds.length p.odds.c] : List Value)[o]?) ∧ wy.cell? ⟨g, J2, none⟩ = some (.slice (some ⟨gs, os, none⟩) (shard m.bytes N (js J2)).length cs)) (first | exact HSX.out _ HB17.out | exact HSX.out _ HB16.out | exact HSX.out _ (HB15.out.alloc HB15.out.size _) | exact HSX.out _ HB15.out | exact HSX.out _ (HB14.out.alloc HB14.out.size _) | exact HSX.out _ HB14.out | exact HSX.out _ HB13.out | exact HSX.out _ (Below.refl _ _).drew | exact HSX.out _ ((Below.refl _ _).alloc (Nat.le_refl _) _).drew) (first
            | (go_at_call 13; have _g := HB16; clear _g; refine (HK6.out _ _ w16 (rdv_row1 HO16.out) ((HLd.out.below HB16.out).more (HRJ.out.below HB16.out))).mono ?_; rintro e w17 ⟨rfl, HB17'⟩; have HB17 := Lib.hid (HB16.out.trans (HB17'.out.mono HB16.out.size)); dsimp only)
            | (refine step_append_vals (by rfl) _ _ (by rfl) wd.heap.size _ N _ (by rfl) HO15.out _ (by rfl) w14.heap.size (by rfl) (((news_blk w14 [_] _).below HB15'.out).cell 0) (by have := HN.out.2; omega) HB15.out.size ?_; intro g16 c16 w16 hown hgrow; have HO16 := Lib.hid hown; have HB16 := Lib.hid (HB15.out.trans (Below.ofGrown hgrow HB15.out.size (ownsRow_base HO15.out))); clear hown hgrow)
            | (refine step_append_vals (by rfl) _ _ (by rfl) wd.heap.size _ N _ (by rfl) (ownsRow_below HO15.out ((Below.refl _ _).alloc (Nat.le_refl _) _)) _ (by rfl) w15.heap.size (by rfl) ((news_blk w15 [_] _).cell 0) (by have := HN.out.2; omega) (Nat.le_trans HB15.out.size (alloc_le _ _)) ?_; intro g16 c16 w16 hown hgrow; have HO16 := Lib.hid hown; have HB16 := Lib.hid ((HB15.out.alloc HB15.out.size _).trans (Below.ofGrown hgrow (Nat.le_trans HB15.out.size (alloc_le _ _)) (ownsRow_base HO15.out))); clear hown hgrow)
            | (go_at_call 16; have _g := HB14; clear _g; refine (HVC.out w14 HB14.out).mono ?_; rintro e w15 ⟨g15, c15, rfl, HB15', HO15'⟩; have HB15 := Lib.hid (HB14.out.trans (HB15'.out.mono HB14.out.size)); have HO15 := Lib.hid (ownsRow_mono HO15'.out HB14.out.size); dsimp only)
            | (go_at_call 16; have _g := HB14; clear _g; refine (HVC.out _ (HB14.out.alloc HB14.out.size _)).mono ?_; rintro e w15 ⟨g15, c15, rfl, HB15', HO15'⟩; have HB15 := Lib.hid ((HB14.out.alloc HB14.out.size _).trans (HB15'.out.mono (Nat.le_trans HB14.out.size (alloc_le _ _)))); have HO15 := Lib.hid (ownsRow_mono HO15'.out (Nat.le_trans HB14.out.size (alloc_le _ _))); dsimp only)
            | (go_at_call 13; have _g := HB13; clear _g; refine (HKM.out _ _ w13 (rdv_row1 HO13.out) ((HLd.out.below HB13.out).drop J2)).mono ?_; rintro e w14 ⟨rfl, HB14'⟩; have HB14 := Lib.hid (HB13.out.trans (HB14'.out.mono HB13.out.size)); dsimp only)
            | (go_at_call 15; refine (HCD.out _ (fun h => if_neg h) wd.heap.size _ ((news_blk wd [_, _] _).drew.cell 0) ((news_blk wd [_, _] _).drew.cell 1) (HVd.out.below ((Below.refl _ _).alloc (Nat.le_refl _) _).drew)).mono ?_; rintro e w13 ⟨A13, c13, rfl, HB13', HO13⟩; have HB13 := Lib.hid (((Below.refl wd.heap.size wd).alloc (Nat.le_refl _) _).drew.trans (HB13'.out.mono (alloc_le _ _))); dsimp only))
          all_goals (generalize (if c3 = J2 + 1 then some ⟨g, 0, none⟩ else some (⟨g, J2 + 1, none⟩ : Addr)) = A1; go_wp2_with fail; go_meet; exact ⟨rfl, HB17⟩)
        case rest =>
          obtain ⟨rfl, HB17⟩ := hcut
          clear hx1 hx2 hx3 hx4 hx5 hx6 hc1 hc2
          have HKW := Lib.hid (HKd.out.below HB17.out)
          have HAW := Lib.hid (HAd.out.below HB17.out)
          have HGA := Lib.hid (gather_full m HOK.out N HN.out js HP.out (permV vs N js) g 0 N c3 wc (HVd.out.below HB17.out) (HLd.out.below HB17.out))
          go_upto_region 24 with (go_at_call 17; refine HGA.out.mono ?_; rintro e w18 ⟨p3, rfl, HM18, HB18⟩; have HK18 := Lib.hid (HKW.out.below HB18.out); have q18 := HK18.out.cell; have r18 := HK18.out.frozen; simp only [mCells] at q18 ⊢)
          obtain ⟨w19, hw19⟩ : ∃ w19, w19 = setAll27 w18 b15 m p3 := ⟨_, rfl⟩
          have hR19 := set27 HK18.out rfl m p3
          have HK19 := Lib.hid (show Blk w19 b15 (mCells m p3) 27 by rw [hw19]; exact hR19.1)
          have HM19 := Lib.hid (show MAt w19 m p3 by rw [hw19]; exact set27_at HM18.out.1 HM18.out.2 HKW.out.lt)
          have HKS19 := Lib.hid (show KS b15 w18 w19 by rw [hw19]; exact set27_ks _ _ _ _)
          have HA19 := Lib.hid ((HAW.out.below HB18.out).base HFV.out (show Below v.heap.size w18 w19 by rw [hw19]; exact hR19.2.2.2.mono HB15.out.1))
          have HBd8 := Lib.hid (HB17.out.trans (HB18.out.mono HB17.out.size))
          have HX19 := Lib.hid (own_beside (ownsRow_below HXd.out HBd8.out) HKS19.out (Ne.symm HBN.out.2.2))
          have HS19 := Lib.hid (shs_block (HSd.out.below HBd8.out) (w' := w19) fun j hj b _ hv => HKS19.out.block b (Nat.ne_of_lt (HSB.out j (by rw [shardsTo_len] at hj; exact hj) b hv)))
          have HL19 := Lib.hid (shs_perm HS19.out HP.out)
          have HV19 := Lib.hid (rdv_row1 HX19.out)
          have q19 := HQ.out w19 HA19.out.1
          have t19 := HK19.out.cell
          have HSH3 := Lib.hid (shards_any m p3 HOK.out K HK.out w19 HM19.out)
          have HKF2 := Lib.hid (fun g9 c9 vs9 wx (hd : MAt wx m p) (hl : vs9.length = K) (hV : RdV wx (.slice (some ⟨g9, 0, none⟩) K c9) vs9) (hL : Shs wx w19.heap.size vs9 (shardsTo m.bytes K K)) => kept_full m HOK.out p K HK.out (fun i => i) (Perm.id K) vs9 g9 0 K c9 wx hd hV (by have := shs_perm hL (Perm.id K); rwa [permV_id hl] at this))
          simp only [setAll27] at hw19
          rw [← hw19]
          clear hw19 hR19 q18 r18 HKW HAW HGA HM18 HB18 HK18 HBd8 HB17 HXd HSd HKd HVd HLd HAd HRJ
          simp only [mCells] at t19 HSH3 HKF2
          go_upto_region 27 with (first | (go_at_call 13; have _g := HX20; clear _g; refine (HKF2.out _ _ vs20 w20 (HDV.out w20 HA20.out.1) (by have := HS20.out.1; rw [shardsTo_len] at this; exact this) (rdv_row1 HX20.out) HS20.out).mono ?_; rintro e w21 ⟨rfl, HB21'⟩; have HB21 := Lib.hid (HB20.out.trans (HB21'.out.mono HB20.out.size)); have HA21 := Lib.hid (HA20.out.below HB21'.out)) | (go_at_call 7; refine HSH3.out.mono ?_; rintro e w20 ⟨g20, c20, vs20, rfl, HB20, HX20, HS20⟩; have HA20 := Lib.hid (HA19.out.below HB20.out); have q20 := HQ.out w20 HA20.out.1))
          clear q19 t19 q20
          have HX21 := Lib.hid (ownsRow_below HX19.out HB21.out)
          have HS21 := Lib.hid (HS19.out.below HB21.out)
          have HV21 := Lib.hid (HV19.out.below HB21.out)
          have HL21 := Lib.hid (HL19.out.below HB21.out)
          have hpl := permL_len m.bytes N js
          have hpg := permL_get m.bytes js hj2N
          obtain ⟨k12, -, -, -, -, -, -, -, ksb⟩ := HSS.out
          obtain ⟨gu, ou, cu, hcu, hru⟩ := shr_at HV21.out HL21.out (k := J2) (by rw [hpl]; exact hj2N) (by rw [hpg, k12]; omega)
          rw [hpg] at hcu hru
          rw [Nat.zero_add] at hcu
          obtain ⟨SB, hSB⟩ : ∃ SB, SB = shard m.bytes N (js J2) := ⟨_, rfl⟩
          have HSE := Lib.hid hSB
          have hlo : SB.length ≤ 4000 := by
            have h1 : shSize m.bytes.length N (js J2) ≤ m.bytes.length + 1 := by
              unfold shSize
              have := Nat.div_le_self m.bytes.length N
              split <;> omega
            have h2 := HOK.out.bytes_len
            rw [hSB, k12]; omega
          rw [← hSB] at hcu hru k12 ksb
          have hl12 : 12 ≤ SB.length := by omega
          have HLO := Lib.hid (And.intro hl12 hlo)
          have HSBB := Lib.hid ksb
          have HBC := Lib.hid (bclone_any SB gu ou SB.length cu (by omega) (by omega) w21 hru)
          clear hSB hru hlo hl12 k12 ksb hpl hpg HX19 HS19 HV19 HL19 HSH3 HKF2 HB20 HB21 HX20 HS20 HA19 HA20 HK19 HM19 HKS19
          go_upto_region 28 with (go_at_call 18; refine HBC.out.mono ?_; rintro e w22 ⟨gb, cb, rfl, HB22, HO22⟩)
          have HA22 := Lib.hid (HA21.out.below HB22.out)
          have HGB := Lib.hid (show w21.heap.size ≤ gb from ownsRow_base HO22.out gb rfl)
          have HXB := Lib.hid (show w.heap.size < w21.heap.size from Nat.lt_of_lt_of_le HXV.out HA21.out.1.size)
          have HVB := Lib.hid (show v.heap.size ≤ w21.heap.size from HA21.out.1.size)
          have HGN := Lib.hid (show g < w21.heap.size ∧ ∀ j, j < N → ∀ b, (vs.getD j (.slice none 0 0)).ownBlock = some b → b < w21.heap.size from ⟨(HX21.out.lt g rfl).2, fun j hj b hv => ((HS21.out.2 j (by rw [shardsTo_len]; exact hj)).lt b hv).2⟩)
          have HX22 := Lib.hid (ownsRow_below HX21.out HB22.out)
          have HS22 := Lib.hid (HS21.out.below HB22.out)
          have HK2 := Lib.hid (show 1000 + N + 1 + 1 + 1 ≤ 200000 ∧ 1000 + N + 1 + 1 + 1 + 1 ≤ 200000 ∧ (1 : Int) ≤ (SB.length : Int) ∧ (SB.length : Int) ≤ 100000 by have := HN.out; have := HLO.out; omega)
          clear hcu HX21 HS21 HV21 HL21 HBC HB22
          go_cut [] (fun wx => ∃ (J3 : Nat) (y3 : Int), Hid (Bytes (SB.set J3 y3)) ∧ Hid (intactB (SB.set J3 y3) = false) ∧ Hid (wx.ownsRow w21.heap.size 5 1 (.slice (some ⟨gb, 0, none⟩) SB.length cb) SB.length (bys (SB.set J3 y3))) ∧ Hid (Asks w.heap.size (.slice A len c) Ls (1000 + N + 1 + 1 + 1 + 1 + 1) v wx) ∧ Hid (wx.ownsRow v.heap.size 34 1 (.slice (some ⟨g, 0, none⟩) N c3) N (permV vs N js)) ∧ Hid (Shs wx v.heap.size vs (shardsTo m.bytes N N)))
          case first =>
            go_region_law (first
              | (go_simp; go_at_call 14; have _g := HR1; clear _g; refine (HNX.out (1000 + N + 1 + 1 + 1 + 1) w23 255 HK2.out.2.1 (by decide) HA23.out.2).mono ?_; rintro e w24 ⟨r2, rfl, HR2, HA24⟩; obtain ⟨y3, e5, e6, hyy, hy⟩ := byte_turn HX1.out HR2.out; have HY := Lib.hid hy; clear hy; have HF24 := Lib.hid (HA24.out.1.own HF23.out HXB.out); have cf2 := HF24.out.cellAt J3 (by rw [Nat.mul_one]; exact HJ1.out); rw [HJ2.out] at cf2; have ff2 := HF24.out.frozenAt J3; dsimp only)
              | (go_simp; go_at_call 14; refine (HNX.out (1000 + N + 1 + 1 + 1) w22.drew (SB.length : Int) HK2.out.1 HK2.out.2.2 HA22.out.2).mono ?_; rintro e w23 ⟨r1, rfl, HR1, HA23'⟩; obtain ⟨J3, x1, hr1, hJ1, hJ2, hJ3, hJ4⟩ := byte_pick HSBB.out HR1.out; subst hr1; have HJ1 := Lib.hid hJ1; have HJ2 := Lib.hid hJ2; have HJ3 := Lib.hid hJ3; have HX1 := Lib.hid hJ4; have HA23 := Lib.hid HA23'.out.undrew; have HF23 := Lib.hid (HA23.out.1.own HO22.out HXB.out); have cf1 := HF23.out.cellAt J3 (by rw [Nat.mul_one]; exact hJ1); rw [hJ2] at cf1; have ff1 := HF23.out.frozenAt J3; clear hJ2 hJ3 hJ4; dsimp only))
            all_goals
              go_wp2_with fail
              go_meet
              have hB := HA23.out.1.trans HA24.out.1
              have hW := KS.set gb J3 w24 (.int .u8 y3)
              refine ⟨J3, y3, Lib.hid (HSBB.out.set J3 ⟨HY.out.1, HY.out.2.1⟩), Lib.hid ?_, Lib.hid ?_, Lib.hid (((HA22.out.trans HA23.out).trans HA24.out).base HFV.out ((Below.refl _ _).setCell (Nat.le_trans HVB.out HGB.out) _)), Lib.hid (own_beside (hB.own HX22.out HXV.out) hW (Nat.ne_of_lt (Nat.lt_of_lt_of_le HGN.out.1 HGB.out))), Lib.hid ?_⟩
              · have hse : SB = sealB (shB (crcOf m.bytes) N (js J2) m.bytes) := HSE.out
                rw [hse]
                exact seal_changed (shB_bytes HOK.out.bytes N (js J2) HN.out.2 HLJ.out) (by rw [← hse]; exact HJ1.out) ⟨HY.out.1, HY.out.2.1⟩ (by rw [← hse, HJ3.out]; exact fun e => HY.out.2.2 e.symm)
              · rw [bys_set]
                exact (HF24.out.stored J3 (.int .u8 y3)).1
              · exact shs_block (HS22.out.kept hB HXV.out) fun j hj b _ hv => hW.block b (Nat.ne_of_lt (Nat.lt_of_lt_of_le (HGN.out.2 j (by rw [shardsTo_len] at hj; exact hj) b hv) HGB.out))
          case rest =>
            obtain ⟨J3, y3, HFB3, HBAD3, HO25, HA25, HX25, HS25⟩ := hcut
            obtain ⟨w25, rfl⟩ : ∃ w25, w25 = wc := ⟨_, rfl⟩
            have HV25 := Lib.hid (rdv_row1 HX25.out)
            have HL25 := Lib.hid (shs_perm HS25.out HP.out)
            have HCS := Lib.hid (fun g9 c9 V9 wx hV hL => kept_case m p m.bytes HOK.out.bytes N HN.out ((permL m.bytes N js).set J2 (SB.set J3 y3)) js J2 12 (by decide) (case_sum HP.out hj2N HFB3.out (by rw [List.length_set]; exact HLO.out.1) HBAD3.out) (by rw [List.length_set, permL_len]; exact HN.out.1) V9 g9 0 N c9 wx hV hL)
            have HVC := Lib.hid (vclone_any (permV vs N js) H1V.out g 0 N c3 HN.out.1 (by have := HN.out.2; omega) w25 HV25.out)
            simp only [mCells] at HCS
            clear HK2 HA22 HX22 HS22 HO22
            go_upto_region 30 with (go_at_call 16; refine HVC.out.mono ?_; rintro e w26 ⟨gz, cz, rfl, HB26, HO26⟩; have c26 := HO26.out.cellAt J2 (by rw [Nat.mul_one]; exact hj2N); rw [permV_get vs js hj2N] at c26; have f26 := HO26.out.frozenAt J2)
            go_upto_region 31 with fail
            obtain ⟨w27, hw27⟩ : ∃ w27, w26.setCell ⟨gz, J2, none⟩ (.slice (some ⟨gb, 0, none⟩) SB.length cb) = w27 := ⟨_, rfl⟩
            have HO27 := Lib.hid (show w27.ownsRow w25.heap.size 34 1 (.slice (some ⟨gz, 0, none⟩) N cz) N ((permV vs N js).set J2 (.slice (some ⟨gb, 0, none⟩) SB.length cb)) by rw [← hw27]; exact (HO26.out.stored J2 (.slice (some ⟨gb, 0, none⟩) SB.length cb)).1)
            have HB27 := Lib.hid (show Below w25.heap.size w25 w27 by rw [← hw27]; exact HB26.out.setCell (ownsRow_base HO26.out gz rfl) _)
            rw [hw27]
            clear hw27 c26 f26
            have HRB := Lib.hid (show RdV w27 (.slice (some ⟨gb, 0, none⟩) (SB.set J3 y3).length cb) (bys (SB.set J3 y3)) by
              have h1 := rdv_row1 (ownsRow_below HO25.out HB27.out)
              rw [List.length_set]; exact h1)
            have HLF := Lib.hid (show ShR w27 ((permV vs N js).set J2 (.slice (some ⟨gb, 0, none⟩) SB.length cb)) ((permL m.bytes N js).set J2 (SB.set J3 y3)) by
              have h1 := (HL25.out.below HB27.out).put J2 HRB.out
              rwa [List.length_set] at h1)
            have HFIN := Lib.hid (HCS.out gz cz _ w27 (rdv_row1 HO27.out) HLF.out)
            have HA27 := Lib.hid (HA25.out.below HB27.out)
            have q27 := HQ.out w27 HA27.out.1
            go_wp2_with (go_at_call 13; refine HFIN.out.mono ?_; rintro e w28 ⟨rfl, HB28⟩)
            go_ret
            have HZZ := HW.out w27 HA27.out.1
            exact ⟨rfl, Lib.hid (HZZ.trans (HB28.out.mono HZZ.size))⟩
end Go.Proofs.YtplkchmcojnimaaGreatDoor
