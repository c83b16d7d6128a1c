/-
  place.Index without dimensions; graph.pointwise at the sum of the graph of two nodes.
  graph: the values of both nodes.
-/
import Derived.Test.YtdbhlkejfecffaaGreatDoorSa35
/-
  place.Index without dimensions; graph.pointwise at the sum of the graph of two nodes.
-/
namespace Go.Proofs.YtdbhlkejfecffaaGreatDoor
open Go.RowKit KeepPlain

theorem infoI : (Tryz.prog.info? 22).map (fun i => (i.zero, i.size, i.bytes)) = some (some (.slice none 0 0), 1, 24) := by kernel_rfl
set_option maxRecDepth 100000 in
set_option maxHeartbeats 800000 in
theorem index_six (p5 p7 p3 p10 gT cT gD cD gP cP a0 a1 : Nat) (A D : Value) (w : World) (h : PAt w p5 p7 p3 p10 gT cT gD cD gP cP a0 a1 A D) (hne : p3 ≠ p10) :
    Calls Tryz.prog 152 #[.slice none 0 0, .func (.func 157) #[] #[.pointer (some ⟨p5, 0, none⟩), .pointer (some ⟨p7, 0, none⟩), .pointer (some ⟨p3, 0, none⟩), .pointer (some ⟨p10, 0, none⟩)]] w fun e w' =>
      e = .returned (.tuple #[]) ∧ ∃ gR cR, Hid (Blk w' p10 [.slice (some ⟨gR, 0, none⟩) 1 cR] 22) ∧ Hid (w'.cell? ⟨gR, 0, none⟩ = some (.int .i64 6)) ∧ Hid (w.heap.size ≤ gR) ∧ Hid (KeepB p10 w.heap.size w w') := by
  have hm := makeI0 w
  obtain ⟨w0, hw0, hb0⟩ : ∃ w0, w0 = w.alloc (.cells #[] 3) ∧ Below w.heap.size w w0 := ⟨_, rfl, (Below.refl _ _).alloc (Nat.le_refl _) _⟩
  have HP := Lib.hid (fun ga => point_six ga p5 p7 p3 p10 gT cT gD cD gP cP a0 a1 A D w0 (h.below hb0) hne)
  have HB := Lib.hid hb0
  rw [← hw0] at hm
  clear hb0 h hw0
  go_enter Tryz.func152, Tryz.ntmps152
  go_wp2
  refine wp_loop_rounds 1 ?_
  rw [rounds_succ]
  go_wp2_with (go_at_call 157; refine (HP.out _).mono ?_; rintro e w1 ⟨rfl, gR, cR, H1, H2, H3, H4⟩)
  refine wp_loop_rounds 1 ?_
  rw [rounds_succ]
  go_wp2
  refine bodyPost_ret (results_none rfl _ _ _) rfl ⟨rfl, gR, cR, H1, H2, Lib.hid (Nat.le_trans HB.out.size H3.out), Lib.hid ((KeepB.of_below HB.out).trans (H4.out.mono HB.out.size))⟩
set_option maxRecDepth 100000 in
set_option maxHeartbeats 3200000 in
theorem pointwise_six (gT cT gD cD : Nat) (A D : Value) (w : World) (ht : ∀ o, o < 4 → w.cell? ⟨gT, o, none⟩ = ([.slice none 0 0, .slice (some ⟨gD, 0, none⟩) 1 cD, .slice none 0 0, .slice (some ⟨gD, 0, none⟩) 1 cD] : List Value)[o]?) (hd : w.cell? ⟨gD, 0, none⟩ = some (.int .i64 3)) :
    Calls Tryz.prog 111 #[nodeV 4 A D, .slice none 0 0, .slice (some ⟨gT, 0, none⟩) 2 cT] w fun e w' =>
      ∃ gR cR, e = .returned (.slice (some ⟨gR, 0, none⟩) 1 cR) ∧ Hid (w'.cell? ⟨gR, 0, none⟩ = some (.int .i64 6)) ∧ Hid (w.heap.size ≤ gR) ∧ Hid (Below w.heap.size w w') := by
  obtain ⟨w0, hw0, hb0, hk0, hk1, hk2, hs0⟩ : ∃ w0, ((w.alloc (.cells (nodeC 4 A D).toArray 57)).alloc (.cells #[.slice (some ⟨gT, 0, none⟩) 2 cT] 63)).alloc (.cells #[.slice none 0 0] 47) = w0 ∧ Below w.heap.size w w0 ∧ Blk w0 w.heap.size (nodeC 4 A D) 57 ∧ Blk w0 (w.heap.size + 1) [.slice (some ⟨gT, 0, none⟩) 2 cT] 63 ∧ Blk w0 (w.heap.size + 1 + 1) [.slice none 0 0] 47 ∧ w0.heap.size = w.heap.size + 3 := by
    refine ⟨_, rfl, (((Below.refl _ _).alloc (Nat.le_refl _) _).alloc (by simp only [World.size_alloc]; omega) _).alloc (by simp only [World.size_alloc]; omega) _, ((news_blk w (nodeC 4 A D) 57).alloc _).alloc _, ?_, ?_, by simp only [World.size_alloc]⟩
    · have := (news_blk (w.alloc (.cells (nodeC 4 A D).toArray 57)) [.slice (some ⟨gT, 0, none⟩) 2 cT] 63).alloc (.cells #[.slice none 0 0] 47)
      simp only [World.size_alloc] at this
      exact this
    · have := news_blk ((w.alloc (.cells (nodeC 4 A D).toArray 57)).alloc (.cells #[.slice (some ⟨gT, 0, none⟩) 2 cT] 63)) [.slice none 0 0] 47
      simp only [World.size_alloc] at this
      exact this
  have HB0 := Lib.hid hb0
  have HK0 := Lib.hid hk0
  have HK1 := Lib.hid hk1
  have HK2 := Lib.hid hk2
  have HZ := Lib.hid hs0
  have HLT := Lib.hid (show gT < w.heap.size ∧ gD < w.heap.size from ⟨World.block_lt_of_cell? w _ (show w.cell? ⟨gT, 0, none⟩ = some (.slice none 0 0) from ht 0 (by omega)), World.block_lt_of_cell? w _ hd⟩)
  have HT0 := Lib.hid (fun wx (hb : Below w.heap.size w wx) o (ho : o < 4) => show wx.cell? ⟨gT, o, none⟩ = ([.slice none 0 0, .slice (some ⟨gD, 0, none⟩) 1 cD, .slice none 0 0, .slice (some ⟨gD, 0, none⟩) 1 cD] : List Value)[o]? by rw [World.cell?_of_block (a := ⟨gT, o, none⟩) (hb.block gT HLT.out.1)]; exact ht o ho)
  have HD0 := Lib.hid (fun wx (hb : Below w.heap.size w wx) => show wx.cell? ⟨gD, 0, none⟩ = some (.int .i64 3) by rw [World.cell?_of_block (a := ⟨gD, 0, none⟩) (hb.block gD HLT.out.2)]; exact hd)
  have q1 := hk1.cell
  obtain ⟨i0, hi0, hz0, hz1, hz2⟩ := info_parts infoI
  clear hb0 hk0 hk1 hk2 hs0 ht hd
  simp only [nodeC] at hw0
  unfold nodeV
  go_enter Tryz.func111, Tryz.ntmps111
  go_wp2
  go_loopg [13] 2 (fun gk s13 wx => ∃ (i : Nat) (V : Value) (l : List Nat), s13 = .int .i64 i ∧ i ≤ 2 ∧ gk = 2 - i ∧ l.length = i ∧ Hid (Blk wx (w.heap.size + 1 + 1) [V] 47) ∧ Hid (wx.ownsRow w0.heap.size 22 1 V i (l.map fun a => Value.slice (some ⟨a, 0, none⟩) 0 0)) ∧ Hid (KeepB (w.heap.size + 1 + 1) w0.heap.size w0 wx))
  case atStart => exact ⟨0, .slice none 0 0, [], rfl, by omega, rfl, rfl, HK2, Lib.hid (World.ownsRow_nil _ _ _ _), Lib.hid (KeepB.of_below (Below.refl _ _))⟩
  case round =>
    clear q1
    obtain ⟨i, V, l, rfl, hi, rfl, hl, HV, HO, HKB⟩ := hrel
    have hx1 := HKB.out.blk HK1.out (by have := HZ.out; omega) (by omega)
    have q1 := hx1.cell
    have HNB := Lib.hid (HKB.out.blk HK0.out (by have := HZ.out; omega) (by omega))
    have HX1 := Lib.hid hx1
    have HBW := Lib.hid (show Below w.heap.size w wr from HB0.out.trans (HKB.out.toBelow (by have := HZ.out; omega) (by omega)))
    clear hx1
    by_cases hlt : i < 2
    · have t0 := HT0.out wr HBW.out (2 * i) (by omega)
      have t1 := HT0.out wr HBW.out (2 * i + 1) (by omega)
      have hi2 : i = 0 ∨ i = 1 := by omega
      have t0' : wr.cell? ⟨gT, 2 * i, none⟩ = some (.slice none 0 0) := by rw [t0]; rcases hi2 with rfl | rfl <;> rfl
      have t1' : wr.cell? ⟨gT, 2 * i + 1, none⟩ = some (.slice (some ⟨gD, 0, none⟩) 1 cD) := by rw [t1]; rcases hi2 with rfl | rfl <;> rfl
      clear t0 t1
      clear HK2
      rcases hi2 with rfl | rfl
      · simp only [Nat.mul_zero, Nat.zero_add] at t0' t1'
        go_upto_region 5 with fail
        obtain ⟨wa, hwa⟩ : ∃ wa, wa = wr.alloc (.cells #[.slice none 0 0, .slice (some ⟨gD, 0, none⟩) 1 cD] 68) := ⟨_, rfl⟩
        have hba : Below wr.heap.size wr wa := by rw [hwa]; exact (Below.refl _ _).alloc (Nat.le_refl _) _
        have HTA := Lib.hid (show Blk wa wr.heap.size [.slice none 0 0, .slice (some ⟨gD, 0, none⟩) 1 cD] 68 by rw [hwa]; exact news_blk wr _ _)
        have HVA := Lib.hid (HV.out.below hba)
        have HOA := Lib.hid (ownsRow_below HO.out hba)
        have HSA := Lib.hid (Nat.le_trans HKB.out.size hba.size)
        have HKA := Lib.hid (HKB.out.trans (KeepB.of_below (hba.mono HKB.out.size)))
        have HVN := Lib.hid (show V.ownBlock ≠ some wr.heap.size from fun e => by have := (HO.out.lt _ e).2; omega)
        have HWR := Lib.hid HKB.out.size
        rw [← hwa]
        clear hwa hba q1 t0' t1'
        have HSB := Lib.hid HTA.out.cell
        have v1 := HVA.out.cell
        have b9 := HTA.out.cell
        go_region_law (first | (refine step_append_lies _ (by rfl) _ _ _ (by rfl) w0.heap.size 22 i0 (.slice none 0 0) 1 24 Tryz.underlying47 hi0 hz0 hz1 hz2 rfl (by decide) V 0 (l.map fun a => Value.slice (some ⟨a, 0, none⟩) 0 0) (by rfl) (ownsRow_below HOS.out ((Below.refl _ _).alloc (Nat.le_refl _) _)) ⟨ws.heap.size, 0, none⟩ 1 1 [.slice (some ⟨g, 0, none⟩) 0 0] (by rfl) (by rfl) (news1' _ _ _) (one_slice _ _ _) Nat.one_pos (by unfold maxLen; omega) (by omega) (Nat.le_trans HSS.out (alloc_le _ _)) _ rfl ?_; intro gR cR wR hown hgrow hat hlt; have HOR := Lib.hid hown; have HVR := Lib.hid (show Blk wR (w.heap.size + 1 + 1) [V] 47 from (HVS.out.alloc _).grown hgrow (fun e => by have := ownsRow_base HOS.out _ e.symm; have := HZ.out; omega)); have HTR := Lib.hid (show Blk wR wr.heap.size [.slice none 0 0, .slice (some ⟨gD, 0, none⟩) 1 cD] 68 from (HTS.out.alloc _).grown hgrow (fun e => HVN.out e.symm)); have HSR := Lib.hid HTR.out.cell; have HSX := Lib.hid (HTR.out.far (p := ⟨w.heap.size + 1 + 1, 0, none⟩) (by have := HWR.out; have := HZ.out; simp; omega) (.slice (some ⟨gR, 0, none⟩) (0 + 1) cR)).cell; have HKR := Lib.hid (show KeepB (w.heap.size + 1 + 1) w0.heap.size w0 wR from HKS.out.trans (KeepB.of_below (((Below.refl _ _).alloc HSS.out _).trans (Below.ofGrown hgrow (Nat.le_trans HSS.out (alloc_le _ _)) (ownsRow_base HOS.out))))); have vR := HVR.out.cell; have fR := HVR.out.frozen; clear hown hgrow hat hlt) | (go_simp; go_at_call 151; refine (along_nil wa.drew).mono ?_; rintro e ws ⟨g, rfl, HBS'⟩; have HBS := Lib.hid (show Below wa.heap.size wa ws from below_undrew HBS'.out); have HVS := Lib.hid (HVA.out.below HBS.out); have HTS := Lib.hid (HTA.out.below HBS.out); have HOS := Lib.hid (ownsRow_below HOA.out HBS.out); have HSS := Lib.hid (Nat.le_trans HSA.out HBS.out.size); have HKS := Lib.hid (HKA.out.trans (KeepB.of_below (HBS.out.mono HSA.out))); have HSY := Lib.hid HTS.out.cell; have HSZ := Lib.hid (HTS.out.alloc (.cells #[.slice (some ⟨g, 0, none⟩) 0 0] 22)).cell; have v2 := HVS.out.cell; have v3 := (HVS.out.alloc (.cells #[.slice (some ⟨g, 0, none⟩) 0 0] 22)).cell; dsimp only))
        all_goals
          go_wp2
          go_roundg (2 - 1)
          case measure => omega
          case rel => exact ⟨1, _, l ++ [g], rfl, by omega, rfl, by simp [hl], Lib.hid (HVR.out.set 0 (.slice (some ⟨gR, 0, none⟩) (0 + 1) cR)), Lib.hid (ownsRow_block (by have := HOR.out; simpa using this) fun b hlt hv => Below.heap_setCell _ _ _ _ (show b ≠ w.heap.size + 1 + 1 by have := ownsRow_base HOR.out b hv; have := HZ.out; omega)), Lib.hid (HKR.out.setD 0 _)⟩
      · simp only [Nat.reduceMul, Nat.reduceAdd] at t0' t1'
        go_upto_region 5 with fail
        obtain ⟨wa, hwa⟩ : ∃ wa, wa = wr.alloc (.cells #[.slice none 0 0, .slice (some ⟨gD, 0, none⟩) 1 cD] 68) := ⟨_, rfl⟩
        have hba : Below wr.heap.size wr wa := by rw [hwa]; exact (Below.refl _ _).alloc (Nat.le_refl _) _
        have HTA := Lib.hid (show Blk wa wr.heap.size [.slice none 0 0, .slice (some ⟨gD, 0, none⟩) 1 cD] 68 by rw [hwa]; exact news_blk wr _ _)
        have HVA := Lib.hid (HV.out.below hba)
        have HOA := Lib.hid (ownsRow_below HO.out hba)
        have HSA := Lib.hid (Nat.le_trans HKB.out.size hba.size)
        have HKA := Lib.hid (HKB.out.trans (KeepB.of_below (hba.mono HKB.out.size)))
        have HVN := Lib.hid (show V.ownBlock ≠ some wr.heap.size from fun e => by have := (HO.out.lt _ e).2; omega)
        have HWR := Lib.hid HKB.out.size
        rw [← hwa]
        clear hwa hba q1 t0' t1'
        have HSB := Lib.hid HTA.out.cell
        have v1 := HVA.out.cell
        have b9 := HTA.out.cell
        go_region_law (first | (refine step_append_lies _ (by rfl) _ _ _ (by rfl) w0.heap.size 22 i0 (.slice none 0 0) 1 24 Tryz.underlying47 hi0 hz0 hz1 hz2 rfl (by decide) V 1 (l.map fun a => Value.slice (some ⟨a, 0, none⟩) 0 0) (by rfl) (ownsRow_below HOS.out ((Below.refl _ _).alloc (Nat.le_refl _) _)) ⟨ws.heap.size, 0, none⟩ 1 1 [.slice (some ⟨g, 0, none⟩) 0 0] (by rfl) (by rfl) (news1' _ _ _) (one_slice _ _ _) Nat.one_pos (by unfold maxLen; omega) (by omega) (Nat.le_trans HSS.out (alloc_le _ _)) _ rfl ?_; intro gR cR wR hown hgrow hat hlt; have HOR := Lib.hid hown; have HVR := Lib.hid (show Blk wR (w.heap.size + 1 + 1) [V] 47 from (HVS.out.alloc _).grown hgrow (fun e => by have := ownsRow_base HOS.out _ e.symm; have := HZ.out; omega)); have HTR := Lib.hid (show Blk wR wr.heap.size [.slice none 0 0, .slice (some ⟨gD, 0, none⟩) 1 cD] 68 from (HTS.out.alloc _).grown hgrow (fun e => HVN.out e.symm)); have HSR := Lib.hid HTR.out.cell; have HSX := Lib.hid (HTR.out.far (p := ⟨w.heap.size + 1 + 1, 0, none⟩) (by have := HWR.out; have := HZ.out; simp; omega) (.slice (some ⟨gR, 0, none⟩) (1 + 1) cR)).cell; have HKR := Lib.hid (show KeepB (w.heap.size + 1 + 1) w0.heap.size w0 wR from HKS.out.trans (KeepB.of_below (((Below.refl _ _).alloc HSS.out _).trans (Below.ofGrown hgrow (Nat.le_trans HSS.out (alloc_le _ _)) (ownsRow_base HOS.out))))); have vR := HVR.out.cell; have fR := HVR.out.frozen; clear hown hgrow hat hlt) | (go_simp; go_at_call 151; refine (along_nil wa.drew).mono ?_; rintro e ws ⟨g, rfl, HBS'⟩; have HBS := Lib.hid (show Below wa.heap.size wa ws from below_undrew HBS'.out); have HVS := Lib.hid (HVA.out.below HBS.out); have HTS := Lib.hid (HTA.out.below HBS.out); have HOS := Lib.hid (ownsRow_below HOA.out HBS.out); have HSS := Lib.hid (Nat.le_trans HSA.out HBS.out.size); have HKS := Lib.hid (HKA.out.trans (KeepB.of_below (HBS.out.mono HSA.out))); have HSY := Lib.hid HTS.out.cell; have HSZ := Lib.hid (HTS.out.alloc (.cells #[.slice (some ⟨g, 0, none⟩) 0 0] 22)).cell; have v2 := HVS.out.cell; have v3 := (HVS.out.alloc (.cells #[.slice (some ⟨g, 0, none⟩) 0 0] 22)).cell; dsimp only))
        all_goals
          go_wp2
          go_roundg (2 - 2)
          case measure => omega
          case rel => exact ⟨2, _, l ++ [g], rfl, by omega, rfl, by simp [hl], Lib.hid (HVR.out.set 0 (.slice (some ⟨gR, 0, none⟩) (1 + 1) cR)), Lib.hid (ownsRow_block (by have := HOR.out; simpa using this) fun b hlt hv => Below.heap_setCell _ _ _ _ (show b ≠ w.heap.size + 1 + 1 by have := ownsRow_base HOR.out b hv; have := HZ.out; omega)), Lib.hid (HKR.out.setD 0 _)⟩
    · obtain rfl : i = 2 := by omega
      obtain ⟨a0, a1, rfl⟩ : ∃ a0 a1, l = [a0, a1] := by
        match l, hl with
        | [a0, a1], _ => exact ⟨a0, a1, rfl⟩
      obtain ⟨A3, c3, hv3⟩ := ownsRow_shape HO.out
      subst hv3
      obtain ⟨gP, hgP, hc3, -, hs⟩ := row_at HO.out (by omega)
      subst hgP
      obtain ⟨w5, hw5, hb5, hk5⟩ : ∃ w5, w5 = wr.alloc (.cells #[.slice none 0 0] 22) ∧ Below wr.heap.size wr w5 ∧ Blk w5 wr.heap.size [.slice none 0 0] 22 := ⟨_, rfl, (Below.refl _ _).alloc (Nat.le_refl _) _, heap_alloc_new wr _⟩
      have hp : PAt w5 (w.heap.size + 1) (w.heap.size + 1 + 1) w.heap.size wr.heap.size gT cT gD cD gP c3 a0 a1 A D := by
        refine ⟨HX1.out.below hb5, HV.out.below hb5, HNB.out.below hb5, hk5, HT0.out _ (HBW.out.trans (hb5.mono HBW.out.size)), HD0.out _ (HBW.out.trans (hb5.mono HBW.out.size)), cell_below hb5 (hs 0 (by omega)), cell_below hb5 (hs 1 (by omega))⟩
      have HIX := Lib.hid (index_six _ _ _ _ _ _ _ _ _ _ _ _ A D w5 hp (by have := HBW.out.size; have := HX1.out.lt; omega))
      have HB5 := Lib.hid (HBW.out.trans (hb5.mono HBW.out.size))
      have HSZ5 := Lib.hid (And.intro HBW.out.size hb5.size)
      clear hp hb5 hk5 hs
      go_upto_region 8 with fail
      rw [← hw5]
      clear hw5
      go_wp2_with (go_at_call 152; refine HIX.out.mono ?_; rintro e w6 ⟨rfl, gR, cR, H1, H2, H3, H4⟩; have o6 := H1.out.cell)
      go_ret
      exact ⟨gR, cR, rfl, H2, Lib.hid (by have := HSZ5.out; have := H3.out; omega), Lib.hid (HB5.out.trans (H4.out.toBelow (by have := HSZ5.out; omega) (by have := HSZ5.out; omega)))⟩
end Go.Proofs.YtdbhlkejfecffaaGreatDoor
/-
  graph: the values of both nodes.
-/
namespace Go.Proofs.YtdbhlkejfecffaaGreatDoor
open Go.RowKit KeepPlain

theorem infoT : (Tryz.prog.info? 68).map (fun i => (i.zero, i.size, i.bytes)) = some (some (.agg #[.slice none 0 0, .slice none 0 0]), 2, 48) := by kernel_rfl
/-- What can be read of a row of one's own whose elements have two cells. -/
theorem row_two {w : World} {base e : Nat} {xs : List Value} {A : Option Addr} {n c : Nat} (h : w.ownsRow base e 2 (.slice A n c) n xs) (h0 : 0 < n) : ∃ g, A = some ⟨g, 0, none⟩ ∧ n ≤ c ∧ c ≤ maxLen ∧ ∀ i, i < n * 2 → w.cell? ⟨g, i, none⟩ = xs[i]? := by
  rcases h.2 with ⟨hv, hn⟩ | ⟨g, cap, cur, hv, a3, a4, a5, a6, a7, a8⟩
  · omega
  · injection hv with e1 e2 e3
    subst e1 e3
    refine ⟨g, rfl, a5, a6, fun i hi => ?_⟩
    unfold World.cell?
    simp only [a4]
    rw [← a8, List.getElem?_take]
    simp [hi]
set_option maxRecDepth 100000 in
set_option maxHeartbeats 1600000 in
theorem value_const (x dims args : Value) (bD : Nat) (w : World) (hd : Blk w bD [.int .i64 3] 3) :
    Calls Tryz.prog 81 #[x, nodeV 2 (.slice none 0 0) (.slice (some ⟨bD, 0, none⟩) 1 1), dims, args] w fun e w' => ∃ g c, e = .returned (.slice (some ⟨g, 0, none⟩) 1 c) ∧ Hid (w'.cell? ⟨g, 0, none⟩ = some (.int .i64 3)) ∧ Hid (Below w.heap.size w w') := by
  obtain ⟨w0, hw0, hb0, hk0⟩ : ∃ w0, w.alloc (.cells (nodeC 2 (.slice none 0 0) (.slice (some ⟨bD, 0, none⟩) 1 1)).toArray 57) = w0 ∧ Below w.heap.size w w0 ∧ Blk w0 w.heap.size (nodeC 2 (.slice none 0 0) (.slice (some ⟨bD, 0, none⟩) 1 1)) 57 := ⟨_, rfl, (Below.refl _ _).alloc (Nat.le_refl _) _, heap_alloc_new w _⟩
  have HB0 := Lib.hid hb0
  have HC := Lib.hid (Tryz.slices_Clone_int bD 0 1 1 [3] w0 (by decide) (by decide) (fun j hj => by
    have : j = 0 := by simpa using hj
    subst this
    rw [(hd.below hb0).cell]; rfl))
  have q := hk0.cell
  clear hb0 hk0 hd
  unfold nodeC at *
  unfold nodeV
  go_enter Tryz.func81, Tryz.ntmps81
  go_wp2_with (go_at_call 31; refine HC.out.mono ?_; rintro e w1 ⟨v, rfl, ho, -, hb1⟩; have HO := Lib.hid ho; have HB1 := Lib.hid hb1; clear ho hb1)
  obtain ⟨g, c, hv, -, -, hg⟩ := row_one HO.out
  subst hv
  go_ret
  exact ⟨g, c, rfl, Lib.hid hg, Lib.hid (HB0.out.trans (HB1.out.mono HB0.out.size))⟩
set_option maxRecDepth 100000 in
set_option maxHeartbeats 1600000 in
theorem value_add (x : Value) (gT cT gD cD : Nat) (A D : Value) (w : World) (ht : ∀ o, o < 4 → w.cell? ⟨gT, o, none⟩ = ([.slice none 0 0, .slice (some ⟨gD, 0, none⟩) 1 cD, .slice none 0 0, .slice (some ⟨gD, 0, none⟩) 1 cD] : List Value)[o]?) (hd : w.cell? ⟨gD, 0, none⟩ = some (.int .i64 3)) :
    Calls Tryz.prog 81 #[x, nodeV 4 A D, .slice none 0 0, .slice (some ⟨gT, 0, none⟩) 2 cT] w fun e w' => ∃ g c, e = .returned (.slice (some ⟨g, 0, none⟩) 1 c) ∧ Hid (w'.cell? ⟨g, 0, none⟩ = some (.int .i64 6)) ∧ Hid (w.heap.size ≤ g) ∧ Hid (Below w.heap.size w w') := by
  obtain ⟨w0, hw0, hb0, hk0⟩ : ∃ w0, w.alloc (.cells (nodeC 4 A D).toArray 57) = w0 ∧ Below w.heap.size w w0 ∧ Blk w0 w.heap.size (nodeC 4 A D) 57 := ⟨_, rfl, (Below.refl _ _).alloc (Nat.le_refl _) _, heap_alloc_new w _⟩
  have HB0 := Lib.hid hb0
  have hlt : gT < w.heap.size := World.block_lt_of_cell? w _ (show w.cell? ⟨gT, 0, none⟩ = some (.slice none 0 0) from ht 0 (by omega))
  have HP := Lib.hid (pointwise_six gT cT gD cD A D w0 (fun o ho => by rw [World.cell?_of_block (a := ⟨gT, o, none⟩) (hb0.block gT hlt)]; exact ht o ho) (cell_below hb0 hd))
  have q := hk0.cell
  clear hb0 hk0 ht hd hlt
  unfold nodeC at *
  unfold nodeV at HP ⊢
  go_enter Tryz.func81, Tryz.ntmps81
  go_wp2_with (go_at_call 111; refine HP.out.mono ?_; rintro e w1 ⟨g, c, rfl, hg, hge, hb1⟩)
  go_ret
  exact ⟨g, c, rfl, hg, Lib.hid (Nat.le_trans HB0.out.size hge.out), Lib.hid (HB0.out.trans (hb1.out.mono HB0.out.size))⟩
end Go.Proofs.YtdbhlkejfecffaaGreatDoor
