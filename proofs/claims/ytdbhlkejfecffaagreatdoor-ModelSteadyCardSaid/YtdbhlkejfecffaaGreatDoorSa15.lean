/-
  models: scores.
-/
import Derived.Test.YtdbhlkejfecffaaGreatDoorSa14
/-
  models: scores.
-/
namespace Go.Proofs.YtdbhlkejfecffaaGreatDoor
open Go.RowKit

/-- What a model makes of entries, whatever its kind. -/
def HOut (m : MD) (W : Nat) (E : List (List Int)) (B : Nat) (w : World) (e : Ending) (w' : World) : Prop := ∃ g c, e = .returned (.slice (some ⟨g, 0, none⟩) W c) ∧ Hid (Below B w w') ∧ Hid (RdAt w' g 0 c (hL m W E))
set_option maxRecDepth 100000 in
set_option maxHeartbeats 3200000 in
theorem scores_any (m : MD) (p : MPl) (W V T Q : Nat) (hm : m.Ok) (hd : m.Dim W V T Q) (b o c n : Nat) (E : List (List Int)) (P : Nat → Pl) (hn : n = E.length) (h0 : 0 < n) (hn2 : n ≤ 64) (w : World) (h : ModAt w m p) (he : EntsAt w b o E (lenE m W) P) :
    Calls Tryz.prog 40 #[.agg (modV m p W).toArray, .slice (some ⟨b, o, none⟩) n c] w fun e w' => ∃ g c, e = .returned (.slice (some ⟨g, 0, none⟩) V c) ∧ Hid (Below w.heap.size w w') ∧ Hid (RdAt w' g 0 c (scL m W E V)) := by
  obtain ⟨wb, hwb, hbel, hblk⟩ : ∃ wb, w.alloc (.cells (modV m p W).toArray 27) = wb ∧ Below w.heap.size w wb ∧ Blk wb w.heap.size (modV m p W) 27 := ⟨_, rfl, (Below.refl _ _).alloc (Nat.le_refl _) _, heap_alloc_new w _⟩
  have hb1 := h.below hbel
  have heb := he.below hbel
  have HQ := Lib.hid (fun (wx : World) (hb : Below wb.heap.size wb wx) => (hblk.below hb).cell)
  have q0 := hblk.cell
  have HB := Lib.hid hbel
  have HWB := Lib.hid hwb
  have HD := Lib.hid hb1
  have HDM := Lib.hid hd
  have hw1 := hd.w1
  have hv1 := hd.v1
  have hwv := hd.wv
  obtain ⟨i0, hi, hz0, hz1, hz2⟩ := info_parts info3
  have HRO := Lib.hid (fun (k : Nat) (hk : k < V) wx => mrow_any p.out.b p.out.o p.out.c m.out.length k W (by have := hd.w1; omega) (by rw [hd.out]; exact hd.row hk) hb1.out.1 (by rw [hd.out]; omega) wx)
  have HOR := Lib.hid (fun (wx : World) (hb : Below wb.heap.size wb wx) k (hk : k < V) => (hb1.below hb).out.row k W (by rw [hd.out]; exact hd.row hk))
  have HOL := Lib.hid (fun k (hk : k < V) => (show (rowL m.out k W).length = W from rowL_len (by rw [hd.out]; exact hd.row hk)))
  have HHL := Lib.hid (hL_len m W E)
  have hv := hd.vocab
  rcases (show m.kind = 1 ∨ m.kind = 2 ∨ m.kind = 3 by have := hm.kind; omega) with hk | hk | hk
  · have HA := Lib.hid (show Calls Tryz.prog 49 #[.agg (modV m p W).toArray, .slice (some ⟨b, o, none⟩) n c] wb (HOut m W E wb.heap.size wb) from by
      refine (attend_any m p W V T Q hm hd b o c n E P hn h0 hn2 wb hb1 (by rw [show lenE m W = 3 * W by unfold lenE; rw [if_pos hk]] at heb; exact heb)).mono ?_
      rintro e w1 ⟨g, c', rfl, h1, h2⟩
      exact ⟨g, c', rfl, h1, by rw [show hL m W E = attOut m W E by unfold hL; rw [if_pos hk]]; exact h2⟩)
    clear hbel hblk h he hb1 heb hd hwv hn
    simp only [modV, hk, hv] at q0 HQ HA hwb ⊢
    clear hk hv
    go_enter Tryz.func40, Tryz.ntmps40
    go_wp2_with (go_at_call 49; refine HA.out.mono ?_; rintro e w1 ⟨g1, c1, rfl, HB1, HR1⟩; have q1 := HQ.out _ HB1.out)
    go_loopg [6, 25] V (fun gk s6 s25 wx => ∃ k : Nat, s25 = .int .i64 k ∧ k ≤ V ∧ Hid (Below w1.heap.size w1 wx) ∧ Hid (wx.ownsRow w1.heap.size 3 1 s6 k (ints (scL m W E k))) ∧ gk = V - k)
    case atStart => exact ⟨0, rfl, by omega, Lib.hid (Below.refl _ _), Lib.hid (World.ownsRow_nil _ _ _ _), rfl⟩
    case round =>
      obtain ⟨k, rfl, hkV, HB2, HO2, rfl⟩ := hrel
      obtain ⟨A7, c7, hv7⟩ := ownsRow_shape HO2.out
      subst hv7
      have HB12 := Lib.hid (HB1.out.trans (HB2.out.mono HB1.out.size))
      by_cases hlt : k < V
      · have q2 := HQ.out _ HB12.out
        have HRO1 := Lib.hid (fun wx => HRO.out k hlt wx)
        have HOR1 := Lib.hid (HOR.out wr HB12.out k hlt)
        have HOL1 := Lib.hid (HOL.out k hlt)
        have HS := Lib.hid (show scL m W E (k + 1) = scL m W E k ++ [dotI (rowL m.out k W) (hL m W E)] from rfl)
        generalize rowL m.out k W = ro at *
        generalize hL m W E = hl at *
        generalize p.out.o + W * k = M0 at *
        generalize p.out.c - W * k = C0 at *
        have hb1 : k + 1 ≤ maxLen := by unfold maxLen; omega
        have hb2 : (k + 1) * 8 ≤ 140737488355328 := by omega
        clear q0 q1
        go_wp2_with (first | (at_builtin; refine wpList_append_lies _ rfl _ _ 22 rfl w1.heap.size 3 i0 (.int .i64 0) 1 8 Tryz.underlying22 hi hz0 hz1 hz2 rfl (by decide) _ k _ rfl (ownsRow_below HO3.out (Below.alloc (Below.refl _ _) (Nat.le_refl _) _)) ⟨w3.heap.size, 0, none⟩ 1 1 [.int .i64 (dotI ro hl)] rfl rfl (news1' _ _ _) (one_int _ _) Nat.one_pos hb1 hb2 (Nat.le_trans HB3.out.size (alloc_le _ _)) _ rfl ?_; intro g11 cap11 w11 hown11 hgrow11 hat11 hlt11; have HO11 := Lib.hid hown11; have HB11 := Lib.hid (Below.trans (HB3.out.alloc HB3.out.size _) (Below.ofGrown hgrow11 (Nat.le_trans HB3.out.size (alloc_le _ _)) (ownsRow_base HO2.out))); clear hown11 hgrow11 hat11 hlt11) | (go_at_call 36; refine (mdot_any ro hl _ _ _ _ _ _ W W _ HOR1.out (HR1.out.below HB2.out) HOL1.out.symm HHL.out.symm (Nat.le_refl _) (by omega)).mono ?_; rintro e w3 ⟨rfl, k3, hw3⟩; have HB3 := Lib.hid (show Below w1.heap.size w1 w3 by rw [hw3]; exact below_drewN HB2.out _); have HO3 := Lib.hid (show w3.ownsRow w1.heap.size 3 1 (.slice A7 k c7) k (ints (scL m W E k)) by rw [hw3]; exact ownsRow_below HO2.out (below_drewN (Below.refl _ _) _)); clear hw3) | (go_at_call 32; refine (HRO1.out _).mono ?_; rintro e wz ⟨rfl, hz⟩; subst wz))
        go_roundg (V - (k + 1))
        case measure => omega
        case rel =>
          refine ⟨k + 1, by go_num, by omega, HB11, Lib.hid ?_, rfl⟩
          have := HO11.out
          rw [HS.out, ints, List.map_append]
          exact this
      · obtain rfl : V = k := by omega
        rcases HO2.out.2 with ⟨hv, hz⟩ | ⟨g, cap, cur, hv, -⟩
        · omega
        · injection hv with a1 a2 a3
          subst a1 a3
          clear q0 q1
          go_wp2
          go_ret
          exact ⟨_, _, rfl, Lib.hid (HB.out.trans (HB12.out.mono HB.out.size)), Lib.hid (rdat_own HO2.out)⟩
  · have HA := Lib.hid (show Calls Tryz.prog 50 #[.agg (modV m p W).toArray, .slice (some ⟨b, o, none⟩) n c] wb (HOut m W E wb.heap.size wb) from by
      refine (cell_any m p W V T Q hm hk hd b o c n E P hn hn2 wb hb1 (by rw [show lenE m W = W by unfold lenE; rw [if_neg (by omega)]] at heb; exact heb)).mono ?_
      rintro e w1 ⟨g, c', rfl, h1, h2⟩
      exact ⟨g, c', rfl, h1, by rw [show hL m W E = cellH m W E E.length by unfold hL; rw [if_neg (by omega), if_pos hk]]; exact h2⟩)
    clear hbel hblk h he hb1 heb hd hwv hn
    simp only [modV, hk, hv] at q0 HQ HA hwb ⊢
    clear hk hv
    go_enter Tryz.func40, Tryz.ntmps40
    go_wp2_with (go_at_call 50; refine HA.out.mono ?_; rintro e w1 ⟨g1, c1, rfl, HB1, HR1⟩; have q1 := HQ.out _ HB1.out)
    go_loopg [6, 25] V (fun gk s6 s25 wx => ∃ k : Nat, s25 = .int .i64 k ∧ k ≤ V ∧ Hid (Below w1.heap.size w1 wx) ∧ Hid (wx.ownsRow w1.heap.size 3 1 s6 k (ints (scL m W E k))) ∧ gk = V - k)
    case atStart => exact ⟨0, rfl, by omega, Lib.hid (Below.refl _ _), Lib.hid (World.ownsRow_nil _ _ _ _), rfl⟩
    case round =>
      obtain ⟨k, rfl, hkV, HB2, HO2, rfl⟩ := hrel
      obtain ⟨A7, c7, hv7⟩ := ownsRow_shape HO2.out
      subst hv7
      have HB12 := Lib.hid (HB1.out.trans (HB2.out.mono HB1.out.size))
      by_cases hlt : k < V
      · have q2 := HQ.out _ HB12.out
        have HRO1 := Lib.hid (fun wx => HRO.out k hlt wx)
        have HOR1 := Lib.hid (HOR.out wr HB12.out k hlt)
        have HOL1 := Lib.hid (HOL.out k hlt)
        have HS := Lib.hid (show scL m W E (k + 1) = scL m W E k ++ [dotI (rowL m.out k W) (hL m W E)] from rfl)
        generalize rowL m.out k W = ro at *
        generalize hL m W E = hl at *
        generalize p.out.o + W * k = M0 at *
        generalize p.out.c - W * k = C0 at *
        have hb1 : k + 1 ≤ maxLen := by unfold maxLen; omega
        have hb2 : (k + 1) * 8 ≤ 140737488355328 := by omega
        clear q0 q1
        go_wp2_with (first | (at_builtin; refine wpList_append_lies _ rfl _ _ 22 rfl w1.heap.size 3 i0 (.int .i64 0) 1 8 Tryz.underlying22 hi hz0 hz1 hz2 rfl (by decide) _ k _ rfl (ownsRow_below HO3.out (Below.alloc (Below.refl _ _) (Nat.le_refl _) _)) ⟨w3.heap.size, 0, none⟩ 1 1 [.int .i64 (dotI ro hl)] rfl rfl (news1' _ _ _) (one_int _ _) Nat.one_pos hb1 hb2 (Nat.le_trans HB3.out.size (alloc_le _ _)) _ rfl ?_; intro g11 cap11 w11 hown11 hgrow11 hat11 hlt11; have HO11 := Lib.hid hown11; have HB11 := Lib.hid (Below.trans (HB3.out.alloc HB3.out.size _) (Below.ofGrown hgrow11 (Nat.le_trans HB3.out.size (alloc_le _ _)) (ownsRow_base HO2.out))); clear hown11 hgrow11 hat11 hlt11) | (go_at_call 36; refine (mdot_any ro hl _ _ _ _ _ _ W W _ HOR1.out (HR1.out.below HB2.out) HOL1.out.symm HHL.out.symm (Nat.le_refl _) (by omega)).mono ?_; rintro e w3 ⟨rfl, k3, hw3⟩; have HB3 := Lib.hid (show Below w1.heap.size w1 w3 by rw [hw3]; exact below_drewN HB2.out _); have HO3 := Lib.hid (show w3.ownsRow w1.heap.size 3 1 (.slice A7 k c7) k (ints (scL m W E k)) by rw [hw3]; exact ownsRow_below HO2.out (below_drewN (Below.refl _ _) _)); clear hw3) | (go_at_call 32; refine (HRO1.out _).mono ?_; rintro e wz ⟨rfl, hz⟩; subst wz))
        go_roundg (V - (k + 1))
        case measure => omega
        case rel =>
          refine ⟨k + 1, by go_num, by omega, HB11, Lib.hid ?_, rfl⟩
          have := HO11.out
          rw [HS.out, ints, List.map_append]
          exact this
      · obtain rfl : V = k := by omega
        rcases HO2.out.2 with ⟨hv, hz⟩ | ⟨g, cap, cur, hv, -⟩
        · omega
        · injection hv with a1 a2 a3
          subst a1 a3
          clear q0 q1
          go_wp2
          go_ret
          exact ⟨_, _, rfl, Lib.hid (HB.out.trans (HB12.out.mono HB.out.size)), Lib.hid (rdat_own HO2.out)⟩
  · have HA := Lib.hid (show Calls Tryz.prog 51 #[.agg (modV m p W).toArray, .slice (some ⟨b, o, none⟩) n c] wb (HOut m W E wb.heap.size wb) from by
      refine (conv_any m p W V T Q hm hd b o c n E P hn hn2 wb hb1 (by rw [show lenE m W = W by unfold lenE; rw [if_neg (by omega)]] at heb; exact heb)).mono ?_
      rintro e w1 ⟨g, c', rfl, h1, h2⟩
      exact ⟨g, c', rfl, h1, by rw [show hL m W E = convOut m W T E by unfold hL; rw [if_neg (by omega), if_neg (by omega), hd.te]]; exact h2⟩)
    clear hbel hblk h he hb1 heb hd hwv hn
    simp only [modV, hk, hv] at q0 HQ HA hwb ⊢
    clear hk hv
    go_enter Tryz.func40, Tryz.ntmps40
    go_wp2_with (go_at_call 51; refine HA.out.mono ?_; rintro e w1 ⟨g1, c1, rfl, HB1, HR1⟩; have q1 := HQ.out _ HB1.out)
    go_loopg [6, 25] V (fun gk s6 s25 wx => ∃ k : Nat, s25 = .int .i64 k ∧ k ≤ V ∧ Hid (Below w1.heap.size w1 wx) ∧ Hid (wx.ownsRow w1.heap.size 3 1 s6 k (ints (scL m W E k))) ∧ gk = V - k)
    case atStart => exact ⟨0, rfl, by omega, Lib.hid (Below.refl _ _), Lib.hid (World.ownsRow_nil _ _ _ _), rfl⟩
    case round =>
      obtain ⟨k, rfl, hkV, HB2, HO2, rfl⟩ := hrel
      obtain ⟨A7, c7, hv7⟩ := ownsRow_shape HO2.out
      subst hv7
      have HB12 := Lib.hid (HB1.out.trans (HB2.out.mono HB1.out.size))
      by_cases hlt : k < V
      · have q2 := HQ.out _ HB12.out
        have HRO1 := Lib.hid (fun wx => HRO.out k hlt wx)
        have HOR1 := Lib.hid (HOR.out wr HB12.out k hlt)
        have HOL1 := Lib.hid (HOL.out k hlt)
        have HS := Lib.hid (show scL m W E (k + 1) = scL m W E k ++ [dotI (rowL m.out k W) (hL m W E)] from rfl)
        generalize rowL m.out k W = ro at *
        generalize hL m W E = hl at *
        generalize p.out.o + W * k = M0 at *
        generalize p.out.c - W * k = C0 at *
        have hb1 : k + 1 ≤ maxLen := by unfold maxLen; omega
        have hb2 : (k + 1) * 8 ≤ 140737488355328 := by omega
        clear q0 q1
        go_wp2_with (first | (at_builtin; refine wpList_append_lies _ rfl _ _ 22 rfl w1.heap.size 3 i0 (.int .i64 0) 1 8 Tryz.underlying22 hi hz0 hz1 hz2 rfl (by decide) _ k _ rfl (ownsRow_below HO3.out (Below.alloc (Below.refl _ _) (Nat.le_refl _) _)) ⟨w3.heap.size, 0, none⟩ 1 1 [.int .i64 (dotI ro hl)] rfl rfl (news1' _ _ _) (one_int _ _) Nat.one_pos hb1 hb2 (Nat.le_trans HB3.out.size (alloc_le _ _)) _ rfl ?_; intro g11 cap11 w11 hown11 hgrow11 hat11 hlt11; have HO11 := Lib.hid hown11; have HB11 := Lib.hid (Below.trans (HB3.out.alloc HB3.out.size _) (Below.ofGrown hgrow11 (Nat.le_trans HB3.out.size (alloc_le _ _)) (ownsRow_base HO2.out))); clear hown11 hgrow11 hat11 hlt11) | (go_at_call 36; refine (mdot_any ro hl _ _ _ _ _ _ W W _ HOR1.out (HR1.out.below HB2.out) HOL1.out.symm HHL.out.symm (Nat.le_refl _) (by omega)).mono ?_; rintro e w3 ⟨rfl, k3, hw3⟩; have HB3 := Lib.hid (show Below w1.heap.size w1 w3 by rw [hw3]; exact below_drewN HB2.out _); have HO3 := Lib.hid (show w3.ownsRow w1.heap.size 3 1 (.slice A7 k c7) k (ints (scL m W E k)) by rw [hw3]; exact ownsRow_below HO2.out (below_drewN (Below.refl _ _) _)); clear hw3) | (go_at_call 32; refine (HRO1.out _).mono ?_; rintro e wz ⟨rfl, hz⟩; subst wz))
        go_roundg (V - (k + 1))
        case measure => omega
        case rel =>
          refine ⟨k + 1, by go_num, by omega, HB11, Lib.hid ?_, rfl⟩
          have := HO11.out
          rw [HS.out, ints, List.map_append]
          exact this
      · obtain rfl : V = k := by omega
        rcases HO2.out.2 with ⟨hv, hz⟩ | ⟨g, cap, cur, hv, -⟩
        · omega
        · injection hv with a1 a2 a3
          subst a1 a3
          clear q0 q1
          go_wp2
          go_ret
          exact ⟨_, _, rfl, Lib.hid (HB.out.trans (HB12.out.mono HB.out.size)), Lib.hid (rdat_own HO2.out)⟩
end Go.Proofs.YtdbhlkejfecffaaGreatDoor
