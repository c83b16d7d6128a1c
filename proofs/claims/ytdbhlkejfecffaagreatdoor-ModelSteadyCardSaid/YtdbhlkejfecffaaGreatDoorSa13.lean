/-
  models: attend.
-/
import Derived.Test.YtdbhlkejfecffaaGreatDoorSa12
/-
  models: attend.
-/
namespace Go.Proofs.YtdbhlkejfecffaaGreatDoor
open Go.RowKit

/-- Entries that can be read. -/
structure EntsAt (w : World) (b o : Nat) (E : List (List Int)) (LE : Nat) (P : Nat → Pl) : Prop where
  cell : ∀ i, i < E.length → w.cell? ⟨b, o + i, none⟩ = some (.slice (some ⟨(P i).b, (P i).o, none⟩) LE (P i).c)
  rd : ∀ i, i < E.length → RdAt w (P i).b (P i).o (P i).c (eAt E i)
  len : ∀ i, i < E.length → (eAt E i).length = LE
theorem EntsAt.below {w w' : World} {b o LE : Nat} {E : List (List Int)} {P : Nat → Pl} (h : EntsAt w b o E LE P) (hb : Below w.heap.size w w') : EntsAt w' b o E LE P := by
  refine ⟨fun i hi => ?_, fun i hi => (h.rd i hi).below hb, h.len⟩
  rw [World.cell?_of_block (a := ⟨b, o + i, none⟩) (w := w) (hb.block b (World.block_lt_of_cell? w _ (h.cell i hi)))]
  exact h.cell i hi
/-- A model boxed in a new block. -/
def modV (m : MD) (p : MPl) (W : Nat) : List Value := [Value.int .i64 m.kind, .int .i64 m.vocab, .int .i64 W, .int .i64 m.top, .slice (some ⟨p.cuts.b, p.cuts.o, none⟩) 4 p.cuts.c, .slice (some ⟨p.embed.b, p.embed.o, none⟩) m.embed.length p.embed.c, .slice (some ⟨p.place.b, p.place.o, none⟩) m.place.length p.place.c, .slice (some ⟨p.mix.b, p.mix.o, none⟩) m.mix.length p.mix.c, .slice (some ⟨p.out.b, p.out.o, none⟩) m.out.length p.out.c, .slice (some ⟨p.soft.b, p.soft.o, none⟩) m.soft.length p.soft.c, .slice (some ⟨p.odds.b, p.odds.o, none⟩) m.odds.length p.odds.c]
theorem modC_V {m : MD} {p : MPl} {W V T Q : Nat} (hd : m.Dim W V T Q) : modC m p = modV m p W := by unfold modC modV; rw [hd.width, hd.cuts]
theorem make_zeros (n : Nat) (hn : n ≤ 1000) (w : World) : ∃ w7, Sem.run Tryz.prog (Instr.makeSlice 22 (.int .i64 (n : Int)) (.int .i64 (n : Int))) w = .ok (.slice (some ⟨w.heap.size, 0, none⟩) n n) w7 ∧ Below w.heap.size w w7 ∧ Blk w7 w.heap.size (ints (List.replicate n 0)) 3 :=
  ⟨_, make_ints n hn w, (Below.refl _ _).alloc (Nat.le_refl _) _, heap_alloc_new w _⟩
theorem lastE_len {W : Nat} {E : List (List Int)} (h : (eAt E (E.length - 1)).length = 3 * W) : (lastE W E).length = W := by
  unfold lastE; rw [List.length_take, List.length_drop, h]; omega
theorem attI_lt (m : MD) (W : Nat) (E : List (List Int)) (i : Nat) (h : 1 ≤ m.soft.length) : attI m W E i < m.soft.length := by unfold attI; omega

set_option maxRecDepth 100000 in
set_option maxHeartbeats 3200000 in
theorem attend_any (m : MD) (p : MPl) (W V T Q : Nat) (hm : m.Ok) (hd : m.Dim W V T Q) (b o c n : Nat) (E : List (List Int)) (P : Nat → Pl) (hn : n = E.length) (h0 : 0 < n) (hn2 : n ≤ 64) (w : World) (h : ModAt w m p) (he : EntsAt w b o E (3 * W) P) :
    Calls Tryz.prog 49 #[.agg (modV m p W).toArray, .slice (some ⟨b, o, none⟩) n c] w fun e w' => ∃ g c, e = .returned (.slice (some ⟨g, 0, none⟩) W c) ∧ Hid (Below w.heap.size w w') ∧ Hid (RdAt w' g 0 c (attOut m W E)) := by
  obtain ⟨wb, hwb, hbel, hblk⟩ : ∃ wb, w.alloc (.cells (modV m p W).toArray 27) = wb ∧ Below w.heap.size w wb ∧ Blk wb w.heap.size (modV m p W) 27 := ⟨_, rfl, (Below.refl _ _).alloc (Nat.le_refl _) _, heap_alloc_new w _⟩
  have hb1 := h.below hbel
  have HE := Lib.hid (he.below hbel)
  have HD := Lib.hid hb1
  have HM := Lib.hid hm
  have HQ := Lib.hid (fun (wx : World) (hb : Below wb.heap.size wb wx) => (hblk.below hb).cell)
  have q0 := hblk.cell
  have HB := Lib.hid hbel
  have HWB := Lib.hid hwb
  have hw1 := hd.w1
  have HN := Lib.hid hn
  have HEL := Lib.hid (fun i (hi : i < n) => he.len i (by omega))
  have HER := Lib.hid (fun (wx : World) (hb : Below wb.heap.size wb wx) i (hi : i < n) => ((he.below hbel).below hb).rd i (by omega))
  have HEC := Lib.hid (fun (wx : World) (hb : Below wb.heap.size wb wx) i (hi : i < n) => ((he.below hbel).below hb).cell i (by omega))
  have e1 := HEC.out wb (Below.refl _ _) (n - 1) (by omega)
  have e2 : (((n - 1 : Nat) : Int)) = (n : Int) - 1 := by omega
  have e3 : IntKind.i64.wrap ((n : Int) - 1) = ((n - 1 : Nat) : Int) := by rw [IntWalk.i64_in _ (by omega)]; omega
  have t1 : n - 1 < n := by omega
  have l12 := (HER.out wb (Below.refl _ _) (n - 1) (by omega)).1
  rw [HEL.out (n - 1) (by omega)] at l12
  obtain ⟨W2, hW2⟩ : ∃ W2, W2 = 2 * W := ⟨_, rfl⟩
  obtain ⟨W3, hW3⟩ : ∃ W3, W3 = 3 * W := ⟨_, rfl⟩
  have e4 : IntKind.i64.wrap (2 * (W : Int)) = (W2 : Int) := by rw [IntWalk.i64_in _ (by omega)]; omega
  have hs2 : W2 - W = W := by omega
  have hs3 : W3 - W2 = W := by omega
  rw [← hW3] at e1 l12
  have HWW := Lib.hid (show W ≤ W2 ∧ W2 ≤ W3 ∧ W3 ≤ 15 ∧ W2 = 2 * W ∧ W3 = 3 * W ∧ W < W2 ∧ W2 < W3 by omega)
  have t2 : ¬ (P (n - 1)).c = W2 := by omega
  have t3 : W2 ≤ W3 := by omega
  have HLL := Lib.hid (show (lastE W E).length = W from lastE_len (by rw [← hn]; exact HEL.out (n - 1) t1))
  have HLR := Lib.hid (fun (wx : World) (hb : Below wb.heap.size wb wx) => (show RdAt wx (P (n - 1)).b ((P (n - 1)).o + W2) ((P (n - 1)).c - W2) (lastE W E) by
    unfold lastE; rw [← hn, ← hW2]; exact (HER.out wx hb (n - 1) t1).part W2 W (by rw [HEL.out (n - 1) t1]; omega)))
  have HC1 := Lib.hid (hm.cut 1 (by decide))
  have HC2 := Lib.hid (hm.cut 2 (by decide))
  have HCC := Lib.hid (fun (wx : World) (hb : Below wb.heap.size wb wx) i (hi : i < 4) => (hb1.below hb).cut hm i hi)
  have HS1 := Lib.hid (fun (wx : World) (hb : Below wb.heap.size wb wx) => And.intro (HQ.out wx hb) (HCC.out wx hb 1 (by decide)))
  have hl3 : (W3 : Int) ≤ ((P (n - 1)).c : Int) := by omega
  simp only [modV] at q0 HQ HS1 hwb ⊢
  rw [← hW3] at HEC HEL
  clear hbel hblk h hd he hb1 hm hn hW2 hW3
  generalize hk1 : m.cut 1 = k1 at HC1 HS1
  have HK1 := Lib.hid hk1
  clear hk1
  go_enter Tryz.func49, Tryz.ntmps49
  go_wp2
  obtain ⟨i0, hi, hz0, hz1, hz2⟩ := info_parts info3
  clear e1 e2 e3 hl3
  go_loopg [7, 31] n (fun gk s7 s31 wx => ∃ k : Nat, s31 = .int .i64 k ∧ k ≤ n ∧ Hid (Below wb.heap.size wb wx) ∧ Hid (wx.ownsRow wb.heap.size 3 1 s7 k (ints (attS m W E k))) ∧ gk = n - k)
  case atStart => exact ⟨0, rfl, by omega, Lib.hid (Below.refl _ _), Lib.hid (World.ownsRow_nil _ _ _ _), rfl⟩
  case round =>
    obtain ⟨k, rfl, hk, HB7, HO7, rfl⟩ := hrel
    obtain ⟨A7, c7, hv7⟩ := ownsRow_shape HO7.out
    subst hv7
    by_cases hlt : k < n
    · have q7 := HQ.out wr HB7.out
      have c1 := HEC.out wr HB7.out k hlt
      have l12k := (HER.out wb (Below.refl _ _) k hlt).1
      rw [HEL.out k hlt] at l12k
      have HERK := Lib.hid (fun (wx : World) (hb : Below wb.heap.size wb wx) => (show RdAt wx (P k).b (P k).o (P k).c (((eAt E k).drop 0).take W) from (HER.out wx hb k hlt).part 0 W (by rw [HEL.out k hlt]; have := HWW.out; omega)))
      have HELK := Lib.hid (show (((eAt E k).drop 0).take W).length = W by rw [List.length_take, List.length_drop, HEL.out k hlt]; have := HWW.out; omega)
      have HJ := Lib.hid (show attJ m W E k = shiftI (dotI (((eAt E k).drop 0).take W) (lastE W E)) k1 by unfold attJ; rw [HK1.out])
      have hb1 : k + 1 ≤ maxLen := by unfold maxLen; omega
      have hb2 : (k + 1) * 8 ≤ 140737488355328 := by omega
      have HH := Lib.hid (And.intro hb1 hb2)
      have hwc : W ≤ (P k).c := by have := HWW.out; omega
      generalize ((eAt E k).drop 0).take W = ek at *
      generalize lastE W E = le at *
      clear q0 hb1 hb2
      go_upto_region 7 with fail
      have l4k : (W : Int) ≤ ((P k).c : Int) := by omega
      go_region_held3 (fun wy : World => (∀ o, wy.cell? ⟨w.heap.size, o, none⟩ = ([Value.int .i64 m.kind, .int .i64 m.vocab, .int .i64 W, .int .i64 m.top, .slice (some ⟨p.cuts.b, p.cuts.o, none⟩) 4 p.cuts.c, .slice (some ⟨p.embed.b, p.embed.o, none⟩) m.embed.length p.embed.c, .slice (some ⟨p.place.b, p.place.o, none⟩) m.place.length p.place.c, .slice (some ⟨p.mix.b, p.mix.o, none⟩) m.mix.length p.mix.c, .slice (some ⟨p.out.b, p.out.o, none⟩) m.out.length p.out.c, .slice (some ⟨p.soft.b, p.soft.o, none⟩) m.soft.length p.soft.c, .slice (some ⟨p.odds.b, p.odds.o, none⟩) m.odds.length p.odds.c] : List Value)[o]?) ∧ wy.cell? ⟨p.cuts.b, p.cuts.o + 1, none⟩ = some (.int .i64 (k1 : Int))) (first | exact HS1.out _ HB11.out | exact HS1.out _ (HB9.out.alloc HB9.out.size _) | exact HS1.out _ HB9.out | exact HS1.out _ HB7.out.drew) (first
        | (refine step_append_lies _ (by rfl) _ _ _ (by rfl) wb.heap.size 3 i0 (.int .i64 0) 1 8 Tryz.underlying22 hi hz0 hz1 hz2 rfl (by decide) (.slice A7 k c7) k _ (by rfl) (ownsRow_below HO9.out (Below.alloc (Below.refl _ _) (Nat.le_refl _) _)) ⟨w9.heap.size, 0, none⟩ 1 1 [.int .i64 (shiftI (dotI ek le) k1)] (by rfl) (by rfl) (news1' _ _ _) (one_int _ _) Nat.one_pos HH.out.1 HH.out.2 (Nat.le_trans HB9.out.size (alloc_le _ _)) _ rfl ?_; intro g11 cap11 w11 hown11 hgrow11 hat11 hlt11; have HO11 := Lib.hid hown11; have HB11 := Lib.hid (Below.trans (HB9.out.alloc HB9.out.size _) (Below.ofGrown hgrow11 (Nat.le_trans HB9.out.size (alloc_le _ _)) (ownsRow_base HO7.out))); clear hown11 hgrow11 hat11 hlt11)
        | (go_at_call 35; refine (mshift_any _ _ ⟨HC1.out.1, HC1.out.2.1⟩ _).mono ?_; rintro e wz ⟨rfl, hz⟩; subst wz; dsimp only)
        | (go_at_call 36; refine (mdot_any ek le _ _ _ _ _ _ W W _ (HERK.out _ HB7.out.drew) (HLR.out _ HB7.out.drew) HELK.out.symm HLL.out.symm (Nat.le_refl _) (by omega)).mono ?_; rintro e w9 ⟨rfl, k9, hw9⟩; have HB9 := Lib.hid (show Below wb.heap.size wb w9 by rw [hw9]; exact below_drewN HB7.out.drew _); have HO9 := Lib.hid (show w9.ownsRow wb.heap.size 3 1 (.slice A7 k c7) k (ints (attS m W E k)) by rw [hw9]; exact ownsRow_below HO7.out (below_drewN (Below.refl _ _).drew _)); clear hw9; dsimp only))
      go_wp2
      go_roundg (n - (k + 1))
      case measure => omega
      case rel =>
        refine ⟨k + 1, by go_num, by omega, HB11, Lib.hid ?_, rfl⟩
        have := HO11.out
        rw [attS, mkL, HJ.out, ints, List.map_append]
        exact this
    · obtain rfl : n = k := by omega
      obtain ⟨w6, rfl⟩ : ∃ w6, w6 = wr := ⟨_, rfl⟩
      obtain ⟨g7, hA⟩ : ∃ g7, A7 = some ⟨g7, 0, none⟩ := by
        rcases HO7.out.2 with ⟨hv, hz⟩ | ⟨g, cap, cur, hv, -⟩
        · omega
        · injection hv with a; exact ⟨g, a⟩
      subst hA
      have HRS := Lib.hid (rdat_own HO7.out)
      have HLS := Lib.hid (show (attS m W E n).length = n from mkL_len _ _)
      clear q0
      obtain ⟨w7, hmk, hb7, hk7⟩ := make_zeros W (by omega) w6
      have HB8 := Lib.hid hb7
      have HK8 := Lib.hid (show Blk w7 w6.heap.size (ints (attH m W E 0)) 3 from hk7)
      have HQ6 := Lib.hid (fun (wx : World) (hb : Below w6.heap.size w6 wx) => HQ.out wx (HB7.out.trans (hb.mono HB7.out.size)))
      have HD6 := Lib.hid (HD.out.below HB7.out)
      have HER6 := Lib.hid (fun (wx : World) (hb : Below w6.heap.size w6 wx) => HER.out wx (HB7.out.trans (hb.mono HB7.out.size)))
      have HEC6 := Lib.hid (fun (wx : World) (hb : Below w6.heap.size w6 wx) => HEC.out wx (HB7.out.trans (hb.mono HB7.out.size)))
      have q6 := HQ6.out w6 (Below.refl _ _)
      generalize hg8 : w6.heap.size = g8 at hmk HB8 HK8 HQ6 HER6 HEC6
      have HG8 := Lib.hid hg8
      clear hb7 hk7 hg8
      go_upto_region 11 with (first | (go_at_call 47; refine (imax_any (attS m W E n) g7 0 c7 n HLS.out.symm h0 (by omega) _ HRS.out).mono ?_; rintro e wz ⟨rfl, hz⟩; subst wz))
      clear q6 hmk
      generalize hmx : maxI (attS m W E n) = mx
      have HMX := Lib.hid hmx
      clear hmx
      have HSL := Lib.hid HM.out.soft
      obtain ⟨SL, hSL⟩ : ∃ SL, SL = m.soft.length := ⟨_, rfl⟩
      have HSLE := Lib.hid hSL
      obtain ⟨S1, hS1⟩ : ∃ S1, SL = S1 + 1 := ⟨SL - 1, by have := HSL.out.1; omega⟩
      have HSL2 := Lib.hid (show SL ≤ 64 ∧ SL = S1 + 1 by have := HSL.out; omega)
      rw [← hSL] at HQ6
      clear hSL hS1
      go_wp2
      go_loopg [55] n (fun gk s55 wx => ∃ i : Nat, s55 = .int .i64 i ∧ i ≤ n ∧ Hid (Below g8 w6 wx) ∧ Hid (Blk wx g8 (ints (attH m W E i)) 3) ∧ gk = n - i)
      case atStart => exact ⟨0, rfl, by omega, HB8, HK8, rfl⟩
      case round =>
        obtain ⟨i, rfl, hik, HB9, HK9, rfl⟩ := hrel
        have q9 := HQ6.out wr HB9.out
        by_cases hlti : i < n
        · have c9 := HEC6.out wr HB9.out i hlti
          have cs := (HRS.out.below (by rw [HG8.out]; exact HB9.out)).2.2 i (by rw [HLS.out]; exact hlti)
          rw [Nat.zero_add] at cs
          have HSO := Lib.hid (HD6.out.below (by rw [HG8.out]; exact HB9.out)).soft
          have hwt := (show attW m W E i = m.soft.getD (min (max (w32 (wrap64 (maxI (attS m W E E.length) - (attS m W E E.length).getD i 0))) 0) ((m.soft.length : Int) - 1)).toNat 0 from rfl)
          rw [← HN.out, HMX.out, ← HSLE.out] at hwt
          have HWT := Lib.hid hwt
          clear hwt
          generalize (attS m W E n).getD i 0 = si at cs HWT
          generalize hd : w32 (wrap64 (mx - si)) = dd at HWT
          have HWR := Lib.hid (fun (x : Int) (hx : x = wrap64 (mx - si)) (wx : World) => (by rw [hx, ← hd]; exact mwrap_any _ wx : Calls Tryz.prog 34 #[.int .i64 x] wx fun e w' => e = .returned (.int .i64 dd) ∧ w' = wx))
          clear hd
          have hsl1 : 1 ≤ SL := by have := HSL2.out; omega
          obtain ⟨j, hj, hj7, hjm⟩ : ∃ j : Nat, min (max dd 0) (S1 : Int) = (j : Int) ∧ j < SL ∧ (min (max dd 0) ((SL : Int) - 1)).toNat = j :=
            ⟨(min (max dd 0) ((SL : Int) - 1)).toNat, by have := HSL2.out; omega, by omega, rfl⟩
          rw [hjm] at HWT
          have w6' : IntKind.i64.wrap ((SL : Int) - 1) = (S1 : Int) := by rw [IntWalk.i64_in _ (by have := HSL2.out; omega)]; have := HSL2.out; omega
          have w6'' : wrap64 ((SL : Int) - 1) = (S1 : Int) := by rw [← wrapEq]; exact w6'
          have c0 := HSO.out.2.2 j (by rw [← HSLE.out]; exact hj7)
          rw [← HWT.out] at c0
          have j1 : (j : Int) < (SL : Int) := by omega
          have HHI := Lib.hid (show attH m W E (i + 1) = stL (fun h o => w32 (wrap64 (h + w32 (wrap64 (attW m W E i * (((eAt E i).drop W).take W).getD o 0))))) (attH m W E i) W from rfl)
          generalize attW m W E i = wt at c0 HWT HHI
          clear hjm hsl1
          go_upto_region 14 with fail
          go_quiet (first | (go_at_call 34; exact Calls.quiet_of_same (HWR.out _ (by first | rfl | exact wrapEq _) _)))
          have l12i := (HER6.out w6 (by rw [← HG8.out]; exact Below.refl _ _) i hlti).1
          rw [HEL.out i hlti] at l12i
          have hww := HWW.out
          have t4 : ¬ (P i).c = W := by omega
          have HV := Lib.hid (fun (wx : World) (hb : Below g8 w6 wx) => (show RdAt wx (P i).b ((P i).o + W) ((P i).c - W) (((eAt E i).drop W).take W) from (HER6.out wx hb i hlti).part W W (by rw [HEL.out i hlti]; omega)))
          have HVL := Lib.hid (show (((eAt E i).drop W).take W).length = W by rw [List.length_take, List.length_drop, HEL.out i hlti]; omega)
          have HHL := Lib.hid (attH_len m W E i)
          obtain ⟨fx, hfx⟩ : ∃ fx : Int → Nat → Int, fx = fun h o => w32 (wrap64 (h + w32 (wrap64 (wt * (((eAt E i).drop W).take W).getD o 0)))) := ⟨_, rfl⟩
          have HFX := Lib.hid (fun h o => show fx h o = w32 (wrap64 (h + w32 (wrap64 (wt * (((eAt E i).drop W).take W).getD o 0)))) by rw [hfx])
          rw [← hfx] at HHI
          generalize ((eAt E i).drop W).take W = ev at *
          generalize hhi : attH m W E i = hi' at HK9 HHL HHI
          have tw2 : (W : Int) ≤ (W2 : Int) := by omega
          have tw3 : W ≤ W2 := by omega
          have tw4 : W2 ≤ (P i).c := by omega
          have tw5 : W2 ≤ W3 := by omega
          clear q9 c9 cs c0 hj w6' w6'' hfx hww hhi hj7
          go_wp2
          go_loopg [83] W (fun gk s83 wx => ∃ r : Nat, s83 = .int .i64 r ∧ r ≤ W ∧ Hid (Below g8 w6 wx) ∧ Hid (Blk wx g8 (ints (stL fx hi' r)) 3) ∧ gk = W - r)
          case atStart => exact ⟨0, rfl, by omega, Lib.hid (below_drewN HB9.out _), Lib.hid (HK9.out.drewN _), rfl⟩
          case round =>
            obtain ⟨r, rfl, hr4, HBr, HKr, rfl⟩ := hrel
            by_cases hltr : r < W
            · have hll := stL_len fx hi' r
              rw [HHL.out] at hll
              have c1 : wr.cell? ⟨g8, r, none⟩ = some (.int .i64 ((stL fx hi' r).getD r 0)) := by
                rw [HKr.out.cell r]; simp [ints, List.getD, hll, hltr]
              have f1 := HKr.out.frozen r
              have c3 := (HV.out _ HBr.out).2.2 r (by rw [HVL.out]; exact hltr)
              have HS := Lib.hid (show stL fx hi' (r + 1) = (stL fx hi' r).set r (w32 (wrap64 ((stL fx hi' r).getD r 0 + w32 (wrap64 (wt * ev.getD r 0))))) by rw [← HFX.out]; rfl)
              clear hll
              generalize (stL fx hi' r).getD r 0 = hv at c1 HS
              generalize ev.getD r 0 = ex at c3 HS
              have tr : decide ((r : Int) < (W : Int)) = true := decide_eq_true (by omega)
              have tr1 : (r : Int) < (W : Int) := by omega
              go_upto_region 18 with fail
              go_region_with (first | (go_at_call 34; refine (mwrap_any _ _).mono ?_; rintro e wz ⟨rfl, hz⟩; subst wz))
              all_goals
                go_wp2
                go_roundg (W - (r + 1))
                case measure => omega
                case rel =>
                  refine ⟨r + 1, by go_num, by omega, Lib.hid ?_, Lib.hid ?_, rfl⟩
                  · exact HBr.out.drew.setCell (Nat.le_refl _) _
                  · have := (HKr.out.drew).set r (.int .i64 (w32 (wrap64 (hv + w32 (wrap64 (wt * ex))))))
                    rw [ints_set, ← HS.out] at this
                    exact this
            · obtain rfl : W = r := by omega
              go_wp2
              go_roundg (n - (i + 1))
              case measure => omega
              case rel => exact ⟨i + 1, by go_num, by omega, HBr, Lib.hid (by rw [HHI.out]; exact HKr.out), rfl⟩
        · obtain rfl : n = i := by omega
          have HHL := Lib.hid (attH_len m W E n)
          obtain ⟨k2, hk2⟩ : ∃ k2, k2 = m.cut 2 := ⟨_, rfl⟩
          rw [← hk2] at HC2
          obtain ⟨fx, hfx⟩ : ∃ fx : Int → Nat → Int, fx = fun h _ => shiftI h k2 := ⟨_, rfl⟩
          have HFX := Lib.hid (fun h (o : Nat) => show fx h o = shiftI h k2 by rw [hfx])
          have HOUT := Lib.hid (show attOut m W E = stL fx (attH m W E n) W by unfold attOut; rw [hfx, hk2, ← HN.out])
          have HS6 := Lib.hid (fun (wx : World) (hb : Below g8 w6 wx) => And.intro (HQ6.out wx hb) (show wx.cell? ⟨p.cuts.b, p.cuts.o + 2, none⟩ = some (.int .i64 (k2 : Int)) by rw [hk2]; exact (HD6.out.below (by rw [HG8.out]; exact hb)).cut HM.out 2 (by decide)))
          generalize attH m W E n = hn' at *
          clear q9 hfx hk2
          go_wp2
          go_loopg [105] W (fun gk s105 wx => ∃ r : Nat, s105 = .int .i64 r ∧ r ≤ W ∧ Hid (Below g8 w6 wx) ∧ Hid (Blk wx g8 (ints (stL fx hn' r)) 3) ∧ gk = W - r)
          case atStart => exact ⟨0, rfl, by omega, HB9, HK9, rfl⟩
          case round =>
            obtain ⟨r, rfl, hr4, HBr, HKr, rfl⟩ := hrel
            have hll := stL_len fx hn' r
            rw [HHL.out] at hll
            by_cases hltr : r < W
            · have c1 : wr.cell? ⟨g8, r, none⟩ = some (.int .i64 ((stL fx hn' r).getD r 0)) := by
                rw [HKr.out.cell r]; simp [ints, List.getD, hll, hltr]
              have f1 := HKr.out.frozen r
              have HS := Lib.hid (show stL fx hn' (r + 1) = (stL fx hn' r).set r (shiftI ((stL fx hn' r).getD r 0) k2) by rw [← HFX.out _ r]; rfl)
              clear hll
              generalize (stL fx hn' r).getD r 0 = hv at c1 HS
              have tr : decide ((r : Int) < (W : Int)) = true := decide_eq_true (by omega)
              have tr1 : (r : Int) < (W : Int) := by omega
              have q9 := HQ6.out wr HBr.out
              have c2 := (HS6.out wr HBr.out).2
              go_upto_region 24 with fail
              go_region_with (first | (go_at_call 35; refine (mshift_any _ _ ⟨HC2.out.1, HC2.out.2.1⟩ _).mono ?_; rintro e wz ⟨rfl, hz⟩; subst wz))
              all_goals
                go_wp2
                go_roundg (W - (r + 1))
                case measure => omega
                case rel =>
                  refine ⟨r + 1, by go_num, by omega, Lib.hid (HBr.out.drew.setCell (Nat.le_refl _) _), Lib.hid ?_, rfl⟩
                  have := (HKr.out.drew).set r (.int .i64 (shiftI hv k2))
                  rw [ints_set, ← HS.out] at this
                  exact this
            · obtain rfl : W = r := by omega
              have HLL2 := Lib.hid hll
              clear hll
              go_wp2
              go_ret
              have hbb : Below wb.heap.size wb wr := HB7.out.trans ((HBr.out).mono (by rw [← HG8.out]; exact HB7.out.size))
              refine ⟨_, _, rfl, Lib.hid (HB.out.trans (hbb.mono HB.out.size)), Lib.hid ?_⟩
              have hk4 : Blk wr g8 (ints (attOut m W E) ++ []) 3 := by rw [List.append_nil, HOUT.out]; exact HKr.out
              exact hk4.rdat (by rw [HOUT.out, HLL2.out]; exact Nat.le_refl _) (by unfold maxLen; omega)
end Go.Proofs.YtdbhlkejfecffaaGreatDoor
