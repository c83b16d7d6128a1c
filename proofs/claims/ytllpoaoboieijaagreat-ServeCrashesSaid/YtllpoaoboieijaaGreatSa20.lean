/-
  Models: weights, sample.
-/
import Derived.Test.YtllpoaoboieijaaGreatSa19
/-
  Models: weights, sample.
-/
namespace Go.Proofs.YtllpoaoboieijaaGreat
open Go.RowKit

def wtJ (sl : List Int) (v : Nat) : Int := demoM.odds.getD (min ((maxI sl - sl.getD v 0) / 8) 5).toNat 0
def wtTo (sl ys : List Int) (i : Nat) : List Int := (List.range 8).map fun v => if Int.ofNat v ∈ ys.take i then wtJ sl v else 0
def wtL (sl : List Int) : List Int := (List.range 8).map (wtJ sl)
theorem wtTo_len (sl ys : List Int) (i : Nat) : (wtTo sl ys i).length = 8 := by simp [wtTo]
theorem wtTo_zero (sl ys : List Int) : wtTo sl ys 0 = List.replicate 8 0 := by simp [wtTo]; rfl
theorem wtTo_set (sl ys : List Int) (i v : Nat) (hi : i < ys.length) (hv : ys[i] = Int.ofNat v) (_h8 : v < 8) : (wtTo sl ys i).set v (wtJ sl v) = wtTo sl ys (i + 1) := by
  apply List.ext_getElem
  · simp [wtTo]
  · intro j h1 h2
    rw [List.getElem_set]
    simp only [wtTo, List.getElem_map, List.getElem_range]
    rw [List.take_succ_eq_append_getElem hi]
    by_cases e : v = j
    · subst e
      rw [if_pos rfl, if_pos (List.mem_append.2 (.inr (List.mem_singleton.2 hv.symm)))]
    · have : ¬ Int.ofNat j = ys[i] := by rw [hv]; intro c; exact e (by injection c with c; exact c.symm)
      rw [if_neg e]
      by_cases m : Int.ofNat j ∈ ys.take i
      · rw [if_pos m, if_pos (List.mem_append.2 (.inl m))]
      · rw [if_neg m, if_neg]
        intro c
        rcases List.mem_append.1 c with c | c
        · exact m c
        · exact this (List.mem_singleton.1 c)
theorem wtTo_all (sl ys : List Int) (hp : ys.Perm (fillTo 8)) : wtTo sl ys 8 = wtL sl := by
  have hl : ys.length = 8 := by rw [hp.length_eq]; rfl
  unfold wtTo wtL
  apply List.map_congr_left
  intro v hv
  rw [List.mem_range] at hv
  rw [List.take_of_length_le (by omega), if_pos]
  rw [hp.mem_iff]
  have : v = 0 ∨ v = 1 ∨ v = 2 ∨ v = 3 ∨ v = 4 ∨ v = 5 ∨ v = 6 ∨ v = 7 := by omega
  rcases this with rfl | rfl | rfl | rfl | rfl | rfl | rfl | rfl <;> decide

set_option maxRecDepth 100000 in
set_option maxHeartbeats 1600000 in
theorem weights_any (p : MPl) (sb so sc : Nat) (sl : List Int) (hsl : sl.length = 8) (hin : ∀ x, x ∈ sl → -2147483648 ≤ x ∧ x ≤ 2147483647) (w : World) (h : DemoAt w p) (hs : RdAt w sb so sc sl) :
    Calls Tryz.prog 83 #[.agg (demoCells p).toArray, .slice (some ⟨sb, so, none⟩) 8 sc] w fun e w' => ∃ g, e = .returned (.slice (some ⟨g, 0, none⟩) 8 8) ∧ Hid (Below w.heap.size w w') ∧ Hid (RdAt w' g 0 8 (wtL sl)) := by
  obtain ⟨wb, hwb, hbel, hblk⟩ : ∃ wb, w.alloc (.cells (demoCells p).toArray 27) = wb ∧ Below w.heap.size w wb ∧ Blk wb w.heap.size (demoCells p) 27 := ⟨_, rfl, (Below.refl _ _).alloc (Nat.le_refl _) _, heap_alloc_new w _⟩
  have HQ := Lib.hid (fun (wx : World) (hb : Below wb.heap.size wb wx) => (hblk.below hb).cell)
  have q0 := hblk.cell
  have HB := Lib.hid hbel
  have HWB := Lib.hid hwb
  have hd := h.below hbel
  obtain ⟨w7, hmk, hb7, hk7⟩ : ∃ w7, Sem.run Tryz.prog (Instr.makeSlice 22 (.int .i64 8) (.int .i64 8)) wb = .ok (.slice (some ⟨wb.heap.size, 0, none⟩) 8 8) w7 ∧ Below wb.heap.size wb w7 ∧ Blk w7 wb.heap.size (ints (List.replicate 8 0)) 3 :=
    ⟨_, make_ints 8 (by omega) wb, (Below.refl _ _).alloc (Nat.le_refl _) _, heap_alloc_new wb _⟩
  have HSL := Lib.hid (fun (wx : World) (hb : Below wb.heap.size wb wx) => (hs.below hbel).below hb)
  have HSL7 := Lib.hid ((hs.below hbel).below hb7)
  have HD := Lib.hid hd
  have HRK := Lib.hid (rank_any sl sb so sc w7 ((hs.below hbel).below hb7) hsl)
  have HK7 := Lib.hid hk7
  have HB7 := Lib.hid hb7
  have HIN := Lib.hid hin
  have HLT7 := Lib.hid hk7.lt
  have q7 := HQ.out w7 hb7
  generalize hg8 : wb.heap.size = g8 at hmk HK7 HLT7
  have HG8 := Lib.hid hg8
  clear hbel hblk h hs hd hb7 hk7 hin hg8
  simp only [demoCells] at q0 q7 HQ hwb ⊢
  go_enter Tryz.func83, Tryz.ntmps83
  go_wp2_with (first | (go_at_call 97; refine (max_any sl sb so sc 8 hsl.symm (by omega) (by omega) _ HSL7.out).mono ?_; rintro e wz ⟨rfl, hz⟩; subst wz) | (go_at_call 98; refine HRK.out.mono ?_; rintro e w8 ⟨g9, ys, rfl, HB8, HR8, HP8⟩))
  generalize hmx : maxI sl = mx
  have HMX := Lib.hid hmx
  have HYL := Lib.hid (show ys.length = 8 by rw [HP8.out.length_eq]; rfl)
  have HB08 := Lib.hid (HB7.out.trans (HB8.out.mono HB7.out.size))
  have HK8 := Lib.hid (HK7.out.below HB8.out)
  have HGG := Lib.hid (show g9 ≠ g8 by have := HR8.out.2; have := HLT7.out; omega)
  clear hmx q0 q7 hmk hwb
  go_loopg [19] 8 (fun gk s19 wx => ∃ i : Nat, s19 = .int .i64 i ∧ i ≤ 8 ∧ Hid (Below wb.heap.size wb wx) ∧ Hid (RdAt wx g9 0 8 ys) ∧ Hid (Blk wx g8 (ints (wtTo sl ys i)) 3) ∧ gk = 8 - i)
  case atStart => exact ⟨0, rfl, by omega, HB08, Lib.hid HR8.out.1, Lib.hid (by rw [wtTo_zero]; exact HK8.out), rfl⟩
  case round =>
    obtain ⟨i, rfl, hi, HB9, HR9, HK9, rfl⟩ := hrel
    by_cases hlt : i < 8
    · have q9 := HQ.out _ HB9.out
      have ci := HR9.out.2.2 i (by rw [HYL.out]; exact hlt)
      rw [Nat.zero_add] at ci
      have hil : i < ys.length := by rw [HYL.out]; exact hlt
      have hyi : ys.getD i 0 = ys[i] := by simp [List.getD, hil]
      have hym : ys[i] ∈ fillTo 8 := HP8.out.mem_iff.1 (List.getElem_mem hil)
      obtain ⟨v, hv, hv8⟩ : ∃ v : Nat, ys[i] = Int.ofNat v ∧ v < 8 := by
        have := (by decide : ∀ x, x ∈ fillTo 8 → 0 ≤ x ∧ x < 8) _ hym
        exact ⟨ys[i].toNat, (Int.toNat_of_nonneg this.1).symm, by omega⟩
      have HST := Lib.hid (wtTo_set sl ys i v hil hv hv8)
      rw [hyi, hv] at ci
      have ci' : wr.cell? ⟨g9, i, none⟩ = some (.int .i64 (v : Int)) := ci
      have cs := (HSL.out _ HB9.out).2.2 v (by rw [hsl]; exact hv8)
      have hsm : sl.getD v 0 ∈ sl := by rw [show sl.getD v 0 = sl[v]'(by omega) by simp [List.getD, hsl, hv8]]; exact List.getElem_mem _
      have hsr := HIN.out _ hsm
      have hmr : sl.getD v 0 ≤ mx := by rw [← HMX.out]; exact maxTo_ge sl (sl.length - 1) v (by omega)
      have hmr2 : mx ≤ 2147483647 := by
        obtain ⟨q, hq, e⟩ := maxTo_mem sl (sl.length - 1) (by omega)
        rw [← HMX.out]; unfold maxI; rw [e]
        exact (HIN.out _ (by rw [show sl.getD q 0 = sl[q]'(by omega) by simp [List.getD, hsl, (by omega : q < 8)]]; exact List.getElem_mem _)).2
      have HWT := Lib.hid (show wtJ sl v = demoM.odds.getD (min ((mx - sl.getD v 0) / 8) 5).toNat 0 by rw [← HMX.out]; rfl)
      have fo := HK9.out.frozen v
      have co : wr.cell? ⟨g8, v, none⟩ = some (.int .i64 ((wtTo sl ys i).getD v 0)) := by rw [HK9.out.cell]; simp [ints, List.getD, wtTo_len, hv8]
      have HD9 := Lib.hid (HD.out.below HB9.out)
      have c3 : wr.cell? ⟨p.cuts.b, p.cuts.o + 3, none⟩ = some (.int .i64 3) := HD9.out.cuts.2.2 3 (by decide)
      generalize sl.getD v 0 = sv at cs hsr hmr HWT
      have d1 : IntKind.i64.wrap (mx - sv) = mx - sv := IntWalk.i64_in _ (by omega)
      obtain ⟨d, hd⟩ : ∃ d : Int, (mx - sv) / 8 = d := ⟨_, rfl⟩
      have hd0 : 0 ≤ d := by omega
      obtain ⟨j, hj, hj6, hjm⟩ : ∃ j : Nat, (if 5 < d then (5 : Int) else d) = (j : Int) ∧ j < 6 ∧ (min d 5).toNat = j := ⟨(min d 5).toNat, by split <;> omega, by omega, rfl⟩
      rw [hd, hjm] at HWT
      have w5' : IntKind.i64.wrap 5 = 5 := by decide
      have c0 := HD9.out.odds.2.2 j hj6
      rw [← HWT.out] at c0
      have j1 : (j : Int) < 6 := by omega
      have v1 : (v : Int) < 8 := by omega
      generalize wtJ sl v = wt at c0 HWT HST
      clear hil hyi hym hv hsm hsr hmr hmr2 ci hjm
      go_upto_region 6 with fail
      go_region
      go_wp2
      go_roundg (8 - (i + 1))
      case measure => omega
      case rel =>
        refine ⟨i + 1, by go_num, by omega, Lib.hid (HB9.out.drew.setCell (by show wb.heap.size ≤ g8; rw [HG8.out]; exact Nat.le_refl _) _), Lib.hid ?_, Lib.hid ?_, rfl⟩
        · have hrd : RdAt (wr.setCell ⟨g8, v, none⟩ (.int .i64 wt)) g9 0 8 ys := by
            refine ⟨HR9.out.1, HR9.out.2.1, fun q hq => ?_⟩
            rw [World.cell?_of_block (a := ⟨g9, 0 + q, none⟩) (w := wr) (Below.heap_setCell _ ⟨g8, v, none⟩ _ _ HGG.out)]
            exact HR9.out.2.2 q hq
          exact hrd
        · have := (HK9.out.drew).set v (.int .i64 wt)
          rw [ints_set, HST.out] at this
          exact this
    · have : i = 8 := by omega
      subst this
      go_wp2
      go_ret
      refine ⟨_, rfl, Lib.hid (HB.out.trans (HB9.out.mono HB.out.size)), Lib.hid ?_⟩
      have hk4 : Blk wr g8 (ints (wtL sl) ++ []) 3 := by rw [List.append_nil, ← wtTo_all sl ys HP8.out]; exact HK9.out
      exact hk4.rdat (by simp [wtL]) (by decide)
end Go.Proofs.YtllpoaoboieijaaGreat
