/-
  graph: work, analyze and feed of the graph of two nodes.
  place and graph: Strides, Along, Dot, wrap and scalar where there are no dimensions.
-/
import Derived.Test.YtdbhlkejfecffaaGreatDoorSa33
/-
  graph: work, analyze and feed of the graph of two nodes.
-/
namespace Go.Proofs.YtdbhlkejfecffaaGreatDoor
open Go.RowKit KeepPlain

theorem KeepB.toBelow {d B B' : Nat} {w w' : World} (h : KeepB d B w w') (hb : B' ≤ B) (hd : B' ≤ d) : Below B' w w' := ⟨h.os, h.tape, h.output, h.size, fun x hx => h.block x (by omega) (by omega)⟩
set_option maxRecDepth 100000 in
set_option maxHeartbeats 1600000 in
theorem work_two (xb bD bA bN bO gS cS : Nat) (M : Value) (w : World) (hg : GAt w bD bA bN bO) (hi : IAt w xb bN bO gS cS M) :
    Calls Tryz.prog 74 #[.pointer (some ⟨xb, 0, none⟩)] w fun e w' => e = .returned (.int .i64 1) ∧ Hid (Below w.heap.size w w') := by
  have hmf : ∀ (fn : Fn) (first cap : Array Value) (w : World), (Instr.makeFunc fn first cap).run Tryz.prog w = .ok (.func fn first cap) w := fun _ _ _ _ => rfl
  obtain ⟨w0, hw0, hb0, hk0⟩ : ∃ w0, w.alloc (.cells #[.pointer (some ⟨xb, 0, none⟩)] 98) = w0 ∧ Below w.heap.size w w0 ∧ Blk w0 w.heap.size [.pointer (some ⟨xb, 0, none⟩)] 98 := ⟨_, rfl, (Below.refl _ _).alloc (Nat.le_refl _) _, heap_alloc_new w _⟩
  have HB0 := Lib.hid hb0
  have HBB := Lib.hid (Below.refl w0.heap.size w0)
  have hi0 := hi.below hb0
  have hg0 := hg.below hb0
  have HQ := Lib.hid (fun wx (hb : Below w0.heap.size w0 wx) => show (∀ o, wx.cell? ⟨w.heap.size, o, none⟩ = ([.pointer (some ⟨xb, 0, none⟩)] : List Value)[o]?) ∧ (∀ o, wx.cell? ⟨xb, o, none⟩ = ([.string ⟨#[103]⟩, .slice none 0 0, .slice (some ⟨bN, 0, none⟩) 2 2, .slice (some ⟨bO, 0, none⟩) 1 1, .slice none 0 0, .slice (some ⟨gS, 0, none⟩) 2 cS, .slice none 0 0, M, .slice none 0 0, .slice none 0 0] : List Value)[o]?) from ⟨(hk0.below hb).cell, (hi0.x.below hb).cell⟩)
  have HE0 := Lib.hid (fun f wx (hb : Below w0.heap.size w0 wx) => effort_const bD bA bN bO gS cS f wx (hg0.below hb) (hi0.below hb).s0 (hi0.below hb).s1)
  have HE1 := Lib.hid (fun f wx (hb : Below w0.heap.size w0 wx) => effort_add bD bA bN bO gS cS f wx (hg0.below hb) (hi0.below hb).s0 (hi0.below hb).s1)
  unfold graphV at HE0 HE1
  obtain ⟨q1, q2⟩ := HQ.out _ HBB.out
  clear hb0 hk0 hi0 hg0 hg hi
  go_enter Tryz.func74, Tryz.ntmps74
  go_wp2
  refine wp_loop_rounds 3 ?_
  rw [rounds_succ]
  go_upto_region 5 with fail
  clear q1 q2 hw0
  go_region_held3 (fun wy : World => (∀ o, wy.cell? ⟨w.heap.size, o, none⟩ = ([.pointer (some ⟨xb, 0, none⟩)] : List Value)[o]?) ∧ (∀ o, wy.cell? ⟨xb, o, none⟩ = ([.string ⟨#[103]⟩, .slice none 0 0, .slice (some ⟨bN, 0, none⟩) 2 2, .slice (some ⟨bO, 0, none⟩) 1 1, .slice none 0 0, .slice (some ⟨gS, 0, none⟩) 2 cS, .slice none 0 0, M, .slice none 0 0, .slice none 0 0] : List Value)[o]?)) (first | exact HQ.out _ HB1.out | exact HQ.out _ HBB.out.drew | exact HQ.out _ HBB.out) (first | (go_at_call 99; refine (HE0.out _ w0.drew HBB.out.drew).mono ?_; rintro e w1 ⟨rfl, HB1'⟩; have HB1 : Hid (Below w0.heap.size w0 w1) := Lib.hid (HBB.out.trans ((below_undrew HB1'.out).mono HBB.out.size)); dsimp only))
  obtain ⟨q1, q2⟩ := HQ.out _ HB1.out
  go_wp2
  rw [rounds_succ]
  go_upto_region 5 with fail
  clear q1 q2
  go_region_held3 (fun wy : World => (∀ o, wy.cell? ⟨w.heap.size, o, none⟩ = ([.pointer (some ⟨xb, 0, none⟩)] : List Value)[o]?) ∧ (∀ o, wy.cell? ⟨xb, o, none⟩ = ([.string ⟨#[103]⟩, .slice none 0 0, .slice (some ⟨bN, 0, none⟩) 2 2, .slice (some ⟨bO, 0, none⟩) 1 1, .slice none 0 0, .slice (some ⟨gS, 0, none⟩) 2 cS, .slice none 0 0, M, .slice none 0 0, .slice none 0 0] : List Value)[o]?)) (first | exact HQ.out _ HB2.out | exact HQ.out _ HB1.out.drew | exact HQ.out _ HB1.out) (first | (go_at_call 99; refine (HE1.out _ w1.drew HB1.out.drew).mono ?_; rintro e w2 ⟨rfl, HB2'⟩; have HB2 : Hid (Below w0.heap.size w0 w2) := Lib.hid (HB1.out.trans ((below_undrew HB2'.out).mono HB1.out.size)); dsimp only))
  obtain ⟨q1, q2⟩ := HQ.out _ HB2.out
  go_wp2
  rw [rounds_succ]
  go_wp2
  go_ret
  exact ⟨rfl, Lib.hid (HB0.out.trans (HB2.out.mono HB0.out.size))⟩
set_option maxRecDepth 100000 in
set_option maxHeartbeats 800000 in
theorem feed_none (xb bN bO gS cS : Nat) (M : Value) (w : World) (hi : IAt w xb bN bO gS cS M) :
    Calls Tryz.prog 56 #[.pointer (some ⟨xb, 0, none⟩), .slice none 0 0] w fun e w' => e = .returned (.int .i64 0) ∧ w' = w := by
  have q := hi.x.cell
  simp only [infoC] at q
  clear hi
  go_enter Tryz.func56, Tryz.ntmps56
  go_wp2
  refine wp_loop_rounds 1 ?_
  rw [rounds_succ]
  go_wp2
  go_ret
  exact ⟨rfl, rfl⟩
set_option maxRecDepth 100000 in
set_option maxHeartbeats 1600000 in
theorem analyze_two (bD bA bN bO : Nat) (w : World) (hg : GAt w bD bA bN bO) :
    Calls Tryz.prog 55 #[graphV (.slice (some ⟨bN, 0, none⟩) 2 2) (.slice (some ⟨bO, 0, none⟩) 1 1)] w fun e w' =>
      ∃ xb gS cS M, e = .returned (.tuple #[.pointer (some ⟨xb, 0, none⟩), .int .i64 0]) ∧ Hid (IAt w' xb bN bO gS cS M) ∧ Hid (Below w.heap.size w w') := by
  obtain ⟨w0, hw0, hb0, hk0, hk1, hs0⟩ : ∃ w0, (w.alloc (.cells (graphC (.slice (some ⟨bN, 0, none⟩) 2 2) (.slice (some ⟨bO, 0, none⟩) 1 1)).toArray 62)).alloc (.cells #[.slice none 0 0] 131) = w0 ∧ Below w.heap.size w w0 ∧ Blk w0 w.heap.size (graphC (.slice (some ⟨bN, 0, none⟩) 2 2) (.slice (some ⟨bO, 0, none⟩) 1 1)) 62 ∧ Blk w0 (w.heap.size + 1) [.slice none 0 0] 131 ∧ w0.heap.size = w.heap.size + 2 := by
    refine ⟨_, rfl, ((Below.refl _ _).alloc (Nat.le_refl _) _).alloc (by simp only [World.size_alloc]; omega) _, (news_blk w (graphC (.slice (some ⟨bN, 0, none⟩) 2 2) (.slice (some ⟨bO, 0, none⟩) 1 1)) 62).alloc _, ?_, by simp only [World.size_alloc]⟩
    have := news_blk (w.alloc (.cells (graphC (.slice (some ⟨bN, 0, none⟩) 2 2) (.slice (some ⟨bO, 0, none⟩) 1 1)).toArray 62)) [.slice none 0 0] 131
    rwa [World.size_alloc] at this
  have HB0 := Lib.hid hb0
  have HK0 := Lib.hid hk0
  have HZ := Lib.hid hs0
  have HL := Lib.hid (And.intro hg.d.lt (And.intro hg.a.lt (And.intro hg.n.lt hg.o.lt)))
  have HG0 := Lib.hid (hg.below hb0)
  have HC := Lib.hid (cgraph_any (w.heap.size + 1) bD bA bN bO w0 hk1 HG0.out (by have := HL.out; omega))
  have q := hk0.cell
  clear hb0 hk0 hk1 hs0 hg
  simp only [graphC] at hw0 q
  unfold graphV at HC
  unfold graphV
  go_enter Tryz.func55, Tryz.ntmps55
  go_upto_region 5 with (go_at_call 71; clear q; refine HC.out.mono ?_; rintro e w1 ⟨xb, gS, cS, M, rfl, HI1, HKB1, HX1⟩; have HK1 := Lib.hid (HKB1.out.blk HK0.out (by have := HZ.out; omega) (by omega)); have HG1 := Lib.hid (HG0.out.keep HKB1.out (by have := HZ.out; have := HL.out; omega) (by have := HL.out; omega)); have q := HK1.out.cell; simp only [graphC] at q)
  have HB1 := Lib.hid (HB0.out.trans (HKB1.out.toBelow (by have := HZ.out; omega) (by omega)))
  have HTO := Lib.hid (totals_two bD bA bN bO w1 HG1.out)
  have HUN := Lib.hid (fun wx (hb : Below w1.heap.size w1 wx) => unfold_two bD bA bN bO wx (HG1.out.below hb))
  have HWK := Lib.hid (fun wx (hb : Below w1.heap.size w1 wx) => work_two xb bD bA bN bO gS cS M wx (HG1.out.below hb) (HI1.out.below hb))
  unfold graphV at HTO HUN
  go_wp2_with (first | (go_at_call 72; clear q; refine HTO.out.mono ?_; rintro e w2 ⟨rfl, HB2⟩; have q := (HK1.out.below HB2.out).cell; simp only [graphC] at q) | (go_at_call 73; clear q; refine (HUN.out w2 HB2.out).mono ?_; rintro e w3 ⟨rfl, HB3'⟩; have HB3 := Lib.hid (HB2.out.trans (HB3'.out.mono HB2.out.size)); have q := (HK1.out.below HB3.out).cell; simp only [graphC] at q) | (go_at_call 74; clear q; refine (HWK.out w3 HB3.out).mono ?_; rintro e w4 ⟨rfl, HB4'⟩; have HB4 := Lib.hid (HB3.out.trans (HB4'.out.mono HB3.out.size)); have q := (HK1.out.below HB4.out).cell; simp only [graphC] at q))
  go_ret2
  exact ⟨xb, gS, cS, M, rfl, Lib.hid (HI1.out.below HB4.out), Lib.hid (HB1.out.trans (HB4.out.mono HB1.out.size))⟩
end Go.Proofs.YtdbhlkejfecffaaGreatDoor
/-
  place and graph: Strides, Along, Dot, wrap and scalar where there are no dimensions.
-/
namespace Go.Proofs.YtdbhlkejfecffaaGreatDoor
open Go.RowKit KeepPlain

set_option maxRecDepth 100000 in
set_option maxHeartbeats 400000 in
theorem strides_nil (w : World) : Calls Tryz.prog 150 #[.slice none 0 0] w fun e w' => e = .returned (.slice (some ⟨w.heap.size, 0, none⟩) 0 0) ∧ Hid (Below w.heap.size w w') := by
  have hm := makeI0 w
  go_enter Tryz.func150, Tryz.ntmps150
  go_wp2
  refine wp_loop_rounds 1 ?_
  rw [rounds_succ]
  go_wp2
  go_ret
  exact ⟨rfl, Lib.hid ((Below.refl _ _).alloc (Nat.le_refl _) _)⟩
set_option maxRecDepth 100000 in
set_option maxHeartbeats 400000 in
theorem along_nil (w : World) : Calls Tryz.prog 151 #[.slice none 0 0, .slice none 0 0] w fun e w' => ∃ g, e = .returned (.slice (some ⟨g, 0, none⟩) 0 0) ∧ Hid (Below w.heap.size w w') := by
  go_enter Tryz.func151, Tryz.ntmps151
  go_upto_region 2 with (go_at_call 150; refine (strides_nil _).mono ?_; rintro e w1 ⟨rfl, HB1⟩)
  have hm := makeI0 w1
  go_wp2
  refine wp_loop_rounds 1 ?_
  rw [rounds_succ]
  go_wp2
  go_ret
  exact ⟨_, rfl, Lib.hid (HB1.out.alloc HB1.out.size _)⟩
set_option maxRecDepth 100000 in
set_option maxHeartbeats 400000 in
theorem dot_none (A B : Option Addr) (c d : Nat) (w : World) : Calls Tryz.prog 154 #[.slice A 0 c, .slice B 0 d] w fun e w' => e = .returned (.int .i64 0) ∧ w' = w := by
  go_enter Tryz.func154, Tryz.ntmps154
  go_wp2
  refine wp_loop_rounds 1 ?_
  rw [rounds_succ]
  go_wp2
  go_ret
  exact ⟨rfl, rfl⟩
set_option maxRecDepth 100000 in
set_option maxHeartbeats 400000 in
theorem wrap_six (w : World) : Calls Tryz.prog 146 #[.int .i64 6] w fun e w' => e = .returned (.int .i64 6) ∧ w' = w := by
  go_enter Tryz.func146, Tryz.ntmps146
  go_wp2
  go_ret
  exact ⟨rfl, rfl⟩
set_option maxRecDepth 100000 in
set_option maxHeartbeats 800000 in
theorem scalar_add (A D : Value) (c : Value) (w : World) : Calls Tryz.prog 158 #[nodeV 4 A D, .int .i64 3, .int .i64 3, c] w fun e w' => e = .returned (.int .i64 6) ∧ Hid (Below w.heap.size w w') := by
  obtain ⟨w0, hw0, hb0, hk0⟩ : ∃ w0, w.alloc (.cells (nodeC 4 A D).toArray 57) = w0 ∧ Below w.heap.size w w0 ∧ Blk w0 w.heap.size (nodeC 4 A D) 57 := ⟨_, rfl, (Below.refl _ _).alloc (Nat.le_refl _) _, heap_alloc_new w _⟩
  have HB0 := Lib.hid hb0
  have q := hk0.cell
  clear hb0 hk0
  unfold nodeC at *
  unfold nodeV
  go_enter Tryz.func158, Tryz.ntmps158
  go_wp2_with (go_at_call 146; refine (wrap_six _).mono ?_; rintro e w1 ⟨rfl, hw⟩; subst w1)
  go_ret
  exact ⟨rfl, HB0⟩
end Go.Proofs.YtdbhlkejfecffaaGreatDoor
