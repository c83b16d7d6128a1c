/-
  graph: checker.head of the graph of two nodes; Contains of no Booleans.
  graph: checker.graph of the graph of two nodes.
  graph and effort: totals, Unfold, the operations of a node.
  effort: the operations of the nodes of the graph of two nodes.
-/
import Derived.Test.YtdbhlkejfecffaaGreatDoorSa32
/-
  graph: checker.head of the graph of two nodes; Contains of no Booleans.
-/
namespace Go.Proofs.YtdbhlkejfecffaaGreatDoor
open Go.RowKit KeepPlain

def graphV (N O : Value) : Value := .agg #[.string ⟨#[103]⟩, .slice none 0 0, N, O, .slice none 0 0]
def graphC (N O : Value) : List Value := [.string ⟨#[103]⟩, .slice none 0 0, N, O, .slice none 0 0]
set_option maxRecDepth 100000 in
set_option maxHeartbeats 400000 in
theorem idx_bool (A : Option Addr) (c : Nat) (x : Value) (w : World) : Calls Tryz.prog 142 #[.slice A 0 c, x] w fun e w' => e = .returned (.int .i64 (-1)) ∧ w' = w := by
  go_enter Tryz.func142, Tryz.ntmps142
  go_wp2
  refine wp_loop_rounds 1 ?_
  rw [rounds_succ]
  go_wp2
  go_ret
  exact ⟨rfl, rfl⟩
set_option maxRecDepth 100000 in
set_option maxHeartbeats 400000 in
theorem has_bool (A : Option Addr) (c : Nat) (x : Value) (w : World) : Calls Tryz.prog 98 #[.slice A 0 c, x] w fun e w' => e = .returned (.bool false) ∧ w' = w := by
  go_enter Tryz.func98, Tryz.ntmps98
  go_wp2_with (go_at_call 142; refine (idx_bool _ _ _ _).mono ?_; rintro e w1 ⟨rfl, hw⟩; subst w1)
  go_ret
  exact ⟨rfl, rfl⟩
set_option maxRecDepth 100000 in
set_option maxHeartbeats 1600000 in
theorem head_any (cb : Nat) (N O : Value) (w : World) (hc : Blk w cb [.slice none 0 0] 131) :
    Calls Tryz.prog 95 #[.pointer (some ⟨cb, 0, none⟩), graphV N O, .int .i64 1] w fun e w' => e = .returned (.int .i64 0) ∧ Hid (Blk w' cb [.slice none 0 0] 131) ∧ Hid (KeepB cb w.heap.size w w') := by
  obtain ⟨w0, hw0, hb0, hk0⟩ : ∃ w0, w.alloc (.cells (graphC N O).toArray 62) = w0 ∧ Below w.heap.size w w0 ∧ Blk w0 w.heap.size (graphC N O) 62 := ⟨_, rfl, (Below.refl _ _).alloc (Nat.le_refl _) _, heap_alloc_new w _⟩
  have HLT := Lib.hid hc.lt
  have HC := Lib.hid (hc.below hb0)
  have HB0 := Lib.hid hb0
  have HK0 := Lib.hid hk0
  have HN := Lib.hid (name_g w0)
  have q := hk0.cell
  clear hb0 hk0 hc
  simp only [graphC] at hw0 q
  unfold graphV
  go_enter Tryz.func95, Tryz.ntmps95
  go_upto_region 4 with (first | (go_at_call 129; clear q; refine HN.out.mono ?_; rintro e w1 ⟨rfl, HB1⟩; have HK1 := Lib.hid (HK0.out.below HB1.out); have HC1 := Lib.hid (HC.out.below HB1.out); have q := HK1.out.cell; have c1 := HC1.out.cell; have f1 := HC1.out.frozen; simp only [graphC] at q) | (go_at_call 130; refine (symbols_nil _).mono ?_; rintro e w2 ⟨rfl, hw⟩; subst w2))
  have r := (HK1.out.far (p := ⟨cb, 0, none⟩) (by have := HLT.out; simp; omega) (.slice none 0 0)).cell
  simp only [graphC] at r
  go_wp2
  go_ret
  exact ⟨rfl, Lib.hid (HC1.out.set 0 (.slice none 0 0)), Lib.hid ((KeepB.of_below (HB0.out.trans (HB1.out.mono HB0.out.size))).setD 0 _)⟩
end Go.Proofs.YtdbhlkejfecffaaGreatDoor
/-
  graph: checker.graph of the graph of two nodes.
-/
namespace Go.Proofs.YtdbhlkejfecffaaGreatDoor
open Go.RowKit KeepPlain

theorem KeepB.mono {d B B' : Nat} {w w' : World} (h : KeepB d B w w') (hb : B' ≤ B) : KeepB d B' w w' := ⟨h.os, h.tape, h.output, h.size, fun x hx hn => h.block x (by omega) hn⟩
theorem KeepB.other {d d' B B' : Nat} {w w' : World} (h : KeepB d B w w') (hb : B' ≤ B) (hd : B' ≤ d) : KeepB d' B' w w' := ⟨h.os, h.tape, h.output, h.size, fun x hx _ => h.block x (by omega) (by omega)⟩
/-- What is known of the graph of two nodes. -/
structure IAt (w : World) (xb bN bO gS cS : Nat) (M : Value) : Prop where
  x : Blk w xb (infoC (.slice (some ⟨bN, 0, none⟩) 2 2) (.slice (some ⟨bO, 0, none⟩) 1 1) (.slice (some ⟨gS, 0, none⟩) 2 cS) M) 107
  s0 : w.cell? ⟨gS, 0, none⟩ = some (.slice none 0 0)
  s1 : w.cell? ⟨gS, 1, none⟩ = some (.slice none 0 0)
  c : 2 ≤ cS
theorem IAt.below {w w' : World} {xb bN bO gS cS : Nat} {M : Value} (h : IAt w xb bN bO gS cS M) (hb : Below w.heap.size w w') : IAt w' xb bN bO gS cS M :=
  ⟨h.x.below hb, by rw [hb.cell (p := ⟨gS, 0, none⟩) (World.block_lt_of_cell? w _ h.s0)]; exact h.s0, by rw [hb.cell (p := ⟨gS, 1, none⟩) (World.block_lt_of_cell? w _ h.s1)]; exact h.s1, h.c⟩
theorem made0 (c : Array Value) : madeCells c 0 = #[] := Array.eq_empty_of_size_eq_zero (by rw [size_madeCells])
theorem infoBool : (Tryz.prog.info? 4).map (fun i => (i.zero, i.size, i.bytes)) = some (some (.bool false), 1, 1) := by kernel_rfl
theorem makeB0 (W : World) : Sem.run Tryz.prog (Instr.makeSlice 153 (.int .i64 0) (.int .i64 0)) W = .ok (.slice (some ⟨W.heap.size, 0, none⟩) 0 0) (W.alloc (.cells #[] 4)) := by
  obtain ⟨i0, hi, hz0, hz1, hz2⟩ := info_parts infoBool
  have h := run_makeSlice (P := Tryz.prog) W 153 4 i0 _ Tryz.underlying153 hi hz0 .i64 .i64 0 0 (by omega) (by omega) (by rw [hz1]; omega) (by rw [hz2]; omega) (by omega)
  simpa [made0] using h
theorem makeI0 (W : World) : Sem.run Tryz.prog (Instr.makeSlice 22 (.int .i64 0) (.int .i64 0)) W = .ok (.slice (some ⟨W.heap.size, 0, none⟩) 0 0) (W.alloc (.cells #[] 3)) := by
  obtain ⟨i0, hi, hz0, hz1, hz2⟩ := info_parts info3
  have h := run_makeSlice (P := Tryz.prog) W 22 3 i0 _ Tryz.underlying22 hi hz0 .i64 .i64 0 0 (by omega) (by omega) (by rw [hz1]; omega) (by rw [hz2]; omega) (by omega)
  simpa [made0] using h
set_option maxRecDepth 100000 in
set_option maxHeartbeats 3200000 in
theorem cgraph_any (cb bD bA bN bO : Nat) (w : World) (hc : Blk w cb [.slice none 0 0] 131) (hg : GAt w bD bA bN bO) (hn : bD ≠ cb ∧ bA ≠ cb ∧ bN ≠ cb ∧ bO ≠ cb) :
    Calls Tryz.prog 71 #[.pointer (some ⟨cb, 0, none⟩), graphV (.slice (some ⟨bN, 0, none⟩) 2 2) (.slice (some ⟨bO, 0, none⟩) 1 1), .int .i64 1] w fun e w' =>
      ∃ xb gS cS M, e = .returned (.tuple #[.pointer (some ⟨xb, 0, none⟩), .int .i64 0]) ∧ Hid (IAt w' xb bN bO gS cS M) ∧ Hid (KeepB cb w.heap.size w w') ∧ Hid (w.heap.size ≤ xb) := by
  obtain ⟨w0, hw0, hb0, hk0⟩ : ∃ w0, w.alloc (.cells (graphC (.slice (some ⟨bN, 0, none⟩) 2 2) (.slice (some ⟨bO, 0, none⟩) 1 1)).toArray 62) = w0 ∧ Below w.heap.size w w0 ∧ Blk w0 w.heap.size (graphC (.slice (some ⟨bN, 0, none⟩) 2 2) (.slice (some ⟨bO, 0, none⟩) 1 1)) 62 := ⟨_, rfl, (Below.refl _ _).alloc (Nat.le_refl _) _, heap_alloc_new w _⟩
  have HLC := Lib.hid (And.intro hc.lt (And.intro hg.d.lt (And.intro hg.a.lt (And.intro hg.n.lt hg.o.lt))))
  have HNE := Lib.hid hn
  have HB0 := Lib.hid hb0
  have HK0 := Lib.hid hk0
  have HG0 := Lib.hid (hg.below hb0)
  have HH := Lib.hid (head_any cb (.slice (some ⟨bN, 0, none⟩) 2 2) (.slice (some ⟨bO, 0, none⟩) 1 1) w0 (hc.below hb0))
  have HZ := Lib.hid (show w0.heap.size = w.heap.size + 1 by rw [← hw0, World.size_alloc])
  have q := hk0.cell
  clear hb0 hk0 hc hg hn
  simp only [graphC] at hw0 q
  unfold graphV at HH
  unfold graphV
  go_enter Tryz.func71, Tryz.ntmps71
  go_upto_region 4 with (go_at_call 95; clear q; refine HH.out.mono ?_; rintro e w1 ⟨rfl, HC1, HKB1⟩; have HK1 := Lib.hid (HKB1.out.blk HK0.out (by have := HZ.out; omega) (by have := HLC.out; omega)); have HG1 := Lib.hid (HG0.out.keep HKB1.out (by have := HLC.out; have := HZ.out; omega) HNE.out); have q := HK1.out.cell; simp only [graphC] at q)
  have hm := make_mapS w1
  have qa := (HK1.out.alloc (.map #[] 0)).cell
  simp only [graphC] at qa
  go_upto_region 5 with fail
  obtain ⟨w2, hw2⟩ : ∃ w2, w2 = (w1.alloc (.map #[] 0)).alloc (.cells (infoC (.slice (some ⟨bN, 0, none⟩) 2 2) (.slice (some ⟨bO, 0, none⟩) 1 1) (.slice none 0 0) (.map (some w1.heap.size))).toArray 107) := ⟨_, rfl⟩
  have hb12 : Below w1.heap.size w1 w2 := by rw [hw2]; exact ((Below.refl _ _).alloc (Nat.le_refl _) _).alloc (alloc_le _ _) _
  have HX2 := Lib.hid (show Blk w2 (w1.heap.size + 1) (infoC (.slice (some ⟨bN, 0, none⟩) 2 2) (.slice (some ⟨bO, 0, none⟩) 1 1) (.slice none 0 0) (.map (some w1.heap.size))) 107 by
    have := news_blk (w1.alloc (.map #[] 0)) (infoC (.slice (some ⟨bN, 0, none⟩) 2 2) (.slice (some ⟨bO, 0, none⟩) 1 1) (.slice none 0 0) (.map (some w1.heap.size))) 107
    rw [World.size_alloc] at this
    rw [hw2]; exact this)
  simp only [infoC] at hw2
  rw [← hw2]
  have HK2 := Lib.hid (HK1.out.below hb12)
  have HG2 := Lib.hid (HG1.out.below hb12)
  have HC2 := Lib.hid (HC1.out.below hb12)
  have HS12 := Lib.hid hb12.size
  have HKB2 := Lib.hid (HKB1.out.trans (KeepB.of_below (hb12.mono HKB1.out.size)))
  have q2 := HK2.out.cell
  simp only [graphC] at q2
  clear hw2 hb12 q qa hm HK1 HG1 HC1 hw0
  go_wp2
  refine wp_loop_rounds 1 ?_
  rw [rounds_succ]
  have hmb := makeB0 w2
  go_upto_region 15 with fail
  obtain ⟨w3, hw3⟩ : ∃ w3, w3 = w2.alloc (.cells #[] 4) := ⟨_, rfl⟩
  have hb23 : Below w2.heap.size w2 w3 := by rw [hw3]; exact (Below.refl _ _).alloc (Nat.le_refl _) _
  rw [← hw3]
  have HX3 := Lib.hid (HX2.out.below hb23)
  have HK3 := Lib.hid (HK2.out.below hb23)
  have HG3 := Lib.hid (HG2.out.below hb23)
  have HC3 := Lib.hid (HC2.out.below hb23)
  have HKB3 := Lib.hid (HKB2.out.trans (KeepB.of_below (hb23.mono HKB2.out.size)))
  have HL := Lib.hid (show w0.heap.size ≤ w1.heap.size ∧ w1.heap.size + 1 < w3.heap.size from ⟨HKB1.out.size, HX3.out.lt⟩)
  have HND := Lib.hid (show Calls Tryz.prog 96 #[.pointer (some ⟨cb, 0, none⟩), .pointer (some ⟨w1.heap.size + 1, 0, none⟩), .int .i64 0, .bool false] w3 _ from node_const cb (w1.heap.size + 1) w3.heap.size bD bA bN bO _ _ _ w3 (Nat.le_refl _) (by have := HLC.out; have := HZ.out; have := HL.out; omega) HL.out.2 (by have := HLC.out; have := HZ.out; have := HL.out; omega) HG3.out HC3.out HX3.out (World.ownsRow_nil _ _ _ _))
  clear hw3 hb23 hmb HX2 HK2 HG2 HC2 HKB2 q2
  have q3 := HK3.out.cell
  simp only [graphC] at q3
  go_wp2
  refine wp_loop_rounds 3 ?_
  rw [rounds_succ]
  go_wp2_with (go_at_call 96; refine HND.out.mono ?_; rintro e w4 ⟨rfl, S1, HS4, HX4, HKB4⟩; have HK4 := Lib.hid (HKB4.out.blk HK3.out (by have := HZ.out; have := HL.out; omega) (by have := HZ.out; have := HL.out; omega)); have q4 := HK4.out.cell; have HG4 := Lib.hid (HG3.out.keep HKB4.out (by have := HLC.out; have := HZ.out; have := HL.out; omega) (by have := HLC.out; have := HZ.out; have := HL.out; omega)); have HC4 := Lib.hid (HKB4.out.blk HC3.out (by have := HLC.out; have := HZ.out; have := HL.out; omega) (by have := HLC.out; have := HZ.out; have := HL.out; omega)); have n4 := HG4.out.n.cell; simp only [graphC, twoC] at q4 n4)
  refine wp_loop_rounds 1 ?_
  rw [rounds_succ]
  go_wp2
  have HND2 := Lib.hid (show Calls Tryz.prog 96 #[.pointer (some ⟨cb, 0, none⟩), .pointer (some ⟨w1.heap.size + 1, 0, none⟩), .int .i64 1, .bool false] w4 _ from node_add cb (w1.heap.size + 1) w3.heap.size bD bA bN bO _ _ _ w4 HKB4.out.size (by have := HLC.out; have := HZ.out; have := HL.out; omega) HL.out.2 (by have := HLC.out; have := HZ.out; have := HL.out; omega) HG4.out HC4.out HX4.out HS4.out)
  rw [rounds_succ]
  clear q3 q4 n4
  have q4 := HK4.out.cell
  simp only [graphC] at q4
  go_wp2_with (go_at_call 96; refine HND2.out.mono ?_; rintro e w5 ⟨rfl, S2, HS5, HX5, HKB5⟩; have HK5 := Lib.hid (HKB5.out.blk HK4.out (by have := HZ.out; have := HL.out; omega) (by have := HZ.out; have := HL.out; omega)); have q5 := HK5.out.cell; have HG5 := Lib.hid (HG4.out.keep HKB5.out (by have := HLC.out; have := HZ.out; have := HL.out; omega) (by have := HLC.out; have := HZ.out; have := HL.out; omega)); have n5 := HG5.out.n.cell; simp only [graphC, twoC] at q5 n5)
  refine wp_loop_rounds 1 ?_
  rw [rounds_succ]
  go_wp2
  rw [rounds_succ]
  go_wp2_with (first | (go_at_call 29; refine (has_out bO w.heap.size ⟨bN, 0, none⟩ w5 (by rw [HG5.out.o.cell]; rfl) (by rw [HK5.out.cell]; rfl)).mono ?_; rintro e wy ⟨rfl, hwy⟩; subst wy) | (go_at_call 98; refine (has_bool _ _ _ _).mono ?_; rintro e wy ⟨rfl, hwy⟩; subst wy))
  obtain ⟨A5, c5, hv5⟩ := ownsRow_shape HS5.out
  have hx5 := HX5.out
  have hs5 := HS5.out
  clear HX5 HS5
  rw [hv5] at hx5 hs5
  obtain ⟨gS, hgS, h2, -, hs⟩ := row_at hs5 (by omega)
  subst hgS
  have hkb : KeepB cb w.heap.size w w5 := by
    have := HZ.out
    have := HL.out
    refine (KeepB.of_below HB0.out).trans ?_
    refine (HKB3.out.mono (by omega)).trans ?_
    exact (HKB4.out.other (by omega) (by omega)).trans (HKB5.out.other (by omega) (by omega))
  go_ret2
  exact ⟨_, gS, c5, _, rfl, Lib.hid ⟨hx5, hs 0 (by omega), hs 1 (by omega), h2⟩, Lib.hid hkb, Lib.hid (by have := HZ.out; have := HL.out; omega)⟩
end Go.Proofs.YtdbhlkejfecffaaGreatDoor
/-
  graph and effort: totals, Unfold, the operations of a node.
-/
namespace Go.Proofs.YtdbhlkejfecffaaGreatDoor
open Go.RowKit KeepPlain

set_option maxRecDepth 100000 in
set_option maxHeartbeats 1600000 in
theorem totals_two (bD bA bN bO : Nat) (w : World) (hg : GAt w bD bA bN bO) : Calls Tryz.prog 72 #[graphV (.slice (some ⟨bN, 0, none⟩) 2 2) (.slice (some ⟨bO, 0, none⟩) 1 1)] w fun e w' => e = .returned (.tuple #[.int .i64 2, .int .i64 1]) ∧ Hid (Below w.heap.size w w') := by
  obtain ⟨w0, hw0, hb0, hk0⟩ : ∃ w0, w.alloc (.cells (graphC (.slice (some ⟨bN, 0, none⟩) 2 2) (.slice (some ⟨bO, 0, none⟩) 1 1)).toArray 62) = w0 ∧ Below w.heap.size w w0 ∧ Blk w0 w.heap.size (graphC (.slice (some ⟨bN, 0, none⟩) 2 2) (.slice (some ⟨bO, 0, none⟩) 1 1)) 62 := ⟨_, rfl, (Below.refl _ _).alloc (Nat.le_refl _) _, heap_alloc_new w _⟩
  have hg0 := hg.below hb0
  have q := hk0.cell
  have n0 := hg0.n.cell
  have qa := (hk0.alloc (.cells #[.int .i64 2, .slice none 0 0, .string ⟨#[]⟩, .slice none 0 0, .string ⟨#[]⟩, .slice none 0 0, .int .i64 0, .int .i64 0, .int .i64 0, .int .i64 0, .slice (some ⟨bD, 0, none⟩) 1 1, .slice none 0 0] 57)).cell
  have na := (hg0.n.alloc (.cells #[.int .i64 2, .slice none 0 0, .string ⟨#[]⟩, .slice none 0 0, .string ⟨#[]⟩, .slice none 0 0, .int .i64 0, .int .i64 0, .int .i64 0, .int .i64 0, .slice (some ⟨bD, 0, none⟩) 1 1, .slice none 0 0] 57)).cell
  have qb := ((hk0.alloc (.cells #[.int .i64 2, .slice none 0 0, .string ⟨#[]⟩, .slice none 0 0, .string ⟨#[]⟩, .slice none 0 0, .int .i64 0, .int .i64 0, .int .i64 0, .int .i64 0, .slice (some ⟨bD, 0, none⟩) 1 1, .slice none 0 0] 57)).alloc (.cells #[.int .i64 4, .slice (some ⟨bA, 0, none⟩) 2 2, .string ⟨#[]⟩, .slice none 0 0, .string ⟨#[]⟩, .slice none 0 0, .int .i64 0, .int .i64 0, .int .i64 0, .int .i64 0, .slice none 0 0, .slice none 0 0] 57)).cell
  have ta := (news_blk w0 (nodeC 2 (.slice none 0 0) (.slice (some ⟨bD, 0, none⟩) 1 1)) 57).cell
  have tb := (news_blk (w0.alloc (.cells #[.int .i64 2, .slice none 0 0, .string ⟨#[]⟩, .slice none 0 0, .string ⟨#[]⟩, .slice none 0 0, .int .i64 0, .int .i64 0, .int .i64 0, .int .i64 0, .slice (some ⟨bD, 0, none⟩) 1 1, .slice none 0 0] 57)) (nodeC 4 (.slice (some ⟨bA, 0, none⟩) 2 2) (.slice none 0 0)) 57).cell
  have HB0 := Lib.hid hb0
  clear hb0 hk0 hg0 hg
  simp only [graphC, twoC, nodeC, World.size_alloc] at hw0 q n0 qa na qb ta tb
  unfold graphV
  go_enter Tryz.func72, Tryz.ntmps72
  go_wp2
  refine wp_loop_rounds 3 ?_
  rw [rounds_succ]
  go_wp2
  rw [rounds_succ]
  go_wp2
  rw [rounds_succ]
  go_wp2
  refine wp_loop_rounds 1 ?_
  rw [rounds_succ]
  go_wp2
  go_ret2
  exact ⟨rfl, Lib.hid ((HB0.out.alloc HB0.out.size _).alloc (Nat.le_trans HB0.out.size (alloc_le _ _)) _)⟩
set_option maxRecDepth 100000 in
set_option maxHeartbeats 1600000 in
theorem unfold_two (bD bA bN bO : Nat) (w : World) (hg : GAt w bD bA bN bO) : Calls Tryz.prog 73 #[graphV (.slice (some ⟨bN, 0, none⟩) 2 2) (.slice (some ⟨bO, 0, none⟩) 1 1)] w fun e w' => e = .returned (.int .i64 2) ∧ Hid (Below w.heap.size w w') := by
  obtain ⟨w0, hw0, hb0, hk0⟩ : ∃ w0, w.alloc (.cells (graphC (.slice (some ⟨bN, 0, none⟩) 2 2) (.slice (some ⟨bO, 0, none⟩) 1 1)).toArray 62) = w0 ∧ Below w.heap.size w w0 ∧ Blk w0 w.heap.size (graphC (.slice (some ⟨bN, 0, none⟩) 2 2) (.slice (some ⟨bO, 0, none⟩) 1 1)) 62 := ⟨_, rfl, (Below.refl _ _).alloc (Nat.le_refl _) _, heap_alloc_new w _⟩
  have hg0 := hg.below hb0
  have q := hk0.cell
  have n0 := hg0.n.cell
  have qa := (hk0.alloc (.cells #[.int .i64 2, .slice none 0 0, .string ⟨#[]⟩, .slice none 0 0, .string ⟨#[]⟩, .slice none 0 0, .int .i64 0, .int .i64 0, .int .i64 0, .int .i64 0, .slice (some ⟨bD, 0, none⟩) 1 1, .slice none 0 0] 57)).cell
  have na := (hg0.n.alloc (.cells #[.int .i64 2, .slice none 0 0, .string ⟨#[]⟩, .slice none 0 0, .string ⟨#[]⟩, .slice none 0 0, .int .i64 0, .int .i64 0, .int .i64 0, .int .i64 0, .slice (some ⟨bD, 0, none⟩) 1 1, .slice none 0 0] 57)).cell
  have qb := ((hk0.alloc (.cells #[.int .i64 2, .slice none 0 0, .string ⟨#[]⟩, .slice none 0 0, .string ⟨#[]⟩, .slice none 0 0, .int .i64 0, .int .i64 0, .int .i64 0, .int .i64 0, .slice (some ⟨bD, 0, none⟩) 1 1, .slice none 0 0] 57)).alloc (.cells #[.int .i64 4, .slice (some ⟨bA, 0, none⟩) 2 2, .string ⟨#[]⟩, .slice none 0 0, .string ⟨#[]⟩, .slice none 0 0, .int .i64 0, .int .i64 0, .int .i64 0, .int .i64 0, .slice none 0 0, .slice none 0 0] 57)).cell
  have ta := (news_blk w0 (nodeC 2 (.slice none 0 0) (.slice (some ⟨bD, 0, none⟩) 1 1)) 57).cell
  have tb := (news_blk (w0.alloc (.cells #[.int .i64 2, .slice none 0 0, .string ⟨#[]⟩, .slice none 0 0, .string ⟨#[]⟩, .slice none 0 0, .int .i64 0, .int .i64 0, .int .i64 0, .int .i64 0, .slice (some ⟨bD, 0, none⟩) 1 1, .slice none 0 0] 57)) (nodeC 4 (.slice (some ⟨bA, 0, none⟩) 2 2) (.slice none 0 0)) 57).cell
  have HB0 := Lib.hid hb0
  clear hb0 hk0 hg0 hg
  simp only [graphC, twoC, nodeC, World.size_alloc] at hw0 q n0 qa na qb ta tb
  unfold graphV
  go_enter Tryz.func73, Tryz.ntmps73
  go_wp2
  refine wp_loop_rounds 3 ?_
  rw [rounds_succ]
  go_wp2
  refine wp_loop_rounds 1 ?_
  rw [rounds_succ]
  go_wp2
  rw [rounds_succ]
  go_wp2
  refine wp_loop_rounds 1 ?_
  rw [rounds_succ]
  go_wp2
  rw [rounds_succ]
  go_wp2
  go_ret
  exact ⟨rfl, Lib.hid ((HB0.out.alloc HB0.out.size _).alloc (Nat.le_trans HB0.out.size (alloc_le _ _)) _)⟩
end Go.Proofs.YtdbhlkejfecffaaGreatDoor
/-
  effort: the operations of the nodes of the graph of two nodes.
-/
namespace Go.Proofs.YtdbhlkejfecffaaGreatDoor
open Go.RowKit KeepPlain

set_option maxRecDepth 100000 in
set_option maxHeartbeats 1600000 in
theorem effort_const (bD bA bN bO gS cS : Nat) (f : Value) (w : World) (hg : GAt w bD bA bN bO) (h0 : w.cell? ⟨gS, 0, none⟩ = some (.slice none 0 0)) (h1 : w.cell? ⟨gS, 1, none⟩ = some (.slice none 0 0)) :
    Calls Tryz.prog 99 #[graphV (.slice (some ⟨bN, 0, none⟩) 2 2) (.slice (some ⟨bO, 0, none⟩) 1 1), .slice (some ⟨gS, 0, none⟩) 2 cS, .int .i64 0, f] w fun e w' => e = .returned (.int .i64 0) ∧ Hid (Below w.heap.size w w') := by
  obtain ⟨w0, hw0, hb0, hk0⟩ : ∃ w0, w.alloc (.cells (graphC (.slice (some ⟨bN, 0, none⟩) 2 2) (.slice (some ⟨bO, 0, none⟩) 1 1)).toArray 62) = w0 ∧ Below w.heap.size w w0 ∧ Blk w0 w.heap.size (graphC (.slice (some ⟨bN, 0, none⟩) 2 2) (.slice (some ⟨bO, 0, none⟩) 1 1)) 62 := ⟨_, rfl, (Below.refl _ _).alloc (Nat.le_refl _) _, heap_alloc_new w _⟩
  have hg0 := hg.below hb0
  have q := hk0.cell
  have n0 := hg0.n.cell
  have i0 : w0.cell? ⟨gS, 0, none⟩ = some (.slice none 0 0) := by rw [hb0.cell (p := ⟨gS, 0, none⟩) (World.block_lt_of_cell? w _ h0)]; exact h0
  have i1 : w0.cell? ⟨gS, 1, none⟩ = some (.slice none 0 0) := by rw [hb0.cell (p := ⟨gS, 1, none⟩) (World.block_lt_of_cell? w _ h1)]; exact h1
  have HG0 := Lib.hid hg0
  have HI := Lib.hid (And.intro i0 i1)
  have HB0 := Lib.hid hb0
  clear hb0 hk0 hg0 hg h0 h1 i0 i1
  simp only [graphC, twoC] at hw0 q n0
  unfold graphV
  go_enter Tryz.func99, Tryz.ntmps99
  go_upto_region 2 with fail
  obtain ⟨w1, hw1⟩ : ∃ w1, w1 = w0.alloc (.cells (nodeC 2 (.slice none 0 0) (.slice (some ⟨bD, 0, none⟩) 1 1)).toArray 57) := ⟨_, rfl⟩
  have HB1 := Lib.hid (show Below w0.heap.size w0 w1 by rw [hw1]; exact (Below.refl _ _).alloc (Nat.le_refl _) _)
  have HT1 := Lib.hid (show Blk w1 w0.heap.size (nodeC 2 (.slice none 0 0) (.slice (some ⟨bD, 0, none⟩) 1 1)) 57 by rw [hw1]; exact news_blk w0 _ _)
  have HG1 := Lib.hid (HG0.out.below HB1.out)
  simp only [nodeC] at hw1
  rw [← hw1]
  clear hw1 q n0 hw0
  have t := HT1.out.cell
  have a := HG1.out.a.cell
  have i0 : w1.cell? ⟨gS, 0, none⟩ = some (.slice none 0 0) := by rw [HB1.out.cell (p := ⟨gS, 0, none⟩) (World.block_lt_of_cell? w0 _ HI.out.1)]; exact HI.out.1
  have i1 : w1.cell? ⟨gS, 1, none⟩ = some (.slice none 0 0) := by rw [HB1.out.cell (p := ⟨gS, 1, none⟩) (World.block_lt_of_cell? w0 _ HI.out.2)]; exact HI.out.2
  simp only [nodeC] at t
  go_wp2_with (go_at_call 79; refine (elements_nil _).mono ?_; rintro e wy ⟨rfl, hwy⟩; subst wy)
  go_ret
  exact ⟨rfl, Lib.hid (HB0.out.trans (HB1.out.mono HB0.out.size))⟩
set_option maxRecDepth 100000 in
set_option maxHeartbeats 1600000 in
theorem effort_add (bD bA bN bO gS cS : Nat) (f : Value) (w : World) (hg : GAt w bD bA bN bO) (h0 : w.cell? ⟨gS, 0, none⟩ = some (.slice none 0 0)) (h1 : w.cell? ⟨gS, 1, none⟩ = some (.slice none 0 0)) :
    Calls Tryz.prog 99 #[graphV (.slice (some ⟨bN, 0, none⟩) 2 2) (.slice (some ⟨bO, 0, none⟩) 1 1), .slice (some ⟨gS, 0, none⟩) 2 cS, .int .i64 1, f] w fun e w' => e = .returned (.int .i64 1) ∧ Hid (Below w.heap.size w w') := by
  obtain ⟨w0, hw0, hb0, hk0⟩ : ∃ w0, w.alloc (.cells (graphC (.slice (some ⟨bN, 0, none⟩) 2 2) (.slice (some ⟨bO, 0, none⟩) 1 1)).toArray 62) = w0 ∧ Below w.heap.size w w0 ∧ Blk w0 w.heap.size (graphC (.slice (some ⟨bN, 0, none⟩) 2 2) (.slice (some ⟨bO, 0, none⟩) 1 1)) 62 := ⟨_, rfl, (Below.refl _ _).alloc (Nat.le_refl _) _, heap_alloc_new w _⟩
  have hg0 := hg.below hb0
  have q := hk0.cell
  have n0 := hg0.n.cell
  have i0 : w0.cell? ⟨gS, 0, none⟩ = some (.slice none 0 0) := by rw [hb0.cell (p := ⟨gS, 0, none⟩) (World.block_lt_of_cell? w _ h0)]; exact h0
  have i1 : w0.cell? ⟨gS, 1, none⟩ = some (.slice none 0 0) := by rw [hb0.cell (p := ⟨gS, 1, none⟩) (World.block_lt_of_cell? w _ h1)]; exact h1
  have HG0 := Lib.hid hg0
  have HI := Lib.hid (And.intro i0 i1)
  have HB0 := Lib.hid hb0
  clear hb0 hk0 hg0 hg h0 h1 i0 i1
  simp only [graphC, twoC] at hw0 q n0
  unfold graphV
  go_enter Tryz.func99, Tryz.ntmps99
  go_upto_region 2 with fail
  obtain ⟨w1, hw1⟩ : ∃ w1, w1 = w0.alloc (.cells (nodeC 4 (.slice (some ⟨bA, 0, none⟩) 2 2) (.slice none 0 0)).toArray 57) := ⟨_, rfl⟩
  have HB1 := Lib.hid (show Below w0.heap.size w0 w1 by rw [hw1]; exact (Below.refl _ _).alloc (Nat.le_refl _) _)
  have HT1 := Lib.hid (show Blk w1 w0.heap.size (nodeC 4 (.slice (some ⟨bA, 0, none⟩) 2 2) (.slice none 0 0)) 57 by rw [hw1]; exact news_blk w0 _ _)
  have HG1 := Lib.hid (HG0.out.below HB1.out)
  simp only [nodeC] at hw1
  rw [← hw1]
  clear hw1 q n0 hw0
  have t := HT1.out.cell
  have a := HG1.out.a.cell
  have i0 : w1.cell? ⟨gS, 0, none⟩ = some (.slice none 0 0) := by rw [HB1.out.cell (p := ⟨gS, 0, none⟩) (World.block_lt_of_cell? w0 _ HI.out.1)]; exact HI.out.1
  have i1 : w1.cell? ⟨gS, 1, none⟩ = some (.slice none 0 0) := by rw [HB1.out.cell (p := ⟨gS, 1, none⟩) (World.block_lt_of_cell? w0 _ HI.out.2)]; exact HI.out.2
  simp only [nodeC] at t
  go_wp2_with (first | (go_at_call 79; refine (elements_nil _).mono ?_; rintro e wy ⟨rfl, hwy⟩; subst wy) | (go_at_call 143; clear t a i0 i1; refine (axisAt_nil _ _).mono ?_; rintro e w2 ⟨rfl, HB2⟩; have t := (HT1.out.below HB2.out).cell; simp only [nodeC] at t))
  go_ret
  exact ⟨rfl, Lib.hid ((HB0.out.trans (HB1.out.mono HB0.out.size)).trans (HB2.out.mono (Nat.le_trans HB0.out.size HB1.out.size)))⟩
end Go.Proofs.YtdbhlkejfecffaaGreatDoor
