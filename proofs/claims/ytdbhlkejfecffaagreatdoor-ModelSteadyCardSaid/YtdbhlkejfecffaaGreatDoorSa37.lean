/-
  graph: info.values of the graph of two nodes.
  graph: EvalAll and Eval of the graph of two nodes.
  weftkeep1: stands.
-/
import Derived.Test.YtdbhlkejfecffaaGreatDoorSa27
import Derived.Test.YtdbhlkejfecffaaGreatDoorSa36
/-
  graph: info.values of the graph of two nodes.
-/
namespace Go.Proofs.YtdbhlkejfecffaaGreatDoor
open Go.RowKit KeepPlain

theorem one_two (a b : Value) (ha : a.oneCell' = true) (hb : b.oneCell' = true) : ∀ u ∈ [a, b], u.oneCell' = true := by
  intro u hu
  simp at hu
  rcases hu with rfl | rfl
  · exact ha
  · exact hb
theorem news2' (w : World) (u v : Value) (t : TypeId) : ∀ (j : Nat) x, [u, v][j]? = some x → (w.alloc (.cells #[u, v] t)).cell? ((⟨w.heap.size, 0, none⟩ : Addr).add j) = some x :=
  World.news_of_block (w := (w.alloc (.cells #[u, v] t))) (cs := #[u, v]) (t := t) (fr := (0, 0)) (heap_alloc_new w _)
theorem ne_own {g r n a c : Nat} (h1 : g < n) (h2 : n ≤ r) : some r ≠ (Value.slice (some ⟨g, 0, none⟩) a c).ownBlock := by
  intro e
  have h : r = g := by simpa [Value.ownBlock] using e
  omega
set_option maxRecDepth 100000 in
set_option maxHeartbeats 3200000 in
theorem values_two (xb bD bA bN bO gS cS : Nat) (M : Value) (w : World) (hg : GAt w bD bA bN bO) (hi : IAt w xb bN bO gS cS M) :
    Calls Tryz.prog 59 #[.pointer (some ⟨xb, 0, none⟩), .slice none 0 0] w fun e w' =>
      ∃ gV cV g1 c1 gR cR, e = .returned (.slice (some ⟨gV, 0, none⟩) 2 cV) ∧ Hid (∀ o, o < 4 → w'.cell? ⟨gV, o, none⟩ = ([.slice none 0 0, .slice (some ⟨g1, 0, none⟩) 1 c1, .slice none 0 0, .slice (some ⟨gR, 0, none⟩) 1 cR] : List Value)[o]?) ∧ Hid (w'.cell? ⟨gR, 0, none⟩ = some (.int .i64 6)) ∧ Hid (Below w.heap.size w w') := by
  obtain ⟨i0, hi0, hz0, hz1, hz2⟩ := info_parts infoT
  have HI := Lib.hid hi
  have HG := Lib.hid hg
  have x0 := hi.x.cell
  have n0 := hg.n.cell
  simp only [infoC, twoC] at x0 n0
  clear hi hg
  go_enter Tryz.func59, Tryz.ntmps59
  go_wp2
  refine wp_loop_rounds 3 ?_
  rw [rounds_succ]
  go_upto_region 6 with fail
  obtain ⟨w1, hw1, hb1, hk1⟩ : ∃ w1, w1 = w.alloc (.cells (nodeC 2 (.slice none 0 0) (.slice (some ⟨bD, 0, none⟩) 1 1)).toArray 57) ∧ Below w.heap.size w w1 ∧ Blk w1 w.heap.size (nodeC 2 (.slice none 0 0) (.slice (some ⟨bD, 0, none⟩) 1 1)) 57 := ⟨_, rfl, (Below.refl _ _).alloc (Nat.le_refl _) _, heap_alloc_new w _⟩
  simp only [nodeC] at hw1
  rw [← hw1]
  clear hw1 x0 n0
  have x1 := (HI.out.x.below hb1).cell
  have n1 := hk1.cell
  have s1 := (HI.out.below hb1).s0
  simp only [infoC, nodeC] at x1 n1
  have HVC := Lib.hid (fun x dims args => value_const x dims args bD w1 (HG.out.d.below hb1))
  unfold nodeV at HVC
  have HB1 := Lib.hid hb1
  clear hb1 hk1
  go_wp2_with (go_at_call 76; refine (dims_nil _).mono ?_; rintro e wy ⟨rfl, hwy⟩; subst wy)
  refine wp_loop_rounds 1 ?_
  rw [rounds_succ]
  go_wp2_with (first | (at_builtin; refine wpList_append_lies _ rfl _ _ 63 rfl w.heap.size 68 i0 (.agg #[.slice none 0 0, .slice none 0 0]) 2 48 Tryz.underlying63 hi0 hz0 hz1 hz2 rfl (by decide) _ 0 [] rfl (World.ownsRow_nil _ _ _ _) ⟨w2.heap.size, 0, none⟩ 1 1 [.slice none 0 0, .slice (some ⟨g1, 0, none⟩) 1 c1] rfl rfl (news2' _ _ _ _) (one_two _ _ rfl rfl) Nat.one_pos (by unfold maxLen; omega) (by omega) (Nat.le_trans HB2.out.size (alloc_le _ _)) _ rfl ?_; intro gV1 cV1 w3 hown hgrow hat hlt; simp only [Nat.zero_add, List.nil_append] at hown ⊢; have HO3 := Lib.hid hown; have HB3 := Lib.hid (show Below w.heap.size w w3 from (HB2.out.alloc HB2.out.size _).trans (Below.ofGrown hgrow (Nat.le_trans HB2.out.size (alloc_le _ _)) (fun k e => by cases e))); have HD3 := Lib.hid (show w3.cell? ⟨g1, 0, none⟩ = some (.int .i64 3) from by rw [World.cell?_of_block (a := ⟨g1, 0, none⟩) (hgrow.block g1 (Nat.lt_of_lt_of_le (World.block_lt_of_cell? w2 _ HD2.out) (alloc_le _ _)) (fun e => by cases e)), World.cell?_of_block (a := ⟨g1, 0, none⟩) (Below.heap_alloc _ _ _ (World.block_lt_of_cell? w2 _ HD2.out))]; exact HD2.out); clear hown hgrow hat hlt) | (go_at_call 81; clear x1 n1 s1; refine (HVC.out _ _ _).mono ?_; rintro e w2 ⟨g1, c1, rfl, HD2, HB2'⟩; have HB2 := Lib.hid (HB1.out.trans (HB2'.out.mono HB1.out.size))))
  rw [rounds_succ]
  have x3 := (HI.out.x.below HB3.out).cell
  have n3 := (HG.out.n.below HB3.out).cell
  simp only [infoC, twoC] at x3 n3
  go_upto_region 6 with fail
  obtain ⟨g', hg', -, -, hv3⟩ := row_two HO3.out (by omega)
  injection hg' with hg'
  injection hg' with hg'
  subst hg'
  obtain ⟨w4, hw4, hb4, hk4⟩ : ∃ w4, w4 = w3.alloc (.cells (nodeC 4 (.slice (some ⟨bA, 0, none⟩) 2 2) (.slice none 0 0)).toArray 57) ∧ Below w3.heap.size w3 w4 ∧ Blk w4 w3.heap.size (nodeC 4 (.slice (some ⟨bA, 0, none⟩) 2 2) (.slice none 0 0)) 57 := ⟨_, rfl, (Below.refl _ _).alloc (Nat.le_refl _) _, heap_alloc_new w3 _⟩
  simp only [nodeC] at hw4
  rw [← hw4]
  clear hw4 x3 n3
  have HB4 := Lib.hid (HB3.out.trans (hb4.mono HB3.out.size))
  have HK4 := Lib.hid hk4
  have HA4 := Lib.hid (HG.out.a.below HB4.out)
  have HO4 := Lib.hid (ownsRow_below HO3.out hb4)
  have HV4 := Lib.hid (And.intro (cell_below hb4 (show w3.cell? ⟨gV1, 0, none⟩ = some (.slice none 0 0) from hv3 0 (by omega))) (cell_below hb4 (show w3.cell? ⟨gV1, 1, none⟩ = some (.slice (some ⟨g1, 0, none⟩) 1 c1) from hv3 1 (by omega))))
  have HD4 := Lib.hid (cell_below hb4 HD3.out)
  have x4 := (HI.out.x.below HB4.out).cell
  have t4 := HK4.out.cell
  have s4 := (HI.out.below HB4.out).s1
  have a4 := HA4.out.cell
  have v4 := HV4.out.1
  have u4 := HV4.out.2
  simp only [infoC, nodeC] at x4 t4
  clear hb4 hk4 hv3
  go_wp2_with (go_at_call 76; refine (dims_nil _).mono ?_; rintro e wy ⟨rfl, hwy⟩; subst wy)
  refine wp_loop_rounds 3 ?_
  rw [rounds_succ]
  go_wp2_with (at_builtin; refine wpList_append_lies _ rfl _ _ 63 rfl w4.heap.size 68 i0 (.agg #[.slice none 0 0, .slice none 0 0]) 2 48 Tryz.underlying63 hi0 hz0 hz1 hz2 rfl (by decide) _ 0 [] rfl (World.ownsRow_nil _ _ _ _) ⟨w4.heap.size, 0, none⟩ 1 1 [.slice none 0 0, .slice (some ⟨g1, 0, none⟩) 1 c1] rfl rfl (news2' _ _ _ _) (one_two _ _ rfl rfl) Nat.one_pos (by unfold maxLen; omega) (by omega) (alloc_le _ _) _ rfl ?_; intro gA1 cA1 w5 hown hgrow hat hlt; simp only [Nat.zero_add, List.nil_append] at hown ⊢; have HO5 := Lib.hid hown; have HB5 := Lib.hid (show Below w4.heap.size w4 w5 from ((Below.refl _ _).alloc (Nat.le_refl _) _).trans (Below.ofGrown hgrow (alloc_le _ _) (fun k e => by cases e))); have a5 := (HA4.out.below HB5.out).cell; have v5 := cell_below HB5.out HV4.out.1; have u5 := cell_below HB5.out HV4.out.2; clear x4 a4 v4 u4 s4; clear hown hgrow hat hlt)
  rw [rounds_succ]
  go_wp2_with (at_builtin; refine wpList_append_lies _ rfl _ _ 63 rfl w4.heap.size 68 i0 (.agg #[.slice none 0 0, .slice none 0 0]) 2 48 Tryz.underlying63 hi0 hz0 hz1 hz2 rfl (by decide) _ 1 [.slice none 0 0, .slice (some ⟨g1, 0, none⟩) 1 c1] rfl (ownsRow_below HO5.out ((Below.refl _ _).alloc (Nat.le_refl _) _)) ⟨w5.heap.size, 0, none⟩ 1 1 [.slice none 0 0, .slice (some ⟨g1, 0, none⟩) 1 c1] rfl rfl (news2' _ _ _ _) (one_two _ _ rfl rfl) Nat.one_pos (by unfold maxLen; omega) (by omega) (Nat.le_trans HB5.out.size (alloc_le _ _)) _ rfl ?_; intro gA cA w6 hown hgrow hat hlt; simp only [List.nil_append, Nat.reduceAdd, List.cons_append] at hown ⊢; have HO6 := Lib.hid hown; have HB6 := Lib.hid (show Below w4.heap.size w4 w6 from HB5.out.trans ((((Below.refl _ _).alloc (Nat.le_refl _) _).mono HB5.out.size).trans (Below.ofGrown hgrow (Nat.le_trans HB5.out.size (alloc_le _ _)) (ownsRow_base HO5.out)))); clear a5 v5 u5; clear hown hgrow hat hlt)
  rw [rounds_succ]
  obtain ⟨g', hg', -, -, ht6⟩ := row_two HO6.out (by omega)
  injection hg' with hg'
  injection hg' with hg'
  subst hg'
  have HVA := Lib.hid (fun x => value_add x gA cA g1 c1 (.slice (some ⟨bA, 0, none⟩) 2 2) (.slice none 0 0) w6 (fun o ho => ht6 o (by omega)) (cell_below HB6.out HD4.out))
  unfold nodeV at HVA
  clear ht6 t4
  have t6 := (HK4.out.below HB6.out).cell
  simp only [nodeC] at t6
  go_wp2_with (first | (at_builtin; refine wpList_append_lies _ rfl _ _ 63 rfl w.heap.size 68 i0 (.agg #[.slice none 0 0, .slice none 0 0]) 2 48 Tryz.underlying63 hi0 hz0 hz1 hz2 rfl (by decide) _ 1 [.slice none 0 0, .slice (some ⟨g1, 0, none⟩) 1 c1] rfl (ownsRow_below HO7.out ((Below.refl _ _).alloc (Nat.le_refl _) _)) ⟨w7.heap.size, 0, none⟩ 1 1 [.slice none 0 0, .slice (some ⟨gR, 0, none⟩) 1 cR] rfl rfl (news2' _ _ _ _) (one_two _ _ rfl rfl) Nat.one_pos (by unfold maxLen; omega) (by omega) (Nat.le_trans HB7.out.size (alloc_le _ _)) _ rfl ?_; intro gV cV w8 hown hgrow hat hlt; simp only [List.nil_append, Nat.reduceAdd, List.cons_append] at hown ⊢; have HO8 := Lib.hid hown; have HB8 := Lib.hid (show Below w.heap.size w w8 from (HB7.out.alloc HB7.out.size _).trans (Below.ofGrown hgrow (Nat.le_trans HB7.out.size (alloc_le _ _)) (ownsRow_base HO7.out))); have HD8 := Lib.hid (show w8.cell? ⟨gR, 0, none⟩ = some (.int .i64 6) from by rw [World.cell?_of_block (a := ⟨gR, 0, none⟩) (hgrow.block gR (Nat.lt_of_lt_of_le (World.block_lt_of_cell? w7 _ HD7.out) (alloc_le _ _)) HNR.out), World.cell?_of_block (a := ⟨gR, 0, none⟩) (Below.heap_alloc _ _ _ (World.block_lt_of_cell? w7 _ HD7.out))]; exact HD7.out); clear hown hgrow hat hlt) | (go_at_call 81; clear t6; refine (HVA.out _).mono ?_; rintro e w7 ⟨gR, cR, rfl, HD7, HGE, HB7'⟩; have HB47 := Lib.hid (HB6.out.trans (HB7'.out.mono HB6.out.size)); have HB7 := Lib.hid (HB4.out.trans (HB47.out.mono HB4.out.size)); have HO7 := Lib.hid (ownsRow_below HO4.out HB47.out); have HNR := Lib.hid (show some gR ≠ (Value.slice (some ⟨gV1, 0, none⟩) 1 cV1).ownBlock from ne_own (World.block_lt_of_cell? w4 _ HV4.out.1) (Nat.le_trans HB6.out.size HGE.out))))
  rw [rounds_succ]
  go_wp2
  obtain ⟨g', hg', -, -, hv8⟩ := row_two HO8.out (by omega)
  injection hg' with hg'
  injection hg' with hg'
  subst hg'
  go_ret
  exact ⟨gV, cV, g1, c1, gR, cR, rfl, Lib.hid (fun o ho => hv8 o (by omega)), HD8, HB8⟩
end Go.Proofs.YtdbhlkejfecffaaGreatDoor
/-
  graph: EvalAll and Eval of the graph of two nodes.
-/
namespace Go.Proofs.YtdbhlkejfecffaaGreatDoor
open Go.RowKit KeepPlain

set_option maxRecDepth 100000 in
set_option maxHeartbeats 1600000 in
theorem evalAll_two (bD bA bN bO : Nat) (w : World) (hg : GAt w bD bA bN bO) :
    Calls Tryz.prog 43 #[graphV (.slice (some ⟨bN, 0, none⟩) 2 2) (.slice (some ⟨bO, 0, none⟩) 1 1), .slice none 0 0] w fun e w' =>
      ∃ gV cV g1 c1 gR cR, e = .returned (.tuple #[.slice (some ⟨gV, 0, none⟩) 2 cV, .int .i64 0]) ∧ Hid (∀ o, o < 4 → w'.cell? ⟨gV, o, none⟩ = ([.slice none 0 0, .slice (some ⟨g1, 0, none⟩) 1 c1, .slice none 0 0, .slice (some ⟨gR, 0, none⟩) 1 cR] : List Value)[o]?) ∧ Hid (w'.cell? ⟨gR, 0, none⟩ = some (.int .i64 6)) ∧ Hid (Below w.heap.size w w') := by
  obtain ⟨w0, hw0, hb0, hk0⟩ : ∃ w0, w.alloc (.cells (graphC (.slice (some ⟨bN, 0, none⟩) 2 2) (.slice (some ⟨bO, 0, none⟩) 1 1)).toArray 62) = w0 ∧ Below w.heap.size w w0 ∧ Blk w0 w.heap.size (graphC (.slice (some ⟨bN, 0, none⟩) 2 2) (.slice (some ⟨bO, 0, none⟩) 1 1)) 62 := ⟨_, rfl, (Below.refl _ _).alloc (Nat.le_refl _) _, heap_alloc_new w _⟩
  have HB0 := Lib.hid hb0
  have HG0 := Lib.hid (hg.below hb0)
  have HA := Lib.hid (analyze_two bD bA bN bO w0 HG0.out)
  have q := hk0.cell
  clear hb0 hk0 hg
  simp only [graphC] at hw0 q
  unfold graphV at HA
  unfold graphV
  go_enter Tryz.func43, Tryz.ntmps43
  go_upto_region 9 with (first | (go_at_call 55; clear q; refine HA.out.mono ?_; rintro e w1 ⟨xb, gS, cS, M, rfl, HI1, HB1⟩; have HG1 := Lib.hid (HG0.out.below HB1.out); have x1 := HI1.out.x.cell; simp only [infoC] at x1) | (go_at_call 56; refine (feed_none xb bN bO gS cS M w1 HI1.out).mono ?_; rintro e wy ⟨rfl, hwy⟩; subst wy))
  have HV := Lib.hid (values_two xb bD bA bN bO gS cS M w1 HG1.out HI1.out)
  go_wp2
  refine wp_loop_rounds 1 ?_
  rw [rounds_succ]
  go_wp2_with (go_at_call 59; refine HV.out.mono ?_; rintro e w2 ⟨gV, cV, g1, c1, gR, cR, rfl, H1, H2, HB2⟩)
  go_ret2
  exact ⟨gV, cV, g1, c1, gR, cR, rfl, H1, H2, Lib.hid (HB0.out.trans ((HB1.out.trans (HB2.out.mono HB1.out.size)).mono HB0.out.size))⟩
set_option maxRecDepth 100000 in
set_option maxHeartbeats 3200000 in
theorem eval_two (bD bA bN bO : Nat) (w : World) (hg : GAt w bD bA bN bO) :
    Calls Tryz.prog 24 #[graphV (.slice (some ⟨bN, 0, none⟩) 2 2) (.slice (some ⟨bO, 0, none⟩) 1 1), .slice none 0 0] w fun e w' =>
      ∃ gV cV g c, e = .returned (.tuple #[.slice (some ⟨gV, 0, none⟩) 1 cV, .int .i64 0]) ∧ Hid (∀ o, o < 2 → w'.cell? ⟨gV, o, none⟩ = ([.slice none 0 0, .slice (some ⟨g, 0, none⟩) 1 c] : List Value)[o]?) ∧ Hid (w'.cell? ⟨g, 0, none⟩ = some (.int .i64 6)) ∧ Hid (Below w.heap.size w w') := by
  obtain ⟨i0, hi0, hz0, hz1, hz2⟩ := info_parts infoT
  obtain ⟨w0, hw0, hb0, hk0⟩ : ∃ w0, w.alloc (.cells (graphC (.slice (some ⟨bN, 0, none⟩) 2 2) (.slice (some ⟨bO, 0, none⟩) 1 1)).toArray 62) = w0 ∧ Below w.heap.size w w0 ∧ Blk w0 w.heap.size (graphC (.slice (some ⟨bN, 0, none⟩) 2 2) (.slice (some ⟨bO, 0, none⟩) 1 1)) 62 := ⟨_, rfl, (Below.refl _ _).alloc (Nat.le_refl _) _, heap_alloc_new w _⟩
  have HB0 := Lib.hid hb0
  have HK0 := Lib.hid hk0
  have HG0 := Lib.hid (hg.below hb0)
  have HA := Lib.hid (evalAll_two bD bA bN bO w0 HG0.out)
  have q := hk0.cell
  clear hb0 hk0 hg
  simp only [graphC] at hw0 q
  unfold graphV at HA
  unfold graphV
  go_enter Tryz.func24, Tryz.ntmps24
  go_upto_region 6 with (go_at_call 43; clear q; refine HA.out.mono ?_; rintro e w1 ⟨gV, cV, g1, c1, gR, cR, rfl, H1, H2, HB1⟩; have HG1 := Lib.hid (HG0.out.below HB1.out); have q := (HK0.out.below HB1.out).cell; have o1 := HG1.out.o.cell; simp only [graphC] at q)
  have v2 : w1.cell? ⟨gV, 2, none⟩ = some (.slice none 0 0) := H1.out 2 (by omega)
  have v3 : w1.cell? ⟨gV, 3, none⟩ = some (.slice (some ⟨gR, 0, none⟩) 1 cR) := H1.out 3 (by omega)
  go_wp2
  refine wp_loop_rounds 2 ?_
  rw [rounds_succ]
  go_upto_region 9 with fail
  obtain ⟨w2, hw2, hb2, hk2⟩ : ∃ w2, w2 = w1.alloc (.cells #[.slice none 0 0, .slice (some ⟨gR, 0, none⟩) 1 cR] 68) ∧ Below w1.heap.size w1 w2 ∧ Blk w2 w1.heap.size [.slice none 0 0, .slice (some ⟨gR, 0, none⟩) 1 cR] 68 := ⟨_, rfl, (Below.refl _ _).alloc (Nat.le_refl _) _, heap_alloc_new w1 _⟩
  rw [← hw2]
  have HB2 := Lib.hid ((HB0.out.trans (HB1.out.mono HB0.out.size)).trans (hb2.mono (Nat.le_trans HB0.out.size HB1.out.size)))
  have HK2 := Lib.hid hk2
  have HD2 := Lib.hid (cell_below hb2 H2.out)
  clear hw2 hb2 hk2 v2 v3 q o1 hw0
  have HCL := Lib.hid (Tryz.slices_Clone_int gR 0 1 cR [6] w2.drew (by decide) (by decide) (fun j hj => by
    have : j = 0 := by simpa using hj
    subst this
    exact HD2.out))
  have HS2 := Lib.hid HK2.out.cell
  go_region_held3 (fun wy : World => ∀ o, wy.cell? ⟨w1.heap.size, o, none⟩ = ([.slice none 0 0, .slice (some ⟨gR, 0, none⟩) 1 cR] : List Value)[o]?) (first | exact HSR.out | exact HSN.out | exact HS3.out | exact HS2.out) (first | (refine step_append_lies _ (by rfl) _ _ _ (by rfl) w2.heap.size 68 i0 (.agg #[.slice none 0 0, .slice none 0 0]) 2 48 Tryz.underlying63 hi0 hz0 hz1 hz2 rfl (by decide) (.slice none 0 0) 0 [] (by rfl) (World.ownsRow_nil _ _ _ _) ⟨w3.heap.size, 0, none⟩ 1 1 [.slice none 0 0, .slice (some ⟨g, 0, none⟩) 1 c] (by rfl) (by rfl) (news2' _ _ _ _) (one_two _ _ rfl rfl) Nat.one_pos (by unfold maxLen; omega) (by omega) (Nat.le_trans HB3.out.size (alloc_le _ _)) _ rfl ?_; intro gW cW w4 hown hgrow hat hlt; have HO4 := Lib.hid hown; have HB4 := Lib.hid (show Below w3.heap.size w3 w4 from ((Below.refl _ _).alloc (Nat.le_refl _) _).trans (Below.ofGrown hgrow (alloc_le _ _) (fun k e => by cases e))); have HSR := Lib.hid (HK3.out.below HB4.out).cell; have HD4 := Lib.hid (cell_below HB4.out HD3.out); clear hown hgrow hat hlt) | (go_at_call 44; refine (cloneDim_nil _).mono ?_; rintro e wy ⟨rfl, hwy⟩; subst wy; dsimp only) | (go_at_call 31; refine HCL.out.mono ?_; rintro e w3 ⟨v, rfl, ho, -, hb⟩; have HB3 := Lib.hid (show Below w2.heap.size w2 w3 from below_undrew hb); obtain ⟨g, c, hv, -, -, hg⟩ := row_one ho; subst hv; have HD3 := Lib.hid hg; have HK3 := Lib.hid (HK2.out.below HB3.out); have HS3 := Lib.hid HK3.out.cell; have HSN := Lib.hid (HK3.out.alloc (.cells #[.slice none 0 0, .slice (some ⟨g, 0, none⟩) 1 c] 68)).cell; clear hg hb ho; dsimp only))
  all_goals
    obtain ⟨g', hg', -, -, hv4⟩ := row_two HO4.out (by omega)
    injection hg' with hg'
    injection hg' with hg'
    subst hg'
    go_wp2
    rw [rounds_succ]
    go_wp2
    go_ret2
    exact ⟨gW, cW, g, c, rfl, Lib.hid (fun o ho => hv4 o (by omega)), HD4, Lib.hid (HB2.out.trans ((HB3.out.trans (HB4.out.mono HB3.out.size)).mono HB2.out.size))⟩
end Go.Proofs.YtdbhlkejfecffaaGreatDoor
/-
  weftkeep1: stands.
-/
namespace Go.Proofs.YtdbhlkejfecffaaGreatDoor
open Go.RowKit KeepPlain

theorem half_eq : ((2 : Nat) : Rat) / ((4 : Nat) : Rat) = mkRat 1 2 := by decide +kernel
theorem half_rt : RT (mkRat 1 2) = .agg #[.string ⟨#[49]⟩, .string ⟨#[50]⟩] := by
  have h1 : (mkRat 1 2).num = 1 := by decide +kernel
  have h2 : (mkRat 1 2).den = 2 := by decide +kernel
  unfold RT
  rw [h1, h2, show Lib.itoa 1 = [49] from by rw [show (1 : Int) = ((1 : Nat) : Int) from rfl, itoa_nat, dec_small (by omega)]; rfl, dec_small (by omega)]
  rfl
theorem make_half (w : World) (ht : Pow10 w) : Calls Tryz.prog 23 #[.int .i64 2, .int .i64 4] w fun e w' => e = .returned (.tuple #[.agg #[.string ⟨#[49]⟩, .string ⟨#[50]⟩], .int .i64 0]) ∧ Hid (Below w.heap.size w w') := by
  have h := make_any 2 4 (by decide) (by decide) (by decide) (by rw [half_eq]; exact sz_mono (mk_sz 1 2 (by omega) (by omega)) (by omega)) w ht
  rw [half_eq, half_rt] at h
  exact h
theorem blk4 (w : World) (a b c d : List Value) (ta tb tc td : TypeId) : ∃ w0, (((w.alloc (.cells a.toArray ta)).alloc (.cells b.toArray tb)).alloc (.cells c.toArray tc)).alloc (.cells d.toArray td) = w0 ∧ Below w.heap.size w w0 ∧ Blk w0 w.heap.size a ta ∧ Blk w0 (w.heap.size + 1) b tb ∧ Blk w0 (w.heap.size + 1 + 1) c tc ∧ Blk w0 (w.heap.size + 1 + 1 + 1) d td ∧ w0.heap.size = w.heap.size + 4 := by
  refine ⟨_, rfl, ((((Below.refl _ _).alloc (Nat.le_refl _) _).alloc (by simp only [World.size_alloc]; omega) _).alloc (by simp only [World.size_alloc]; omega) _).alloc (by simp only [World.size_alloc]; omega) _, (((news_blk w a ta).alloc _).alloc _).alloc _, ?_, ?_, ?_, by simp only [World.size_alloc]⟩
  · have := ((news_blk (w.alloc (.cells a.toArray ta)) b tb).alloc (.cells c.toArray tc)).alloc (.cells d.toArray td)
    simp only [World.size_alloc] at this
    exact this
  · have := (news_blk ((w.alloc (.cells a.toArray ta)).alloc (.cells b.toArray tb)) c tc).alloc (.cells d.toArray td)
    simp only [World.size_alloc] at this
    exact this
  · have := news_blk (((w.alloc (.cells a.toArray ta)).alloc (.cells b.toArray tb)).alloc (.cells c.toArray tc)) d td
    simp only [World.size_alloc] at this
    exact this
set_option maxRecDepth 100000 in
set_option maxHeartbeats 3200000 in
theorem stands_any (w : World) (ht : Pow10 w) : Calls Tryz.prog 9 #[] w fun e w' => e = .returned (.bool true) ∧ Hid (Below w.heap.size w w') := by
  have HM := Lib.hid (make_half w ht)
  have c1 : ((⟨#[49]⟩ : ByteArray).toList == (⟨#[49]⟩ : ByteArray).toList) = true := by kernel_rfl
  have c2 : ((⟨#[50]⟩ : ByteArray).toList == (⟨#[50]⟩ : ByteArray).toList) = true := by kernel_rfl
  go_enter Tryz.func9, Tryz.ntmps9
  go_upto_region 2 with (go_at_call 23; refine HM.out.mono ?_; rintro e w1 ⟨rfl, HB1⟩)
  obtain ⟨w2, hw2, hb2, hk2⟩ : ∃ w2, w2 = w1.alloc (.cells #[.string ⟨#[49]⟩, .string ⟨#[50]⟩] 51) ∧ Below w1.heap.size w1 w2 ∧ Blk w2 w1.heap.size [.string ⟨#[49]⟩, .string ⟨#[50]⟩] 51 := ⟨_, rfl, (Below.refl _ _).alloc (Nat.le_refl _) _, heap_alloc_new w1 _⟩
  rw [← hw2]
  clear hw2
  have HB2 := Lib.hid (HB1.out.trans (hb2.mono HB1.out.size))
  have HK2 := Lib.hid hk2
  clear hb2 hk2
  go_upto_region 3 with fail
  obtain ⟨w3, hw3, hb3, hd3, ha3, hn3, ho3, hs3⟩ := blk4 w2 [.int .i64 3] [.int .i64 0, .int .i64 0] (twoC w2.heap.size (w2.heap.size + 1)) [.int .i64 1] 3 3 57 3
  simp only [twoC] at hw3
  rw [hw3]
  obtain ⟨w4, hw4, hb4, hk4⟩ : ∃ w4, w4 = w3.alloc (.cells (graphC (.slice (some ⟨w2.heap.size + 1 + 1, 0, none⟩) 2 2) (.slice (some ⟨w2.heap.size + 1 + 1 + 1, 0, none⟩) 1 1)).toArray 62) ∧ Below w3.heap.size w3 w4 ∧ Blk w4 w3.heap.size (graphC (.slice (some ⟨w2.heap.size + 1 + 1, 0, none⟩) 2 2) (.slice (some ⟨w2.heap.size + 1 + 1 + 1, 0, none⟩) 1 1)) 62 := ⟨_, rfl, (Below.refl _ _).alloc (Nat.le_refl _) _, heap_alloc_new w3 _⟩
  simp only [graphC] at hw4
  rw [← hw4]
  have HE := Lib.hid (eval_two w2.heap.size (w2.heap.size + 1) (w2.heap.size + 1 + 1) (w2.heap.size + 1 + 1 + 1) w4 ⟨hd3.below hb4, ha3.below hb4, hn3.below hb4, ho3.below hb4⟩)
  unfold graphV at HE
  have HB4 := Lib.hid (HB2.out.trans ((hb3.trans (hb4.mono hb3.size)).mono HB2.out.size))
  have HK4 := Lib.hid ((HK2.out.below hb3).below hb4)
  have q : ∀ o, w4.cell? ⟨w2.heap.size + 1 + 1 + 1 + 1, o, none⟩ = (graphC (.slice (some ⟨w2.heap.size + 1 + 1, 0, none⟩) 2 2) (.slice (some ⟨w2.heap.size + 1 + 1 + 1, 0, none⟩) 1 1))[o]? := by
    have h := hk4.cell
    rw [hs3] at h
    exact h
  simp only [graphC] at q
  clear hw3 hw4 hb3 hb4 hd3 ha3 hn3 ho3 hs3 hk4
  go_upto_region 4 with (go_at_call 24; clear q; refine HE.out.mono ?_; rintro e w5 ⟨gV, cV, g, c, rfl, H1, H2, HB5⟩; have k5 := (HK4.out.below HB5.out).cell; have v0 : w5.cell? ⟨gV, 0, none⟩ = some (.slice none 0 0) := H1.out 0 (by omega); have v1 : w5.cell? ⟨gV, 1, none⟩ = some (.slice (some ⟨g, 0, none⟩) 1 c) := H1.out 1 (by omega); have v2 := H2.out)
  go_wp2
  go_ret
  exact ⟨rfl, Lib.hid (HB4.out.trans (HB5.out.mono HB4.out.size))⟩
end Go.Proofs.YtdbhlkejfecffaaGreatDoor
