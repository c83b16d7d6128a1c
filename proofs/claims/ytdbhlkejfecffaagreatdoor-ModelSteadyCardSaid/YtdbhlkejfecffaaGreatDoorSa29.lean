/-
  graph: closures over the arguments, data and outputs of the graph of two nodes; the ranges of Const and Add.
  graph: the names of the nodes of the graph of two nodes.
  graph: the shapes of Const and Add.
-/
import Derived.Test.YtdbhlkejfecffaaGreatDoorSa28
/-
  graph: closures over the arguments, data and outputs of the graph of two nodes; the ranges of Const and Add.
-/
namespace Go.Proofs.YtdbhlkejfecffaaGreatDoor
open Go.RowKit KeepPlain

set_option maxRecDepth 100000 in
set_option maxHeartbeats 400000 in
theorem word_3 (w : World) : Calls Tryz.prog 184 #[.int .i64 3] w fun e w' => e = .returned (.bool true) ∧ w' = w := by
  go_enter Tryz.func184, Tryz.ntmps184
  go_wp2
  go_ret
  exact ⟨rfl, rfl⟩
set_option maxRecDepth 100000 in
set_option maxHeartbeats 400000 in
theorem noword_3 (w : World) : Calls Tryz.prog 185 #[.int .i64 3] w fun e w' => e = .returned (.bool false) ∧ w' = w := by
  go_enter Tryz.func185, Tryz.ntmps185
  go_wp2_with (go_at_call 184; refine (word_3 _).mono ?_; rintro e w1 ⟨rfl, rfl⟩)
  go_ret
  exact ⟨rfl, rfl⟩
set_option maxRecDepth 100000 in
set_option maxHeartbeats 400000 in
theorem arg_no (p : Nat) (w : World) (h : w.cell? ⟨p, 0, none⟩ = some (.int .i64 1)) : Calls Tryz.prog 133 #[.int .i64 0, .pointer (some ⟨p, 0, none⟩)] w fun e w' => e = .returned (.bool false) ∧ w' = w := by
  go_enter Tryz.func133, Tryz.ntmps133
  go_wp2
  go_ret
  exact ⟨rfl, rfl⟩
set_option maxRecDepth 100000 in
set_option maxHeartbeats 400000 in
theorem out_no (p : Nat) (A : Addr) (w : World) (h : w.cell? ⟨p, 2, none⟩ = some (.slice (some A) 2 2)) : Calls Tryz.prog 97 #[.int .i64 1, .pointer (some ⟨p, 0, none⟩)] w fun e w' => e = .returned (.bool false) ∧ w' = w := by
  go_enter Tryz.func97, Tryz.ntmps97
  go_wp2
  go_ret
  exact ⟨rfl, rfl⟩
set_option maxRecDepth 100000 in
set_option maxHeartbeats 400000 in
theorem idx_word (b : Nat) (w : World) (h : w.cell? ⟨b, 0, none⟩ = some (.int .i64 3)) : Calls Tryz.prog 46 #[.slice (some ⟨b, 0, none⟩) 1 1, .func (.func 185) #[] #[]] w fun e w' => e = .returned (.int .i64 (-1)) ∧ w' = w := by
  go_enter Tryz.func46, Tryz.ntmps46
  go_wp2
  refine wp_loop_rounds 2 ?_
  rw [rounds_succ]
  go_wp2_with (go_at_call 185; refine (noword_3 _).mono ?_; rintro e w1 ⟨rfl, rfl⟩)
  rw [rounds_succ]
  go_wp2
  go_ret
  exact ⟨rfl, rfl⟩
set_option maxRecDepth 100000 in
set_option maxHeartbeats 400000 in
theorem has_word (b : Nat) (w : World) (h : w.cell? ⟨b, 0, none⟩ = some (.int .i64 3)) : Calls Tryz.prog 29 #[.slice (some ⟨b, 0, none⟩) 1 1, .func (.func 185) #[] #[]] w fun e w' => e = .returned (.bool false) ∧ w' = w := by
  go_enter Tryz.func29, Tryz.ntmps29
  go_wp2_with (go_at_call 46; refine (idx_word _ _ h).mono ?_; rintro e w1 ⟨rfl, rfl⟩)
  go_ret
  exact ⟨rfl, rfl⟩
set_option maxRecDepth 100000 in
set_option maxHeartbeats 400000 in
theorem idx_out (b p : Nat) (A : Addr) (w : World) (h : w.cell? ⟨b, 0, none⟩ = some (.int .i64 1)) (hp : w.cell? ⟨p, 2, none⟩ = some (.slice (some A) 2 2)) : Calls Tryz.prog 46 #[.slice (some ⟨b, 0, none⟩) 1 1, .func (.func 97) #[] #[.pointer (some ⟨p, 0, none⟩)]] w fun e w' => e = .returned (.int .i64 (-1)) ∧ w' = w := by
  go_enter Tryz.func46, Tryz.ntmps46
  go_wp2
  refine wp_loop_rounds 2 ?_
  rw [rounds_succ]
  go_wp2_with (go_at_call 97; refine (out_no _ _ _ hp).mono ?_; rintro e w1 ⟨rfl, rfl⟩)
  rw [rounds_succ]
  go_wp2
  go_ret
  exact ⟨rfl, rfl⟩
set_option maxRecDepth 100000 in
set_option maxHeartbeats 400000 in
theorem has_out (b p : Nat) (A : Addr) (w : World) (h : w.cell? ⟨b, 0, none⟩ = some (.int .i64 1)) (hp : w.cell? ⟨p, 2, none⟩ = some (.slice (some A) 2 2)) : Calls Tryz.prog 29 #[.slice (some ⟨b, 0, none⟩) 1 1, .func (.func 97) #[] #[.pointer (some ⟨p, 0, none⟩)]] w fun e w' => e = .returned (.bool false) ∧ w' = w := by
  go_enter Tryz.func29, Tryz.ntmps29
  go_wp2_with (go_at_call 46; refine (idx_out _ _ _ _ h hp).mono ?_; rintro e w1 ⟨rfl, rfl⟩)
  go_ret
  exact ⟨rfl, rfl⟩
set_option maxRecDepth 100000 in
set_option maxHeartbeats 400000 in
theorem idx_arg (b p : Nat) (w : World) (h : ∀ o, w.cell? ⟨b, o, none⟩ = ([.int .i64 0, .int .i64 0] : List Value)[o]?) (hp : w.cell? ⟨p, 0, none⟩ = some (.int .i64 1)) : Calls Tryz.prog 46 #[.slice (some ⟨b, 0, none⟩) 2 2, .func (.func 133) #[] #[.pointer (some ⟨p, 0, none⟩)]] w fun e w' => e = .returned (.int .i64 (-1)) ∧ w' = w := by
  go_enter Tryz.func46, Tryz.ntmps46
  go_wp2
  refine wp_loop_rounds 3 ?_
  rw [rounds_succ]
  go_wp2_with (go_at_call 133; refine (arg_no _ _ hp).mono ?_; rintro e w1 ⟨rfl, rfl⟩)
  rw [rounds_succ]
  go_wp2_with (go_at_call 133; refine (arg_no _ _ hp).mono ?_; rintro e w1 ⟨rfl, rfl⟩)
  rw [rounds_succ]
  go_wp2
  go_ret
  exact ⟨rfl, rfl⟩
set_option maxRecDepth 100000 in
set_option maxHeartbeats 400000 in
theorem has_arg (b p : Nat) (w : World) (h : ∀ o, w.cell? ⟨b, o, none⟩ = ([.int .i64 0, .int .i64 0] : List Value)[o]?) (hp : w.cell? ⟨p, 0, none⟩ = some (.int .i64 1)) : Calls Tryz.prog 29 #[.slice (some ⟨b, 0, none⟩) 2 2, .func (.func 133) #[] #[.pointer (some ⟨p, 0, none⟩)]] w fun e w' => e = .returned (.bool false) ∧ w' = w := by
  go_enter Tryz.func29, Tryz.ntmps29
  go_wp2_with (go_at_call 46; refine (idx_arg _ _ _ h hp).mono ?_; rintro e w1 ⟨rfl, rfl⟩)
  go_ret
  exact ⟨rfl, rfl⟩
set_option maxRecDepth 100000 in
set_option maxHeartbeats 800000 in
theorem ranged_const (b : Nat) (w : World) (h : w.cell? ⟨b, 0, none⟩ = some (.int .i64 3)) : Calls Tryz.prog 137 #[nodeV 2 nilS (.slice (some ⟨b, 0, none⟩) 1 1), .bool false] w fun e w' => e = .returned (.bool true) ∧ Hid (Below w.heap.size w w') := by
  obtain ⟨w0, hw0, hb0, hk0⟩ : ∃ w0, w.alloc (.cells (nodeC 2 nilS (.slice (some ⟨b, 0, none⟩) 1 1)).toArray 57) = w0 ∧ Below w.heap.size w w0 ∧ Blk w0 w.heap.size (nodeC 2 nilS (.slice (some ⟨b, 0, none⟩) 1 1)) 57 := ⟨_, rfl, (Below.refl _ _).alloc (Nat.le_refl _) _, heap_alloc_new w _⟩
  have HB0 := Lib.hid hb0
  have q := hk0.cell
  have h0 : w0.cell? ⟨b, 0, none⟩ = some (.int .i64 3) := by rw [hb0.cell (p := ⟨b, 0, none⟩) (World.block_lt_of_cell? w _ h)]; exact h
  have HH := Lib.hid h0
  clear hb0 hk0 h h0
  unfold nodeC nilS at *
  unfold nodeV
  go_enter Tryz.func137, Tryz.ntmps137
  go_wp2_with (go_at_call 29; refine (has_word _ _ HH.out).mono ?_; rintro e w1 ⟨rfl, rfl⟩)
  go_ret
  exact ⟨rfl, HB0⟩
set_option maxRecDepth 100000 in
set_option maxHeartbeats 800000 in
theorem ranged_add (A D : Value) (w : World) : Calls Tryz.prog 137 #[nodeV 4 A D, .bool false] w fun e w' => e = .returned (.bool true) ∧ Hid (Below w.heap.size w w') := by
  obtain ⟨w0, hw0, hb0, hk0⟩ : ∃ w0, w.alloc (.cells (nodeC 4 A D).toArray 57) = w0 ∧ Below w.heap.size w w0 ∧ Blk w0 w.heap.size (nodeC 4 A D) 57 := ⟨_, rfl, (Below.refl _ _).alloc (Nat.le_refl _) _, heap_alloc_new w _⟩
  have HB0 := Lib.hid hb0
  have q := hk0.cell
  clear hb0 hk0
  unfold nodeC at *
  unfold nodeV
  go_enter Tryz.func137, Tryz.ntmps137
  go_wp2
  go_ret
  exact ⟨rfl, HB0⟩
end Go.Proofs.YtdbhlkejfecffaaGreatDoor
/-
  graph: the names of the nodes of the graph of two nodes.
-/
namespace Go.Proofs.YtdbhlkejfecffaaGreatDoor
open Go.RowKit KeepPlain

theorem make_mapS (w : World) : (Instr.makeMap 103 none).run Tryz.prog w = .ok (.map (some w.heap.size)) (w.alloc (.map #[] 0)) := by
  simp [Instr.makeMap, go_sem]
set_option maxRecDepth 100000 in
set_option maxHeartbeats 400000 in
theorem repeats_nil (w : World) : Calls Tryz.prog 179 #[.slice none 0 0] w fun e w' => e = .returned (.bool false) ∧ Hid (Below w.heap.size w w') := by
  have HM := make_mapS w
  go_enter Tryz.func179, Tryz.ntmps179
  go_wp2
  refine wp_loop_rounds 1 ?_
  rw [rounds_succ]
  go_wp2
  go_ret
  exact ⟨rfl, Lib.hid ((Below.refl _ _).alloc (Nat.le_refl _) _)⟩
set_option maxRecDepth 100000 in
set_option maxHeartbeats 400000 in
theorem axisAt_nil (s : ByteArray) (w : World) : Calls Tryz.prog 143 #[.slice none 0 0, .string s] w fun e w' => e = .returned (.int .i64 (-1)) ∧ Hid (Below w.heap.size w w') := by
  go_enter Tryz.func143, Tryz.ntmps143
  go_wp2_with (go_at_call 188; refine (idx_axis _ _).mono ?_; rintro e w1 ⟨rfl, rfl⟩)
  go_ret
  exact ⟨rfl, Lib.hid ((Below.refl _ _).alloc (Nat.le_refl _) _)⟩
set_option maxRecDepth 100000 in
set_option maxHeartbeats 800000 in
theorem fresh_const (A D : Value) (w : World) : Calls Tryz.prog 181 #[nodeV 2 A D] w fun e w' => e = .returned (.tuple #[.slice none 0 0, .slice none 0 0]) ∧ Hid (Below w.heap.size w w') := by
  obtain ⟨w0, hw0, hb0, hk0⟩ : ∃ w0, w.alloc (.cells (nodeC 2 A D).toArray 57) = w0 ∧ Below w.heap.size w w0 ∧ Blk w0 w.heap.size (nodeC 2 A D) 57 := ⟨_, rfl, (Below.refl _ _).alloc (Nat.le_refl _) _, heap_alloc_new w _⟩
  have HB0 := Lib.hid hb0
  have HS := Lib.hid (fun wx (hb : Below w0.heap.size w0 wx) => (hk0.below hb).cell)
  have HB00 := Lib.hid (Below.refl w0.heap.size w0)
  have q := HS.out w0 HB00.out
  clear hb0 hk0
  unfold nodeC at *
  unfold nodeV
  go_enter Tryz.func181, Tryz.ntmps181
  go_wp2
  go_ret2
  exact ⟨rfl, HB0⟩
set_option maxRecDepth 100000 in
set_option maxHeartbeats 800000 in
theorem twice_const (A D : Value) (w : World) : Calls Tryz.prog 136 #[nodeV 2 A D, .slice none 0 0] w fun e w' => e = .returned (.bool false) ∧ Hid (Below w.heap.size w w') := by
  have HF := Lib.hid (fun wx => fresh_const A D wx)
  unfold nodeV at HF
  obtain ⟨w0, hw0, hb0, hk0⟩ : ∃ w0, w.alloc (.cells (nodeC 2 A D).toArray 57) = w0 ∧ Below w.heap.size w w0 ∧ Blk w0 w.heap.size (nodeC 2 A D) 57 := ⟨_, rfl, (Below.refl _ _).alloc (Nat.le_refl _) _, heap_alloc_new w _⟩
  have HB0 := Lib.hid hb0
  have HS := Lib.hid (fun wx (hb : Below w0.heap.size w0 wx) => (hk0.below hb).cell)
  have HB00 := Lib.hid (Below.refl w0.heap.size w0)
  have q := HS.out w0 HB00.out
  clear hb0 hk0
  unfold nodeC at *
  unfold nodeV
  go_enter Tryz.func136, Tryz.ntmps136
  go_wp2_with (first | (go_at_call 180; refine (axisNames_nil _).mono ?_; rintro e w1 ⟨rfl, rfl⟩) | (go_at_call 179; clear q; refine (repeats_nil _).mono ?_; rintro e wn ⟨rfl, hbn⟩; have HB00 := Lib.hid (HB00.out.trans (hbn.out.mono HB00.out.size)); clear hbn; have q := HS.out _ HB00.out) | (go_at_call 181; clear q; refine (HF.out _).mono ?_; rintro e wn ⟨rfl, hbn⟩; have HB00 := Lib.hid (HB00.out.trans (hbn.out.mono HB00.out.size)); clear hbn; have q := HS.out _ HB00.out) | (go_at_call 138; refine (has_axis _ _).mono ?_; rintro e w1 ⟨rfl, rfl⟩))
  go_ret
  exact ⟨rfl, Lib.hid ((((HB0.out.trans (HB00.out.mono HB0.out.size))).alloc (Nat.le_trans HB0.out.size HB00.out.size) _).alloc (Nat.le_trans (Nat.le_trans HB0.out.size HB00.out.size) (alloc_le _ _)) _)⟩
set_option maxRecDepth 100000 in
set_option maxHeartbeats 800000 in
theorem named_const (A D : Value) (w : World) : Calls Tryz.prog 135 #[ruleV 258 0 (-1) constW, nodeV 2 A D, .slice none 0 0] w fun e w' => e = .returned (.bool true) ∧ Hid (Below w.heap.size w w') := by
  have HH := Lib.hid (fun k b (hb : (bits BinOp.and IntKind.i64 258 k != 0) = b) wx => has_any 258 0 (-1) k constW b hb wx)
  obtain ⟨w0, hw0, hb0, hk0, hk1⟩ : ∃ w0, (w.alloc (.cells (ruleC 258 0 (-1) constW).toArray 191)).alloc (.cells (nodeC 2 A D).toArray 57) = w0 ∧ Below w.heap.size w w0 ∧ Blk w0 w.heap.size (ruleC 258 0 (-1) constW) 191 ∧ Blk w0 (w.heap.size + 1) (nodeC 2 A D) 57 := by
    refine ⟨_, rfl, ((Below.refl _ _).alloc (Nat.le_refl _) _).alloc (by simp only [World.size_alloc]; omega) _, (news_blk w (ruleC 258 0 (-1) constW) 191).alloc _, ?_⟩
    have := news_blk (w.alloc (.cells (ruleC 258 0 (-1) constW).toArray 191)) (nodeC 2 A D) 57
    rwa [World.size_alloc] at this
  have HS := Lib.hid (fun wx (hb : Below w0.heap.size w0 wx) => And.intro (hk0.below hb).cell (hk1.below hb).cell)
  have HB0 := Lib.hid hb0
  have HB00 := Lib.hid (Below.refl w0.heap.size w0)
  obtain ⟨q, r⟩ := HS.out w0 HB00.out
  clear hb0 hk0 hk1
  unfold nodeC ruleC at *
  unfold ruleV at HH
  unfold ruleV nodeV
  go_enter Tryz.func135, Tryz.ntmps135
  go_wp2_with (go_at_call 173; clear q r; refine (HH.out _ false (by decide) _).mono ?_; rintro e wn ⟨rfl, hbn⟩; have HB00 := Lib.hid (HB00.out.trans (hbn.out.mono HB00.out.size)); clear hbn; obtain ⟨q, r⟩ := HS.out _ HB00.out)
  refine wp_loop_rounds 1 ?_
  rw [rounds_succ]
  go_wp2_with (go_at_call 177; refine (has_str _ _).mono ?_; rintro e w1 ⟨rfl, rfl⟩)
  go_ret
  exact ⟨rfl, Lib.hid (HB0.out.trans (HB00.out.mono HB0.out.size))⟩
set_option maxRecDepth 100000 in
set_option maxHeartbeats 800000 in
theorem fresh_add (A D : Value) (w : World) : Calls Tryz.prog 181 #[nodeV 4 A D] w fun e w' => e = .returned (.tuple #[.slice none 0 0, .slice none 0 0]) ∧ Hid (Below w.heap.size w w') := by
  obtain ⟨w0, hw0, hb0, hk0⟩ : ∃ w0, w.alloc (.cells (nodeC 4 A D).toArray 57) = w0 ∧ Below w.heap.size w w0 ∧ Blk w0 w.heap.size (nodeC 4 A D) 57 := ⟨_, rfl, (Below.refl _ _).alloc (Nat.le_refl _) _, heap_alloc_new w _⟩
  have HB0 := Lib.hid hb0
  have HS := Lib.hid (fun wx (hb : Below w0.heap.size w0 wx) => (hk0.below hb).cell)
  have HB00 := Lib.hid (Below.refl w0.heap.size w0)
  have q := HS.out w0 HB00.out
  clear hb0 hk0
  unfold nodeC at *
  unfold nodeV
  go_enter Tryz.func181, Tryz.ntmps181
  go_wp2
  go_ret2
  exact ⟨rfl, HB0⟩
set_option maxRecDepth 100000 in
set_option maxHeartbeats 800000 in
theorem twice_add (A D : Value) (w : World) : Calls Tryz.prog 136 #[nodeV 4 A D, .slice none 0 0] w fun e w' => e = .returned (.bool false) ∧ Hid (Below w.heap.size w w') := by
  have HF := Lib.hid (fun wx => fresh_add A D wx)
  unfold nodeV at HF
  obtain ⟨w0, hw0, hb0, hk0⟩ : ∃ w0, w.alloc (.cells (nodeC 4 A D).toArray 57) = w0 ∧ Below w.heap.size w w0 ∧ Blk w0 w.heap.size (nodeC 4 A D) 57 := ⟨_, rfl, (Below.refl _ _).alloc (Nat.le_refl _) _, heap_alloc_new w _⟩
  have HB0 := Lib.hid hb0
  have HS := Lib.hid (fun wx (hb : Below w0.heap.size w0 wx) => (hk0.below hb).cell)
  have HB00 := Lib.hid (Below.refl w0.heap.size w0)
  have q := HS.out w0 HB00.out
  clear hb0 hk0
  unfold nodeC at *
  unfold nodeV
  go_enter Tryz.func136, Tryz.ntmps136
  go_wp2_with (first | (go_at_call 180; refine (axisNames_nil _).mono ?_; rintro e w1 ⟨rfl, rfl⟩) | (go_at_call 179; clear q; refine (repeats_nil _).mono ?_; rintro e wn ⟨rfl, hbn⟩; have HB00 := Lib.hid (HB00.out.trans (hbn.out.mono HB00.out.size)); clear hbn; have q := HS.out _ HB00.out) | (go_at_call 181; clear q; refine (HF.out _).mono ?_; rintro e wn ⟨rfl, hbn⟩; have HB00 := Lib.hid (HB00.out.trans (hbn.out.mono HB00.out.size)); clear hbn; have q := HS.out _ HB00.out) | (go_at_call 138; refine (has_axis _ _).mono ?_; rintro e w1 ⟨rfl, rfl⟩))
  go_ret
  exact ⟨rfl, Lib.hid ((((HB0.out.trans (HB00.out.mono HB0.out.size))).alloc (Nat.le_trans HB0.out.size HB00.out.size) _).alloc (Nat.le_trans (Nat.le_trans HB0.out.size HB00.out.size) (alloc_le _ _)) _)⟩
set_option maxRecDepth 100000 in
set_option maxHeartbeats 800000 in
theorem named_add (A D : Value) (w : World) : Calls Tryz.prog 135 #[ruleV 0 2 0 addW, nodeV 4 A D, .slice none 0 0] w fun e w' => e = .returned (.bool true) ∧ Hid (Below w.heap.size w w') := by
  have HH := Lib.hid (fun k b (hb : (bits BinOp.and IntKind.i64 0 k != 0) = b) wx => has_any 0 2 0 k addW b hb wx)
  obtain ⟨w0, hw0, hb0, hk0, hk1⟩ : ∃ w0, (w.alloc (.cells (ruleC 0 2 0 addW).toArray 191)).alloc (.cells (nodeC 4 A D).toArray 57) = w0 ∧ Below w.heap.size w w0 ∧ Blk w0 w.heap.size (ruleC 0 2 0 addW) 191 ∧ Blk w0 (w.heap.size + 1) (nodeC 4 A D) 57 := by
    refine ⟨_, rfl, ((Below.refl _ _).alloc (Nat.le_refl _) _).alloc (by simp only [World.size_alloc]; omega) _, (news_blk w (ruleC 0 2 0 addW) 191).alloc _, ?_⟩
    have := news_blk (w.alloc (.cells (ruleC 0 2 0 addW).toArray 191)) (nodeC 4 A D) 57
    rwa [World.size_alloc] at this
  have HS := Lib.hid (fun wx (hb : Below w0.heap.size w0 wx) => And.intro (hk0.below hb).cell (hk1.below hb).cell)
  have HB0 := Lib.hid hb0
  have HB00 := Lib.hid (Below.refl w0.heap.size w0)
  obtain ⟨q, r⟩ := HS.out w0 HB00.out
  clear hb0 hk0 hk1
  unfold nodeC ruleC at *
  unfold ruleV at HH
  unfold ruleV nodeV
  go_enter Tryz.func135, Tryz.ntmps135
  go_wp2_with (go_at_call 173; clear q r; refine (HH.out _ false (by decide) _).mono ?_; rintro e wn ⟨rfl, hbn⟩; have HB00 := Lib.hid (HB00.out.trans (hbn.out.mono HB00.out.size)); clear hbn; obtain ⟨q, r⟩ := HS.out _ HB00.out)
  refine wp_loop_rounds 1 ?_
  rw [rounds_succ]
  go_wp2_with (go_at_call 177; refine (has_str _ _).mono ?_; rintro e w1 ⟨rfl, rfl⟩)
  go_ret
  exact ⟨rfl, Lib.hid (HB0.out.trans (HB00.out.mono HB0.out.size))⟩
end Go.Proofs.YtdbhlkejfecffaaGreatDoor
/-
  graph: the shapes of Const and Add.
-/
namespace Go.Proofs.YtdbhlkejfecffaaGreatDoor
open Go.RowKit KeepPlain

set_option maxRecDepth 100000 in
set_option maxHeartbeats 800000 in
theorem broad_two (s : Value) (g c : Nat) (hc : 2 ≤ c ∧ c ≤ maxLen) (w : World) (h0 : w.cell? ⟨g, 0, none⟩ = some (.slice none 0 0)) (h1 : w.cell? ⟨g, 1, none⟩ = some (.slice none 0 0)) :
    Calls Tryz.prog 222 #[s, .slice (some ⟨g, 0, none⟩) 2 c] w fun e w' => e = .returned (.slice none 0 0) ∧ w' = w := by
  obtain ⟨c2, hc2⟩ := hc
  unfold maxLen at hc2
  have e1 : ¬ c = 1 := by omega
  have e2 : (1 : Nat) ≤ c := by omega
  go_enter Tryz.func222, Tryz.ntmps222
  go_wp2_with (go_at_call 256; refine (cloneAxis_nil _).mono ?_; rintro e w1 ⟨rfl, rfl⟩)
  refine wp_loop_rounds 2 ?_
  rw [rounds_succ]
  go_wp2
  refine wp_loop_rounds 1 ?_
  rw [rounds_succ]
  go_wp2
  rw [rounds_succ]
  go_wp2
  go_ret
  exact ⟨rfl, rfl⟩
set_option maxRecDepth 100000 in
set_option maxHeartbeats 1600000 in
theorem shape_const (s : Value) (A D : Value) (w : World) :
    Calls Tryz.prog 192 #[s, nodeV 2 A D, .slice none 0 0, .slice none 0 0] w fun e w' => e = .returned (.slice none 0 0) ∧ Hid (Below w.heap.size w w') := by
  obtain ⟨w0, hw0, hb0, hk0⟩ : ∃ w0, w.alloc (.cells (nodeC 2 A D).toArray 57) = w0 ∧ Below w.heap.size w w0 ∧ Blk w0 w.heap.size (nodeC 2 A D) 57 := ⟨_, rfl, (Below.refl _ _).alloc (Nat.le_refl _) _, heap_alloc_new w _⟩
  have HB0 := Lib.hid hb0
  have q := hk0.cell
  clear hb0 hk0
  unfold nodeC at *
  unfold nodeV
  go_enter Tryz.func192, Tryz.ntmps192
  go_wp2
  go_ret
  exact ⟨rfl, HB0⟩
set_option maxRecDepth 100000 in
set_option maxHeartbeats 1600000 in
theorem shape_add (s A D : Value) (g c : Nat) (hc : 2 ≤ c ∧ c ≤ maxLen) (w : World) (h0 : w.cell? ⟨g, 0, none⟩ = some (.slice none 0 0)) (h1 : w.cell? ⟨g, 1, none⟩ = some (.slice none 0 0)) :
    Calls Tryz.prog 192 #[s, nodeV 4 A D, .slice (some ⟨g, 0, none⟩) 2 c, .slice none 0 0] w fun e w' => e = .returned (.slice none 0 0) ∧ Hid (Below w.heap.size w w') := by
  obtain ⟨w0, hw0, hb0, hk0⟩ : ∃ w0, w.alloc (.cells (nodeC 4 A D).toArray 57) = w0 ∧ Below w.heap.size w w0 ∧ Blk w0 w.heap.size (nodeC 4 A D) 57 := ⟨_, rfl, (Below.refl _ _).alloc (Nat.le_refl _) _, heap_alloc_new w _⟩
  have HB0 := Lib.hid hb0
  have q := hk0.cell
  have i0 : w0.cell? ⟨g, 0, none⟩ = some (.slice none 0 0) := by rw [hb0.cell (p := ⟨g, 0, none⟩) (World.block_lt_of_cell? w _ h0)]; exact h0
  have i1 : w0.cell? ⟨g, 1, none⟩ = some (.slice none 0 0) := by rw [hb0.cell (p := ⟨g, 1, none⟩) (World.block_lt_of_cell? w _ h1)]; exact h1
  have HBR := Lib.hid (broad_two s g c hc w0 i0 i1)
  clear hb0 hk0 h0 h1 hc
  unfold nodeC at *
  unfold nodeV
  go_enter Tryz.func192, Tryz.ntmps192
  go_wp2_with (go_at_call 222; refine HBR.out.mono ?_; rintro e w1 ⟨rfl, hw⟩; subst hw)
  go_ret
  exact ⟨rfl, HB0⟩
end Go.Proofs.YtdbhlkejfecffaaGreatDoor
