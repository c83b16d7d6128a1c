/-
  parts.IsName of the graph's name; graph: what Const and Add consist of.
  graph: closures over the arguments, data and outputs of the graph of two nodes; the ranges of Const and Add.
  graph: the names of the nodes of the graph of two nodes.
  graph: the shapes of Const and Add.
-/
import Derived.Test.YtgennilhbedmoaaGreatDoorSa21
/-
  parts.IsName of the graph's name; graph: what Const and Add consist of.
-/
namespace Go.Proofs.YtgennilhbedmoaaGreatDoor
open Go.RowKit KeepPlain

def letters : ByteArray := ⟨#[97, 98, 99, 100, 101, 102, 103, 104, 105, 106, 107, 108, 109, 110, 111, 112, 113, 114, 115, 116, 117, 118, 119, 120, 121, 122, 48, 49, 50, 51, 52, 53, 54, 55, 56, 57]⟩
theorem letters_ascii : ∀ (j : Nat) b, letters.data.toList[j]? = some b → b.toNat < 128 := ascii_of_all (by decide)
theorem trim_g (w : World) :
    Calls Tryz.prog 58 #[.string ⟨#[103]⟩, .string letters] w fun e w' => e = .returned (.string ⟨#[]⟩) ∧ Below w.heap.size w w' := by
  have h := Any.strings_Trim_laid Tryz.lays160 trim_info ⟨#[103]⟩ letters w (by decide) (by decide) letters_ascii
  refine h.mono ?_
  rintro e w' ⟨rfl, hb⟩
  exact ⟨by rw [show Lib.trimS (⟨#[103]⟩ : ByteArray).data.toList letters.data.toList = [] from by decide], hb⟩
set_option maxRecDepth 100000 in
set_option maxHeartbeats 400000 in
theorem letters_g (w : World) : Calls Tryz.prog 182 #[.string ⟨#[103]⟩] w fun e w' => e = .returned (.bool true) ∧ Hid (Below w.heap.size w w') := by
  have HT := Lib.hid (trim_g w)
  unfold letters at HT
  go_enter Tryz.func182, Tryz.ntmps182
  go_wp2_with (go_at_call 58; refine HT.out.mono ?_; rintro e w1 ⟨rfl, hb1⟩)
  go_ret
  exact ⟨rfl, Lib.hid hb1⟩
set_option maxRecDepth 100000 in
set_option maxHeartbeats 400000 in
theorem name_g (w : World) : Calls Tryz.prog 144 #[.string ⟨#[103]⟩] w fun e w' => e = .returned (.bool true) ∧ Hid (Below w.heap.size w w') := by
  have HT := Lib.hid (letters_g w)
  go_enter Tryz.func144, Tryz.ntmps144
  go_wp2_with (go_at_call 182; refine HT.out.mono ?_; rintro e w1 ⟨rfl, hb1⟩)
  go_ret
  exact ⟨rfl, hb1⟩
set_option maxRecDepth 100000 in
set_option maxHeartbeats 1600000 in
theorem formed_add (A : Addr) (w : World) : Calls Tryz.prog 147 #[ruleV 0 2 0 addW, nodeV 4 (.slice (some A) 2 2) nilS] w fun e w' => e = .returned (.bool true) ∧ Hid (Below w.heap.size w w') := by
  have HH := Lib.hid (fun k b (hb : (bits BinOp.and IntKind.i64 0 k != 0) = b) wx => has_any 0 2 0 k addW b hb wx)
  have HC := Lib.hid (fun n wx => counted_any n n (.inr rfl) wx)
  obtain ⟨w0, hw0, hb0, hk0, hk1⟩ : ∃ w0, (w.alloc (.cells (ruleC 0 2 0 addW).toArray 199)).alloc (.cells (nodeC 4 (.slice (some A) 2 2) nilS).toArray 45) = w0 ∧ Below w.heap.size w w0 ∧ Blk w0 w.heap.size (ruleC 0 2 0 addW) 199 ∧ Blk w0 (w.heap.size + 1) (nodeC 4 (.slice (some A) 2 2) nilS) 45 := by
    refine ⟨_, rfl, ((Below.refl _ _).alloc (Nat.le_refl _) _).alloc (by simp only [World.size_alloc]; omega) _, (news_blk w (ruleC 0 2 0 addW) 199).alloc _, ?_⟩
    have := news_blk (w.alloc (.cells (ruleC 0 2 0 addW).toArray 199)) (nodeC 4 (.slice (some A) 2 2) nilS) 45
    rwa [World.size_alloc] at this
  have HS := Lib.hid (fun wx (hb : Below w0.heap.size w0 wx) => And.intro (hk0.below hb).cell (hk1.below hb).cell)
  have HB0 := Lib.hid hb0
  have HB00 := Lib.hid (Below.refl w0.heap.size w0)
  obtain ⟨q, r⟩ := HS.out w0 HB00.out
  clear hb0 hk0 hk1
  unfold nodeC nilS ruleC at *
  unfold ruleV at HH
  unfold ruleV nodeV
  go_enter Tryz.func147, Tryz.ntmps147
  go_wp2_with (first | (go_at_call 185; clear q r; refine (HH.out _ false (by decide) _).mono ?_; rintro e wn ⟨rfl, hbn⟩; have HB00 := Lib.hid (HB00.out.trans (hbn.out.mono HB00.out.size)); clear hbn; obtain ⟨q, r⟩ := HS.out _ HB00.out) | (go_at_call 185; clear q r; refine (HH.out _ true (by decide) _).mono ?_; rintro e wn ⟨rfl, hbn⟩; have HB00 := Lib.hid (HB00.out.trans (hbn.out.mono HB00.out.size)); clear hbn; obtain ⟨q, r⟩ := HS.out _ HB00.out) | (go_at_call 186; refine (HC.out _ _).mono ?_; rintro e wn ⟨rfl, rfl⟩))
  go_ret
  exact ⟨rfl, Lib.hid (HB0.out.trans (HB00.out.mono HB0.out.size))⟩
set_option maxRecDepth 100000 in
set_option maxHeartbeats 1600000 in
theorem formed_const (A : Addr) (w : World) : Calls Tryz.prog 147 #[ruleV 258 0 (-1) constW, nodeV 2 nilS (.slice (some A) 1 1)] w fun e w' => e = .returned (.bool true) ∧ Hid (Below w.heap.size w w') := by
  have HH := Lib.hid (fun k b (hb : (bits BinOp.and IntKind.i64 258 k != 0) = b) wx => has_any 258 0 (-1) k constW b hb wx)
  have HC := Lib.hid (fun x n (h : n < 0 ∨ x = n) wx => counted_any x n h wx)
  obtain ⟨w0, hw0, hb0, hk0, hk1⟩ : ∃ w0, (w.alloc (.cells (ruleC 258 0 (-1) constW).toArray 199)).alloc (.cells (nodeC 2 nilS (.slice (some A) 1 1)).toArray 45) = w0 ∧ Below w.heap.size w w0 ∧ Blk w0 w.heap.size (ruleC 258 0 (-1) constW) 199 ∧ Blk w0 (w.heap.size + 1) (nodeC 2 nilS (.slice (some A) 1 1)) 45 := by
    refine ⟨_, rfl, ((Below.refl _ _).alloc (Nat.le_refl _) _).alloc (by simp only [World.size_alloc]; omega) _, (news_blk w (ruleC 258 0 (-1) constW) 199).alloc _, ?_⟩
    have := news_blk (w.alloc (.cells (ruleC 258 0 (-1) constW).toArray 199)) (nodeC 2 nilS (.slice (some A) 1 1)) 45
    rwa [World.size_alloc] at this
  have HS := Lib.hid (fun wx (hb : Below w0.heap.size w0 wx) => And.intro (hk0.below hb).cell (hk1.below hb).cell)
  have HB0 := Lib.hid hb0
  have HB00 := Lib.hid (Below.refl w0.heap.size w0)
  obtain ⟨q, r⟩ := HS.out w0 HB00.out
  clear hb0 hk0 hk1
  unfold nodeC nilS ruleC at *
  unfold ruleV at HH
  unfold ruleV nodeV
  go_enter Tryz.func147, Tryz.ntmps147
  go_upto_region 12 with (first | (go_at_call 185; clear q r; refine (HH.out _ false (by decide) _).mono ?_; rintro e wn ⟨rfl, hbn⟩; have HB00 := Lib.hid (HB00.out.trans (hbn.out.mono HB00.out.size)); clear hbn; obtain ⟨q, r⟩ := HS.out _ HB00.out) | (go_at_call 185; clear q r; refine (HH.out _ true (by decide) _).mono ?_; rintro e wn ⟨rfl, hbn⟩; have HB00 := Lib.hid (HB00.out.trans (hbn.out.mono HB00.out.size)); clear hbn; obtain ⟨q, r⟩ := HS.out _ HB00.out) | (go_at_call 186; refine (HC.out _ _ (by decide) _).mono ?_; rintro e wn ⟨rfl, rfl⟩) | (go_at_call 187; refine (closed_nil _).mono ?_; rintro e wn ⟨rfl, rfl⟩) | (go_at_call 188; refine (product_nil _).mono ?_; rintro e wn ⟨rfl, rfl⟩))
  go_quiet (first | (go_at_call 187; exact Calls.quiet_of_same (closed_nil _)) | (go_at_call 188; exact Calls.quiet_of_same (product_nil _)))
  go_wp2
  go_ret
  exact ⟨rfl, Lib.hid (HB0.out.trans (below_drewN (HB00.out.mono HB0.out.size) _))⟩
end Go.Proofs.YtgennilhbedmoaaGreatDoor
/-
  graph: closures over the arguments, data and outputs of the graph of two nodes; the ranges of Const and Add.
-/
namespace Go.Proofs.YtgennilhbedmoaaGreatDoor
open Go.RowKit KeepPlain

set_option maxRecDepth 100000 in
set_option maxHeartbeats 400000 in
theorem word_3 (w : World) : Calls Tryz.prog 196 #[.int .i64 3] w fun e w' => e = .returned (.bool true) ∧ w' = w := by
  go_enter Tryz.func196, Tryz.ntmps196
  go_wp2
  go_ret
  exact ⟨rfl, rfl⟩
set_option maxRecDepth 100000 in
set_option maxHeartbeats 400000 in
theorem noword_3 (w : World) : Calls Tryz.prog 197 #[.int .i64 3] w fun e w' => e = .returned (.bool false) ∧ w' = w := by
  go_enter Tryz.func197, Tryz.ntmps197
  go_wp2_with (go_at_call 196; refine (word_3 _).mono ?_; rintro e w1 ⟨rfl, rfl⟩)
  go_ret
  exact ⟨rfl, rfl⟩
set_option maxRecDepth 100000 in
set_option maxHeartbeats 400000 in
theorem arg_no (p : Nat) (w : World) (h : w.cell? ⟨p, 0, none⟩ = some (.int .i64 1)) : Calls Tryz.prog 148 #[.int .i64 0, .pointer (some ⟨p, 0, none⟩)] w fun e w' => e = .returned (.bool false) ∧ w' = w := by
  go_enter Tryz.func148, Tryz.ntmps148
  go_wp2
  go_ret
  exact ⟨rfl, rfl⟩
set_option maxRecDepth 100000 in
set_option maxHeartbeats 400000 in
theorem out_no (p : Nat) (A : Addr) (w : World) (h : w.cell? ⟨p, 2, none⟩ = some (.slice (some A) 2 2)) : Calls Tryz.prog 108 #[.int .i64 1, .pointer (some ⟨p, 0, none⟩)] w fun e w' => e = .returned (.bool false) ∧ w' = w := by
  go_enter Tryz.func108, Tryz.ntmps108
  go_wp2
  go_ret
  exact ⟨rfl, rfl⟩
set_option maxRecDepth 100000 in
set_option maxHeartbeats 400000 in
theorem idx_word (b : Nat) (w : World) (h : w.cell? ⟨b, 0, none⟩ = some (.int .i64 3)) : Calls Tryz.prog 112 #[.slice (some ⟨b, 0, none⟩) 1 1, .func (.func 197) #[] #[]] w fun e w' => e = .returned (.int .i64 (-1)) ∧ w' = w := by
  go_enter Tryz.func112, Tryz.ntmps112
  go_wp2
  refine wp_loop_rounds 2 ?_
  rw [rounds_succ]
  go_wp2_with (go_at_call 197; refine (noword_3 _).mono ?_; rintro e w1 ⟨rfl, rfl⟩)
  rw [rounds_succ]
  go_wp2
  go_ret
  exact ⟨rfl, rfl⟩
set_option maxRecDepth 100000 in
set_option maxHeartbeats 400000 in
theorem has_word (b : Nat) (w : World) (h : w.cell? ⟨b, 0, none⟩ = some (.int .i64 3)) : Calls Tryz.prog 80 #[.slice (some ⟨b, 0, none⟩) 1 1, .func (.func 197) #[] #[]] w fun e w' => e = .returned (.bool false) ∧ w' = w := by
  go_enter Tryz.func80, Tryz.ntmps80
  go_wp2_with (go_at_call 112; refine (idx_word _ _ h).mono ?_; rintro e w1 ⟨rfl, rfl⟩)
  go_ret
  exact ⟨rfl, rfl⟩
set_option maxRecDepth 100000 in
set_option maxHeartbeats 400000 in
theorem idx_out (b p : Nat) (A : Addr) (w : World) (h : w.cell? ⟨b, 0, none⟩ = some (.int .i64 1)) (hp : w.cell? ⟨p, 2, none⟩ = some (.slice (some A) 2 2)) : Calls Tryz.prog 112 #[.slice (some ⟨b, 0, none⟩) 1 1, .func (.func 108) #[] #[.pointer (some ⟨p, 0, none⟩)]] w fun e w' => e = .returned (.int .i64 (-1)) ∧ w' = w := by
  go_enter Tryz.func112, Tryz.ntmps112
  go_wp2
  refine wp_loop_rounds 2 ?_
  rw [rounds_succ]
  go_wp2_with (go_at_call 108; refine (out_no _ _ _ hp).mono ?_; rintro e w1 ⟨rfl, rfl⟩)
  rw [rounds_succ]
  go_wp2
  go_ret
  exact ⟨rfl, rfl⟩
set_option maxRecDepth 100000 in
set_option maxHeartbeats 400000 in
theorem has_out (b p : Nat) (A : Addr) (w : World) (h : w.cell? ⟨b, 0, none⟩ = some (.int .i64 1)) (hp : w.cell? ⟨p, 2, none⟩ = some (.slice (some A) 2 2)) : Calls Tryz.prog 80 #[.slice (some ⟨b, 0, none⟩) 1 1, .func (.func 108) #[] #[.pointer (some ⟨p, 0, none⟩)]] w fun e w' => e = .returned (.bool false) ∧ w' = w := by
  go_enter Tryz.func80, Tryz.ntmps80
  go_wp2_with (go_at_call 112; refine (idx_out _ _ _ _ h hp).mono ?_; rintro e w1 ⟨rfl, rfl⟩)
  go_ret
  exact ⟨rfl, rfl⟩
set_option maxRecDepth 100000 in
set_option maxHeartbeats 400000 in
theorem idx_arg (b p : Nat) (w : World) (h : ∀ o, w.cell? ⟨b, o, none⟩ = ([.int .i64 0, .int .i64 0] : List Value)[o]?) (hp : w.cell? ⟨p, 0, none⟩ = some (.int .i64 1)) : Calls Tryz.prog 112 #[.slice (some ⟨b, 0, none⟩) 2 2, .func (.func 148) #[] #[.pointer (some ⟨p, 0, none⟩)]] w fun e w' => e = .returned (.int .i64 (-1)) ∧ w' = w := by
  go_enter Tryz.func112, Tryz.ntmps112
  go_wp2
  refine wp_loop_rounds 3 ?_
  rw [rounds_succ]
  go_wp2_with (go_at_call 148; refine (arg_no _ _ hp).mono ?_; rintro e w1 ⟨rfl, rfl⟩)
  rw [rounds_succ]
  go_wp2_with (go_at_call 148; refine (arg_no _ _ hp).mono ?_; rintro e w1 ⟨rfl, rfl⟩)
  rw [rounds_succ]
  go_wp2
  go_ret
  exact ⟨rfl, rfl⟩
set_option maxRecDepth 100000 in
set_option maxHeartbeats 400000 in
theorem has_arg (b p : Nat) (w : World) (h : ∀ o, w.cell? ⟨b, o, none⟩ = ([.int .i64 0, .int .i64 0] : List Value)[o]?) (hp : w.cell? ⟨p, 0, none⟩ = some (.int .i64 1)) : Calls Tryz.prog 80 #[.slice (some ⟨b, 0, none⟩) 2 2, .func (.func 148) #[] #[.pointer (some ⟨p, 0, none⟩)]] w fun e w' => e = .returned (.bool false) ∧ w' = w := by
  go_enter Tryz.func80, Tryz.ntmps80
  go_wp2_with (go_at_call 112; refine (idx_arg _ _ _ h hp).mono ?_; rintro e w1 ⟨rfl, rfl⟩)
  go_ret
  exact ⟨rfl, rfl⟩
set_option maxRecDepth 100000 in
set_option maxHeartbeats 800000 in
theorem ranged_const (b : Nat) (w : World) (h : w.cell? ⟨b, 0, none⟩ = some (.int .i64 3)) : Calls Tryz.prog 152 #[nodeV 2 nilS (.slice (some ⟨b, 0, none⟩) 1 1), .bool false] w fun e w' => e = .returned (.bool true) ∧ Hid (Below w.heap.size w w') := by
  obtain ⟨w0, hw0, hb0, hk0⟩ : ∃ w0, w.alloc (.cells (nodeC 2 nilS (.slice (some ⟨b, 0, none⟩) 1 1)).toArray 45) = w0 ∧ Below w.heap.size w w0 ∧ Blk w0 w.heap.size (nodeC 2 nilS (.slice (some ⟨b, 0, none⟩) 1 1)) 45 := ⟨_, rfl, (Below.refl _ _).alloc (Nat.le_refl _) _, heap_alloc_new w _⟩
  have HB0 := Lib.hid hb0
  have q := hk0.cell
  have h0 : w0.cell? ⟨b, 0, none⟩ = some (.int .i64 3) := by rw [hb0.cell (p := ⟨b, 0, none⟩) (World.block_lt_of_cell? w _ h)]; exact h
  have HH := Lib.hid h0
  clear hb0 hk0 h h0
  unfold nodeC nilS at *
  unfold nodeV
  go_enter Tryz.func152, Tryz.ntmps152
  go_wp2_with (go_at_call 80; refine (has_word _ _ HH.out).mono ?_; rintro e w1 ⟨rfl, rfl⟩)
  go_ret
  exact ⟨rfl, HB0⟩
set_option maxRecDepth 100000 in
set_option maxHeartbeats 800000 in
theorem ranged_add (A D : Value) (w : World) : Calls Tryz.prog 152 #[nodeV 4 A D, .bool false] w fun e w' => e = .returned (.bool true) ∧ Hid (Below w.heap.size w w') := by
  obtain ⟨w0, hw0, hb0, hk0⟩ : ∃ w0, w.alloc (.cells (nodeC 4 A D).toArray 45) = w0 ∧ Below w.heap.size w w0 ∧ Blk w0 w.heap.size (nodeC 4 A D) 45 := ⟨_, rfl, (Below.refl _ _).alloc (Nat.le_refl _) _, heap_alloc_new w _⟩
  have HB0 := Lib.hid hb0
  have q := hk0.cell
  clear hb0 hk0
  unfold nodeC at *
  unfold nodeV
  go_enter Tryz.func152, Tryz.ntmps152
  go_wp2
  go_ret
  exact ⟨rfl, HB0⟩
end Go.Proofs.YtgennilhbedmoaaGreatDoor
/-
  graph: the names of the nodes of the graph of two nodes.
-/
namespace Go.Proofs.YtgennilhbedmoaaGreatDoor
open Go.RowKit KeepPlain

theorem make_mapS (w : World) : (Instr.makeMap 93 none).run Tryz.prog w = .ok (.map (some w.heap.size)) (w.alloc (.map #[] 0)) := by
  simp [Instr.makeMap, go_sem]
set_option maxRecDepth 100000 in
set_option maxHeartbeats 400000 in
theorem repeats_nil (w : World) : Calls Tryz.prog 191 #[.slice none 0 0] w fun e w' => e = .returned (.bool false) ∧ Hid (Below w.heap.size w w') := by
  have HM := make_mapS w
  go_enter Tryz.func191, Tryz.ntmps191
  go_wp2
  refine wp_loop_rounds 1 ?_
  rw [rounds_succ]
  go_wp2
  go_ret
  exact ⟨rfl, Lib.hid ((Below.refl _ _).alloc (Nat.le_refl _) _)⟩
set_option maxRecDepth 100000 in
set_option maxHeartbeats 400000 in
theorem axisAt_nil (s : ByteArray) (w : World) : Calls Tryz.prog 158 #[.slice none 0 0, .string s] w fun e w' => e = .returned (.int .i64 (-1)) ∧ Hid (Below w.heap.size w w') := by
  go_enter Tryz.func158, Tryz.ntmps158
  go_wp2_with (go_at_call 200; refine (idx_axis _ _).mono ?_; rintro e w1 ⟨rfl, rfl⟩)
  go_ret
  exact ⟨rfl, Lib.hid ((Below.refl _ _).alloc (Nat.le_refl _) _)⟩
set_option maxRecDepth 100000 in
set_option maxHeartbeats 800000 in
theorem fresh_const (A D : Value) (w : World) : Calls Tryz.prog 193 #[nodeV 2 A D] w fun e w' => e = .returned (.tuple #[.slice none 0 0, .slice none 0 0]) ∧ Hid (Below w.heap.size w w') := by
  obtain ⟨w0, hw0, hb0, hk0⟩ : ∃ w0, w.alloc (.cells (nodeC 2 A D).toArray 45) = w0 ∧ Below w.heap.size w w0 ∧ Blk w0 w.heap.size (nodeC 2 A D) 45 := ⟨_, rfl, (Below.refl _ _).alloc (Nat.le_refl _) _, heap_alloc_new w _⟩
  have HB0 := Lib.hid hb0
  have HS := Lib.hid (fun wx (hb : Below w0.heap.size w0 wx) => (hk0.below hb).cell)
  have HB00 := Lib.hid (Below.refl w0.heap.size w0)
  have q := HS.out w0 HB00.out
  clear hb0 hk0
  unfold nodeC at *
  unfold nodeV
  go_enter Tryz.func193, Tryz.ntmps193
  go_wp2
  go_ret2
  exact ⟨rfl, HB0⟩
set_option maxRecDepth 100000 in
set_option maxHeartbeats 800000 in
theorem twice_const (A D : Value) (w : World) : Calls Tryz.prog 151 #[nodeV 2 A D, .slice none 0 0] w fun e w' => e = .returned (.bool false) ∧ Hid (Below w.heap.size w w') := by
  have HF := Lib.hid (fun wx => fresh_const A D wx)
  unfold nodeV at HF
  obtain ⟨w0, hw0, hb0, hk0⟩ : ∃ w0, w.alloc (.cells (nodeC 2 A D).toArray 45) = w0 ∧ Below w.heap.size w w0 ∧ Blk w0 w.heap.size (nodeC 2 A D) 45 := ⟨_, rfl, (Below.refl _ _).alloc (Nat.le_refl _) _, heap_alloc_new w _⟩
  have HB0 := Lib.hid hb0
  have HS := Lib.hid (fun wx (hb : Below w0.heap.size w0 wx) => (hk0.below hb).cell)
  have HB00 := Lib.hid (Below.refl w0.heap.size w0)
  have q := HS.out w0 HB00.out
  clear hb0 hk0
  unfold nodeC at *
  unfold nodeV
  go_enter Tryz.func151, Tryz.ntmps151
  go_wp2_with (first | (go_at_call 192; refine (axisNames_nil _).mono ?_; rintro e w1 ⟨rfl, rfl⟩) | (go_at_call 191; clear q; refine (repeats_nil _).mono ?_; rintro e wn ⟨rfl, hbn⟩; have HB00 := Lib.hid (HB00.out.trans (hbn.out.mono HB00.out.size)); clear hbn; have q := HS.out _ HB00.out) | (go_at_call 193; clear q; refine (HF.out _).mono ?_; rintro e wn ⟨rfl, hbn⟩; have HB00 := Lib.hid (HB00.out.trans (hbn.out.mono HB00.out.size)); clear hbn; have q := HS.out _ HB00.out) | (go_at_call 153; refine (has_axis _ _).mono ?_; rintro e w1 ⟨rfl, rfl⟩))
  go_ret
  exact ⟨rfl, Lib.hid ((((HB0.out.trans (HB00.out.mono HB0.out.size))).alloc (Nat.le_trans HB0.out.size HB00.out.size) _).alloc (Nat.le_trans (Nat.le_trans HB0.out.size HB00.out.size) (alloc_le _ _)) _)⟩
set_option maxRecDepth 100000 in
set_option maxHeartbeats 800000 in
theorem named_const (A D : Value) (w : World) : Calls Tryz.prog 150 #[ruleV 258 0 (-1) constW, nodeV 2 A D, .slice none 0 0] w fun e w' => e = .returned (.bool true) ∧ Hid (Below w.heap.size w w') := by
  have HH := Lib.hid (fun k b (hb : (bits BinOp.and IntKind.i64 258 k != 0) = b) wx => has_any 258 0 (-1) k constW b hb wx)
  obtain ⟨w0, hw0, hb0, hk0, hk1⟩ : ∃ w0, (w.alloc (.cells (ruleC 258 0 (-1) constW).toArray 199)).alloc (.cells (nodeC 2 A D).toArray 45) = w0 ∧ Below w.heap.size w w0 ∧ Blk w0 w.heap.size (ruleC 258 0 (-1) constW) 199 ∧ Blk w0 (w.heap.size + 1) (nodeC 2 A D) 45 := by
    refine ⟨_, rfl, ((Below.refl _ _).alloc (Nat.le_refl _) _).alloc (by simp only [World.size_alloc]; omega) _, (news_blk w (ruleC 258 0 (-1) constW) 199).alloc _, ?_⟩
    have := news_blk (w.alloc (.cells (ruleC 258 0 (-1) constW).toArray 199)) (nodeC 2 A D) 45
    rwa [World.size_alloc] at this
  have HS := Lib.hid (fun wx (hb : Below w0.heap.size w0 wx) => And.intro (hk0.below hb).cell (hk1.below hb).cell)
  have HB0 := Lib.hid hb0
  have HB00 := Lib.hid (Below.refl w0.heap.size w0)
  obtain ⟨q, r⟩ := HS.out w0 HB00.out
  clear hb0 hk0 hk1
  unfold nodeC ruleC at *
  unfold ruleV at HH
  unfold ruleV nodeV
  go_enter Tryz.func150, Tryz.ntmps150
  go_wp2_with (go_at_call 185; clear q r; refine (HH.out _ false (by decide) _).mono ?_; rintro e wn ⟨rfl, hbn⟩; have HB00 := Lib.hid (HB00.out.trans (hbn.out.mono HB00.out.size)); clear hbn; obtain ⟨q, r⟩ := HS.out _ HB00.out)
  refine wp_loop_rounds 1 ?_
  rw [rounds_succ]
  go_wp2_with (go_at_call 189; refine (has_str _ _).mono ?_; rintro e w1 ⟨rfl, rfl⟩)
  go_ret
  exact ⟨rfl, Lib.hid (HB0.out.trans (HB00.out.mono HB0.out.size))⟩
set_option maxRecDepth 100000 in
set_option maxHeartbeats 800000 in
theorem fresh_add (A D : Value) (w : World) : Calls Tryz.prog 193 #[nodeV 4 A D] w fun e w' => e = .returned (.tuple #[.slice none 0 0, .slice none 0 0]) ∧ Hid (Below w.heap.size w w') := by
  obtain ⟨w0, hw0, hb0, hk0⟩ : ∃ w0, w.alloc (.cells (nodeC 4 A D).toArray 45) = w0 ∧ Below w.heap.size w w0 ∧ Blk w0 w.heap.size (nodeC 4 A D) 45 := ⟨_, rfl, (Below.refl _ _).alloc (Nat.le_refl _) _, heap_alloc_new w _⟩
  have HB0 := Lib.hid hb0
  have HS := Lib.hid (fun wx (hb : Below w0.heap.size w0 wx) => (hk0.below hb).cell)
  have HB00 := Lib.hid (Below.refl w0.heap.size w0)
  have q := HS.out w0 HB00.out
  clear hb0 hk0
  unfold nodeC at *
  unfold nodeV
  go_enter Tryz.func193, Tryz.ntmps193
  go_wp2
  go_ret2
  exact ⟨rfl, HB0⟩
set_option maxRecDepth 100000 in
set_option maxHeartbeats 800000 in
theorem twice_add (A D : Value) (w : World) : Calls Tryz.prog 151 #[nodeV 4 A D, .slice none 0 0] w fun e w' => e = .returned (.bool false) ∧ Hid (Below w.heap.size w w') := by
  have HF := Lib.hid (fun wx => fresh_add A D wx)
  unfold nodeV at HF
  obtain ⟨w0, hw0, hb0, hk0⟩ : ∃ w0, w.alloc (.cells (nodeC 4 A D).toArray 45) = w0 ∧ Below w.heap.size w w0 ∧ Blk w0 w.heap.size (nodeC 4 A D) 45 := ⟨_, rfl, (Below.refl _ _).alloc (Nat.le_refl _) _, heap_alloc_new w _⟩
  have HB0 := Lib.hid hb0
  have HS := Lib.hid (fun wx (hb : Below w0.heap.size w0 wx) => (hk0.below hb).cell)
  have HB00 := Lib.hid (Below.refl w0.heap.size w0)
  have q := HS.out w0 HB00.out
  clear hb0 hk0
  unfold nodeC at *
  unfold nodeV
  go_enter Tryz.func151, Tryz.ntmps151
  go_wp2_with (first | (go_at_call 192; refine (axisNames_nil _).mono ?_; rintro e w1 ⟨rfl, rfl⟩) | (go_at_call 191; clear q; refine (repeats_nil _).mono ?_; rintro e wn ⟨rfl, hbn⟩; have HB00 := Lib.hid (HB00.out.trans (hbn.out.mono HB00.out.size)); clear hbn; have q := HS.out _ HB00.out) | (go_at_call 193; clear q; refine (HF.out _).mono ?_; rintro e wn ⟨rfl, hbn⟩; have HB00 := Lib.hid (HB00.out.trans (hbn.out.mono HB00.out.size)); clear hbn; have q := HS.out _ HB00.out) | (go_at_call 153; refine (has_axis _ _).mono ?_; rintro e w1 ⟨rfl, rfl⟩))
  go_ret
  exact ⟨rfl, Lib.hid ((((HB0.out.trans (HB00.out.mono HB0.out.size))).alloc (Nat.le_trans HB0.out.size HB00.out.size) _).alloc (Nat.le_trans (Nat.le_trans HB0.out.size HB00.out.size) (alloc_le _ _)) _)⟩
set_option maxRecDepth 100000 in
set_option maxHeartbeats 800000 in
theorem named_add (A D : Value) (w : World) : Calls Tryz.prog 150 #[ruleV 0 2 0 addW, nodeV 4 A D, .slice none 0 0] w fun e w' => e = .returned (.bool true) ∧ Hid (Below w.heap.size w w') := by
  have HH := Lib.hid (fun k b (hb : (bits BinOp.and IntKind.i64 0 k != 0) = b) wx => has_any 0 2 0 k addW b hb wx)
  obtain ⟨w0, hw0, hb0, hk0, hk1⟩ : ∃ w0, (w.alloc (.cells (ruleC 0 2 0 addW).toArray 199)).alloc (.cells (nodeC 4 A D).toArray 45) = w0 ∧ Below w.heap.size w w0 ∧ Blk w0 w.heap.size (ruleC 0 2 0 addW) 199 ∧ Blk w0 (w.heap.size + 1) (nodeC 4 A D) 45 := by
    refine ⟨_, rfl, ((Below.refl _ _).alloc (Nat.le_refl _) _).alloc (by simp only [World.size_alloc]; omega) _, (news_blk w (ruleC 0 2 0 addW) 199).alloc _, ?_⟩
    have := news_blk (w.alloc (.cells (ruleC 0 2 0 addW).toArray 199)) (nodeC 4 A D) 45
    rwa [World.size_alloc] at this
  have HS := Lib.hid (fun wx (hb : Below w0.heap.size w0 wx) => And.intro (hk0.below hb).cell (hk1.below hb).cell)
  have HB0 := Lib.hid hb0
  have HB00 := Lib.hid (Below.refl w0.heap.size w0)
  obtain ⟨q, r⟩ := HS.out w0 HB00.out
  clear hb0 hk0 hk1
  unfold nodeC ruleC at *
  unfold ruleV at HH
  unfold ruleV nodeV
  go_enter Tryz.func150, Tryz.ntmps150
  go_wp2_with (go_at_call 185; clear q r; refine (HH.out _ false (by decide) _).mono ?_; rintro e wn ⟨rfl, hbn⟩; have HB00 := Lib.hid (HB00.out.trans (hbn.out.mono HB00.out.size)); clear hbn; obtain ⟨q, r⟩ := HS.out _ HB00.out)
  refine wp_loop_rounds 1 ?_
  rw [rounds_succ]
  go_wp2_with (go_at_call 189; refine (has_str _ _).mono ?_; rintro e w1 ⟨rfl, rfl⟩)
  go_ret
  exact ⟨rfl, Lib.hid (HB0.out.trans (HB00.out.mono HB0.out.size))⟩
end Go.Proofs.YtgennilhbedmoaaGreatDoor
/-
  graph: the shapes of Const and Add.
-/
namespace Go.Proofs.YtgennilhbedmoaaGreatDoor
open Go.RowKit KeepPlain

set_option maxRecDepth 100000 in
set_option maxHeartbeats 800000 in
theorem broad_two (s : Value) (g c : Nat) (hc : 2 ≤ c ∧ c ≤ maxLen) (w : World) (h0 : w.cell? ⟨g, 0, none⟩ = some (.slice none 0 0)) (h1 : w.cell? ⟨g, 1, none⟩ = some (.slice none 0 0)) :
    Calls Tryz.prog 233 #[s, .slice (some ⟨g, 0, none⟩) 2 c] w fun e w' => e = .returned (.slice none 0 0) ∧ w' = w := by
  obtain ⟨c2, hc2⟩ := hc
  unfold maxLen at hc2
  have e1 : ¬ c = 1 := by omega
  have e2 : (1 : Nat) ≤ c := by omega
  go_enter Tryz.func233, Tryz.ntmps233
  go_wp2_with (go_at_call 261; refine (cloneAxis_nil _).mono ?_; rintro e w1 ⟨rfl, rfl⟩)
  refine wp_loop_rounds 2 ?_
  rw [rounds_succ]
  go_wp2
  refine wp_loop_rounds 1 ?_
  rw [rounds_succ]
  go_wp2
  rw [rounds_succ]
  go_wp2
  go_ret
  exact ⟨rfl, rfl⟩
set_option maxRecDepth 100000 in
set_option maxHeartbeats 1600000 in
theorem shape_const (s : Value) (A D : Value) (w : World) :
    Calls Tryz.prog 204 #[s, nodeV 2 A D, .slice none 0 0, .slice none 0 0] w fun e w' => e = .returned (.slice none 0 0) ∧ Hid (Below w.heap.size w w') := by
  obtain ⟨w0, hw0, hb0, hk0⟩ : ∃ w0, w.alloc (.cells (nodeC 2 A D).toArray 45) = w0 ∧ Below w.heap.size w w0 ∧ Blk w0 w.heap.size (nodeC 2 A D) 45 := ⟨_, rfl, (Below.refl _ _).alloc (Nat.le_refl _) _, heap_alloc_new w _⟩
  have HB0 := Lib.hid hb0
  have q := hk0.cell
  clear hb0 hk0
  unfold nodeC at *
  unfold nodeV
  go_enter Tryz.func204, Tryz.ntmps204
  go_wp2
  go_ret
  exact ⟨rfl, HB0⟩
set_option maxRecDepth 100000 in
set_option maxHeartbeats 1600000 in
theorem shape_add (s A D : Value) (g c : Nat) (hc : 2 ≤ c ∧ c ≤ maxLen) (w : World) (h0 : w.cell? ⟨g, 0, none⟩ = some (.slice none 0 0)) (h1 : w.cell? ⟨g, 1, none⟩ = some (.slice none 0 0)) :
    Calls Tryz.prog 204 #[s, nodeV 4 A D, .slice (some ⟨g, 0, none⟩) 2 c, .slice none 0 0] w fun e w' => e = .returned (.slice none 0 0) ∧ Hid (Below w.heap.size w w') := by
  obtain ⟨w0, hw0, hb0, hk0⟩ : ∃ w0, w.alloc (.cells (nodeC 4 A D).toArray 45) = w0 ∧ Below w.heap.size w w0 ∧ Blk w0 w.heap.size (nodeC 4 A D) 45 := ⟨_, rfl, (Below.refl _ _).alloc (Nat.le_refl _) _, heap_alloc_new w _⟩
  have HB0 := Lib.hid hb0
  have q := hk0.cell
  have i0 : w0.cell? ⟨g, 0, none⟩ = some (.slice none 0 0) := by rw [hb0.cell (p := ⟨g, 0, none⟩) (World.block_lt_of_cell? w _ h0)]; exact h0
  have i1 : w0.cell? ⟨g, 1, none⟩ = some (.slice none 0 0) := by rw [hb0.cell (p := ⟨g, 1, none⟩) (World.block_lt_of_cell? w _ h1)]; exact h1
  have HBR := Lib.hid (broad_two s g c hc w0 i0 i1)
  clear hb0 hk0 h0 h1 hc
  unfold nodeC at *
  unfold nodeV
  go_enter Tryz.func204, Tryz.ntmps204
  go_wp2_with (go_at_call 233; refine HBR.out.mono ?_; rintro e w1 ⟨rfl, hw⟩; subst hw)
  go_ret
  exact ⟨rfl, HB0⟩
end Go.Proofs.YtgennilhbedmoaaGreatDoor
