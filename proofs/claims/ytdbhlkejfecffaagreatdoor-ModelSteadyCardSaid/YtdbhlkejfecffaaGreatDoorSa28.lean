/-
  graph: blocks that are written whole; nodes and rules as values; the rules of Const and Add.
  Functions of lists that are nil: no round of their loops.
  parts.IsName of the graph's name; graph: what Const and Add consist of.
-/
import Derived.LoopN
import Derived.Test.YtdbhlkejfecffaaGreatDoorSa26
/-
  graph: blocks that are written whole; nodes and rules as values; the rules of Const and Add.
-/
namespace Go.Proofs.YtdbhlkejfecffaaGreatDoor
open Go.RowKit KeepPlain

/-- Cells of a block are written one behind the other. -/
def setAll (b : Nat) : List Value → Nat → World → World
  | [], _, w => w
  | v :: l, o, w => setAll b l (o + 1) (w.setCell ⟨b, o, none⟩ v)
theorem Blk.setAll' {b : Nat} {t : TypeId} : ∀ (l p q : List Value) (w : World), Blk w b (p ++ q) t → q.length = l.length → Blk (setAll b l p.length w) b (p ++ l) t
  | [], p, q, w, h, hl => by
    have : q = [] := List.eq_nil_of_length_eq_zero (by simpa using hl)
    subst this; exact h
  | v :: l, p, [], w, h, hl => by simp at hl
  | v :: l, p, x :: q, w, h, hl => by
    have h1 := h.set p.length v
    have e : (p ++ x :: q).set p.length v = (p ++ [v]) ++ q := by simp
    rw [e] at h1
    have := Blk.setAll' l (p ++ [v]) q _ h1 (by simpa using hl)
    simpa [setAll] using this
theorem Blk.setAll {b : Nat} {t : TypeId} {l q : List Value} {w : World} (h : Blk w b q t) (hl : q.length = l.length) : Blk (setAll b l 0 w) b l t := by
  simpa using Blk.setAll' l [] q w (by simpa using h) hl
theorem setAll_below (b : Nat) : ∀ (l : List Value) (o : Nat) (w : World), Below b w (setAll b l o w)
  | [], _, _ => Below.refl _ _
  | v :: l, o, w => ((Below.refl b w).setCell (p := ⟨b, o, none⟩) (Nat.le_refl b) v).trans (setAll_below b l (o + 1) _)
/-- A slice that is nil. -/
def nilS : Value := .slice none 0 0
/-- The cells of a node without a name, axes and subgraphs. -/
def nodeC (op : Int) (A D : Value) : List Value := [.int .i64 op, A, .string ⟨#[]⟩, .slice none 0 0, .string ⟨#[]⟩, .slice none 0 0, .int .i64 0, .int .i64 0, .int .i64 0, .int .i64 0, D, .slice none 0 0]
def nodeV (op : Int) (A D : Value) : Value := .agg #[.int .i64 op, A, .string ⟨#[]⟩, .slice none 0 0, .string ⟨#[]⟩, .slice none 0 0, .int .i64 0, .int .i64 0, .int .i64 0, .int .i64 0, D, .slice none 0 0]
/-- The rule of an operation: what it uses, how many arguments and axes it has, its word. -/
def ruleC (u a x : Int) (s : ByteArray) : List Value := [.int .i64 u, .int .i64 a, .bool false, .int .i64 x, .int .i64 0, .int .i64 0, .string s]
def ruleV (u a x : Int) (s : ByteArray) : Value := .agg #[.int .i64 u, .int .i64 a, .bool false, .int .i64 x, .int .i64 0, .int .i64 0, .string s]
def constW : ByteArray := ⟨#[99, 111, 110, 115, 116]⟩
def addW : ByteArray := ⟨#[97, 100, 100]⟩
def words7 : List Value := [.string ⟨#[97, 100, 100]⟩, .string ⟨#[115, 117, 98]⟩, .string ⟨#[109, 117, 108]⟩, .string ⟨#[109, 105, 110]⟩, .string ⟨#[109, 97, 120]⟩, .string ⟨#[108, 101, 115, 115]⟩, .string ⟨#[101, 113, 117, 97, 108]⟩]
def rule0 : List Value := [.int .i64 0, .int .i64 0, .bool false, .int .i64 0, .int .i64 0, .int .i64 0, .string ⟨#[]⟩]
theorem run_load_rule {w : World} {r : Nat} {u a x : Int} {s : ByteArray} (h : Blk w r (ruleC u a x s) 191) : (loadVar 191 ⟨r, 0, none⟩).run Tryz.prog w = .ok (ruleV u a x s) w :=
  run_loadVar_row (P := Tryz.prog) w r 191 191 (ruleC u a x s).toArray (0, 0) _ h Tryz.underlying191 rfl (by kernel_rfl)
theorem results_rule {fn : Func} {a u : Tmp} (hf : fn.results = #[.cell a 191, .tmp u]) (tmps : Array Value) (w : World) (r : Nat) (p q x : Int) (s : ByteArray) (v : Value) (hr : tmps.getD a undef = .pointer (some ⟨r, 0, none⟩)) (hv : tmps.getD u undef = v) (h : Blk w r (ruleC p q x s) 191) :
    (results fn tmps).run Tryz.prog w = .ok (.tuple #[ruleV p q x s, v]) w := by
  subst hv
  rw [results_cell_tmp hf, hr]
  simp only [asAddr, Sem.run_pure, Result.andThen_ok]
  rw [run_load_rule h]
  rfl
set_option maxRecDepth 100000 in
set_option maxHeartbeats 1600000 in
theorem rule_const (w : World) : Calls Tryz.prog 131 #[.int .i64 2] w fun e w' => e = .returned (.tuple #[ruleV 258 0 (-1) constW, .bool true]) ∧ Hid (Below w.heap.size w w') := by
  obtain ⟨w0, hw0, hb0, hk0⟩ : ∃ w0, w.alloc (.cells rule0.toArray 191) = w0 ∧ Below w.heap.size w w0 ∧ Blk w0 w.heap.size rule0 191 := ⟨_, rfl, (Below.refl _ _).alloc (Nat.le_refl _) _, heap_alloc_new w _⟩
  have HB0 := Lib.hid hb0
  have HK0 := Lib.hid hk0
  clear hb0 hk0
  simp only [rule0] at hw0
  go_enter Tryz.func131, Tryz.ntmps131
  go_upto_region 6 with fail
  have HK1 := HK0.out.alloc (.cells #[.int .i64 4, .int .i64 1, .bool false, .int .i64 0, .int .i64 0, .int .i64 0, .string ⟨#[]⟩] 191)
  have q := HK1.cell
  have f := HK1.frozen
  simp only [rule0] at q
  go_wp2
  refine bodyPost_ret (results_rule rfl _ _ w.heap.size 258 0 (-1) constW _ rfl rfl (HK1.setAll (l := ruleC 258 0 (-1) constW) rfl)) rfl ?_
  exact ⟨rfl, Lib.hid ((HB0.out.alloc HB0.out.size _).trans (setAll_below _ (ruleC 258 0 (-1) constW) 0 _))⟩
set_option maxRecDepth 100000 in
set_option maxHeartbeats 1600000 in
theorem rule_add (w : World) : Calls Tryz.prog 131 #[.int .i64 4] w fun e w' => e = .returned (.tuple #[ruleV 0 2 0 addW, .bool true]) ∧ Hid (Below w.heap.size w w') := by
  obtain ⟨w0, hw0, hb0, hk0⟩ : ∃ w0, w.alloc (.cells rule0.toArray 191) = w0 ∧ Below w.heap.size w w0 ∧ Blk w0 w.heap.size rule0 191 := ⟨_, rfl, (Below.refl _ _).alloc (Nat.le_refl _) _, heap_alloc_new w _⟩
  have HB0 := Lib.hid hb0
  have HK0 := Lib.hid hk0
  clear hb0 hk0
  simp only [rule0] at hw0
  go_enter Tryz.func131, Tryz.ntmps131
  go_upto_region 17 with fail
  obtain ⟨w1, hw1⟩ : ∃ w1, w1 = w0.alloc (.cells #[.int .i64 4, .int .i64 1, .bool false, .int .i64 0, .int .i64 0, .int .i64 0, .string ⟨#[]⟩] 191) := ⟨_, rfl⟩
  rw [← hw1]
  have HK1 : Blk w1 w.heap.size rule0 191 := by rw [hw1]; exact HK0.out.alloc _
  have HB1 : Below w.heap.size w w1 := by rw [hw1]; exact HB0.out.alloc HB0.out.size _
  have hs1 : w1.heap.size = w0.heap.size + 1 := by rw [hw1, World.size_alloc]
  clear hw1
  obtain ⟨w2, hw2⟩ : ∃ w2, w2 = w1.alloc (.cells words7.toArray 9) := ⟨_, rfl⟩
  have HK2 : Blk w2 w.heap.size rule0 191 := by rw [hw2]; exact HK1.alloc _
  have HB2 : Below w.heap.size w w2 := by rw [hw2]; exact HB1.alloc HB1.size _
  have HW2 : Blk w2 (w0.heap.size + 1) words7 9 := by rw [hw2, ← hs1]; exact news_blk _ _ _
  simp only [words7] at hw2
  rw [← hw2]
  clear hw2 hs1 HK1 HB1
  have q := HK2.cell
  have f := HK2.frozen
  have qw := HW2.cell
  simp only [rule0, words7] at q qw
  go_wp2
  refine bodyPost_ret (results_rule rfl _ _ w.heap.size 0 2 0 addW _ rfl rfl (HK2.setAll (l := ruleC 0 2 0 addW) rfl)) rfl ?_
  exact ⟨rfl, Lib.hid (HB2.trans (setAll_below _ (ruleC 0 2 0 addW) 0 _))⟩
end Go.Proofs.YtdbhlkejfecffaaGreatDoor
/-
  Functions of lists that are nil: no round of their loops.
-/
namespace Go.Proofs.YtdbhlkejfecffaaGreatDoor
open Go.RowKit KeepPlain

theorem ret_bool {a b : Bool} (h : a = b) : (Ending.returned (.bool a) : Ending) = .returned (.bool b) := by rw [h]
theorem nil_axis (w : World) : (binOp BinOp.eql 54 (.slice none 0 0) (.slice none 0 0)).run Tryz.prog w = .ok (.bool true) w := Lib.run_eql_slice_nil w _ 161 none 0 0 0 0 Tryz.underlying54
theorem nil_dim (w : World) : (binOp BinOp.eql 66 (.slice none 0 0) (.slice none 0 0)).run Tryz.prog w = .ok (.bool true) w := Lib.run_eql_slice_nil w _ 91 none 0 0 0 0 Tryz.underlying66
set_option maxRecDepth 100000 in
set_option maxHeartbeats 400000 in
theorem idx_axis (f : Value) (w : World) : Calls Tryz.prog 188 #[.slice none 0 0, f] w fun e w' => e = .returned (.int .i64 (-1)) ∧ w' = w := by
  go_enter Tryz.func188, Tryz.ntmps188
  go_wp2
  refine wp_loop_rounds 1 ?_
  rw [rounds_succ]
  go_wp2
  go_ret
  exact ⟨rfl, rfl⟩
set_option maxRecDepth 100000 in
set_option maxHeartbeats 400000 in
theorem has_axis (f : Value) (w : World) : Calls Tryz.prog 138 #[.slice none 0 0, f] w fun e w' => e = .returned (.bool false) ∧ w' = w := by
  go_enter Tryz.func138, Tryz.ntmps138
  go_wp2_with (go_at_call 188; refine (idx_axis _ _).mono ?_; rintro e w1 ⟨rfl, rfl⟩)
  go_ret
  exact ⟨rfl, rfl⟩
set_option maxRecDepth 100000 in
set_option maxHeartbeats 400000 in
theorem idx_int (f : Value) (w : World) : Calls Tryz.prog 46 #[.slice none 0 0, f] w fun e w' => e = .returned (.int .i64 (-1)) ∧ w' = w := by
  go_enter Tryz.func46, Tryz.ntmps46
  go_wp2
  refine wp_loop_rounds 1 ?_
  rw [rounds_succ]
  go_wp2
  go_ret
  exact ⟨rfl, rfl⟩
set_option maxRecDepth 100000 in
set_option maxHeartbeats 400000 in
theorem has_int (f : Value) (w : World) : Calls Tryz.prog 29 #[.slice none 0 0, f] w fun e w' => e = .returned (.bool false) ∧ w' = w := by
  go_enter Tryz.func29, Tryz.ntmps29
  go_wp2_with (go_at_call 46; refine (idx_int _ _).mono ?_; rintro e w1 ⟨rfl, rfl⟩)
  go_ret
  exact ⟨rfl, rfl⟩
set_option maxRecDepth 100000 in
set_option maxHeartbeats 400000 in
theorem idx_str (f : Value) (w : World) : Calls Tryz.prog 219 #[.slice none 0 0, f] w fun e w' => e = .returned (.int .i64 (-1)) ∧ w' = w := by
  go_enter Tryz.func219, Tryz.ntmps219
  go_wp2
  refine wp_loop_rounds 1 ?_
  rw [rounds_succ]
  go_wp2
  go_ret
  exact ⟨rfl, rfl⟩
set_option maxRecDepth 100000 in
set_option maxHeartbeats 400000 in
theorem has_str (f : Value) (w : World) : Calls Tryz.prog 177 #[.slice none 0 0, f] w fun e w' => e = .returned (.bool false) ∧ w' = w := by
  go_enter Tryz.func177, Tryz.ntmps177
  go_wp2_with (go_at_call 219; refine (idx_str _ _).mono ?_; rintro e w1 ⟨rfl, rfl⟩)
  go_ret
  exact ⟨rfl, rfl⟩
set_option maxRecDepth 100000 in
set_option maxHeartbeats 400000 in
theorem closed_nil (w : World) : Calls Tryz.prog 175 #[.slice none 0 0] w fun e w' => e = .returned (.bool true) ∧ w' = w := by
  go_enter Tryz.func175, Tryz.ntmps175
  go_wp2_with (go_at_call 138; refine (has_axis _ _).mono ?_; rintro e w1 ⟨rfl, rfl⟩)
  go_ret
  exact ⟨rfl, rfl⟩
set_option maxRecDepth 100000 in
set_option maxHeartbeats 400000 in
theorem product_nil (w : World) : Calls Tryz.prog 176 #[.slice none 0 0] w fun e w' => e = .returned (.int .i64 1) ∧ w' = w := by
  go_enter Tryz.func176, Tryz.ntmps176
  go_wp2
  refine wp_loop_rounds 1 ?_
  rw [rounds_succ]
  go_wp2
  go_ret
  exact ⟨rfl, rfl⟩
set_option maxRecDepth 100000 in
set_option maxHeartbeats 400000 in
theorem elements_nil (w : World) : Calls Tryz.prog 79 #[.slice none 0 0] w fun e w' => e = .returned (.int .i64 1) ∧ w' = w := by
  go_enter Tryz.func79, Tryz.ntmps79
  go_wp2
  refine wp_loop_rounds 1 ?_
  rw [rounds_succ]
  go_wp2
  go_ret
  exact ⟨rfl, rfl⟩
set_option maxRecDepth 100000 in
set_option maxHeartbeats 400000 in
theorem cloneAxes_nil (w : World) : Calls Tryz.prog 191 #[.slice none 0 0] w fun e w' => e = .returned (.slice none 0 0) ∧ w' = w := by
  go_enter Tryz.func191, Tryz.ntmps191
  go_wp2
  refine wp_loop_rounds 1 ?_
  rw [rounds_succ]
  go_wp2
  go_ret
  exact ⟨rfl, rfl⟩
set_option maxRecDepth 100000 in
set_option maxHeartbeats 400000 in
theorem cloneAxis_nil (w : World) : Calls Tryz.prog 256 #[.slice none 0 0] w fun e w' => e = .returned (.slice none 0 0) ∧ w' = w := by
  have hn := nil_axis
  go_enter Tryz.func256, Tryz.ntmps256
  go_wp2
  go_ret
  exact ⟨rfl, rfl⟩
set_option maxRecDepth 100000 in
set_option maxHeartbeats 400000 in
theorem cloneDim_nil (w : World) : Calls Tryz.prog 44 #[.slice none 0 0] w fun e w' => e = .returned (.slice none 0 0) ∧ w' = w := by
  have hn := nil_dim
  go_enter Tryz.func44, Tryz.ntmps44
  go_wp2
  go_ret
  exact ⟨rfl, rfl⟩
set_option maxRecDepth 100000 in
set_option maxHeartbeats 400000 in
theorem dims_nil (w : World) : Calls Tryz.prog 76 #[.slice none 0 0] w fun e w' => e = .returned (.slice none 0 0) ∧ w' = w := by
  go_enter Tryz.func76, Tryz.ntmps76
  go_wp2
  refine wp_loop_rounds 1 ?_
  rw [rounds_succ]
  go_wp2
  go_ret
  exact ⟨rfl, rfl⟩
set_option maxRecDepth 100000 in
set_option maxHeartbeats 400000 in
theorem symbols_nil (w : World) : Calls Tryz.prog 130 #[.slice none 0 0] w fun e w' => e = .returned (.int .i64 0) ∧ w' = w := by
  go_enter Tryz.func130, Tryz.ntmps130
  go_wp2
  refine wp_loop_rounds 1 ?_
  rw [rounds_succ]
  go_wp2
  go_ret
  exact ⟨rfl, rfl⟩
set_option maxRecDepth 100000 in
set_option maxHeartbeats 400000 in
theorem axisNames_nil (w : World) : Calls Tryz.prog 180 #[.slice none 0 0] w fun e w' => e = .returned (.slice none 0 0) ∧ w' = w := by
  go_enter Tryz.func180, Tryz.ntmps180
  go_wp2
  refine wp_loop_rounds 1 ?_
  rw [rounds_succ]
  go_wp2
  go_ret
  exact ⟨rfl, rfl⟩
theorem counted_eq (x n : Int) : (decide (n < 0) || decide (x = n)) = (decide (n < 0) || decide (x = n)) := rfl
set_option maxRecDepth 100000 in
set_option maxHeartbeats 400000 in
theorem counted_any (x n : Int) (h : n < 0 ∨ x = n) (w : World) : Calls Tryz.prog 174 #[.int .i64 x, .int .i64 n] w fun e w' => e = .returned (.bool true) ∧ w' = w := by
  by_cases hn : n < 0
  · have t : decide (n < 0) = true := decide_eq_true hn
    go_enter Tryz.func174, Tryz.ntmps174
    go_wp2
    go_ret
    exact ⟨rfl, rfl⟩
  · have t : decide (n < 0) = false := decide_eq_false hn
    have e : x = n := by omega
    subst e
    go_enter Tryz.func174, Tryz.ntmps174
    go_wp2
    go_ret
    exact ⟨rfl, rfl⟩
set_option maxRecDepth 100000 in
set_option maxHeartbeats 400000 in
theorem has_any (u a x k : Int) (s : ByteArray) (b : Bool) (hb : (bits BinOp.and IntKind.i64 u k != 0) = b) (w : World) : Calls Tryz.prog 173 #[ruleV u a x s, .int .i64 k] w fun e w' => e = .returned (.bool b) ∧ Hid (Below w.heap.size w w') := by
  unfold ruleV
  go_enter Tryz.func173, Tryz.ntmps173
  go_wp2
  go_ret
  exact ⟨rfl, Lib.hid ((Below.refl _ _).alloc (Nat.le_refl _) _)⟩
end Go.Proofs.YtdbhlkejfecffaaGreatDoor
/-
  parts.IsName of the graph's name; graph: what Const and Add consist of.
-/
namespace Go.Proofs.YtdbhlkejfecffaaGreatDoor
open Go.RowKit KeepPlain

def letters : ByteArray := ⟨#[97, 98, 99, 100, 101, 102, 103, 104, 105, 106, 107, 108, 109, 110, 111, 112, 113, 114, 115, 116, 117, 118, 119, 120, 121, 122, 48, 49, 50, 51, 52, 53, 54, 55, 56, 57]⟩
theorem letters_ascii : ∀ (j : Nat) b, letters.data.toList[j]? = some b → b.toNat < 128 := ascii_of_all (by decide)
theorem trim_g (w : World) :
    Calls Tryz.prog 215 #[.string ⟨#[103]⟩, .string letters] w fun e w' => e = .returned (.string ⟨#[]⟩) ∧ Below w.heap.size w w' := by
  have h := Any.strings_Trim_laid Tryz.lays160 trim_info ⟨#[103]⟩ letters w (by decide) (by decide) letters_ascii
  refine h.mono ?_
  rintro e w' ⟨rfl, hb⟩
  exact ⟨by rw [show Lib.trimS (⟨#[103]⟩ : ByteArray).data.toList letters.data.toList = [] from by decide], hb⟩
set_option maxRecDepth 100000 in
set_option maxHeartbeats 400000 in
theorem letters_g (w : World) : Calls Tryz.prog 170 #[.string ⟨#[103]⟩] w fun e w' => e = .returned (.bool true) ∧ Hid (Below w.heap.size w w') := by
  have HT := Lib.hid (trim_g w)
  unfold letters at HT
  go_enter Tryz.func170, Tryz.ntmps170
  go_wp2_with (go_at_call 215; refine HT.out.mono ?_; rintro e w1 ⟨rfl, hb1⟩)
  go_ret
  exact ⟨rfl, Lib.hid hb1⟩
set_option maxRecDepth 100000 in
set_option maxHeartbeats 400000 in
theorem name_g (w : World) : Calls Tryz.prog 129 #[.string ⟨#[103]⟩] w fun e w' => e = .returned (.bool true) ∧ Hid (Below w.heap.size w w') := by
  have HT := Lib.hid (letters_g w)
  go_enter Tryz.func129, Tryz.ntmps129
  go_wp2_with (go_at_call 170; refine HT.out.mono ?_; rintro e w1 ⟨rfl, hb1⟩)
  go_ret
  exact ⟨rfl, hb1⟩
set_option maxRecDepth 100000 in
set_option maxHeartbeats 1600000 in
theorem formed_add (A : Addr) (w : World) : Calls Tryz.prog 132 #[ruleV 0 2 0 addW, nodeV 4 (.slice (some A) 2 2) nilS] w fun e w' => e = .returned (.bool true) ∧ Hid (Below w.heap.size w w') := by
  have HH := Lib.hid (fun k b (hb : (bits BinOp.and IntKind.i64 0 k != 0) = b) wx => has_any 0 2 0 k addW b hb wx)
  have HC := Lib.hid (fun n wx => counted_any n n (.inr rfl) wx)
  obtain ⟨w0, hw0, hb0, hk0, hk1⟩ : ∃ w0, (w.alloc (.cells (ruleC 0 2 0 addW).toArray 191)).alloc (.cells (nodeC 4 (.slice (some A) 2 2) nilS).toArray 57) = w0 ∧ Below w.heap.size w w0 ∧ Blk w0 w.heap.size (ruleC 0 2 0 addW) 191 ∧ Blk w0 (w.heap.size + 1) (nodeC 4 (.slice (some A) 2 2) nilS) 57 := by
    refine ⟨_, rfl, ((Below.refl _ _).alloc (Nat.le_refl _) _).alloc (by simp only [World.size_alloc]; omega) _, (news_blk w (ruleC 0 2 0 addW) 191).alloc _, ?_⟩
    have := news_blk (w.alloc (.cells (ruleC 0 2 0 addW).toArray 191)) (nodeC 4 (.slice (some A) 2 2) nilS) 57
    rwa [World.size_alloc] at this
  have HS := Lib.hid (fun wx (hb : Below w0.heap.size w0 wx) => And.intro (hk0.below hb).cell (hk1.below hb).cell)
  have HB0 := Lib.hid hb0
  have HB00 := Lib.hid (Below.refl w0.heap.size w0)
  obtain ⟨q, r⟩ := HS.out w0 HB00.out
  clear hb0 hk0 hk1
  unfold nodeC nilS ruleC at *
  unfold ruleV at HH
  unfold ruleV nodeV
  go_enter Tryz.func132, Tryz.ntmps132
  go_wp2_with (first | (go_at_call 173; clear q r; refine (HH.out _ false (by decide) _).mono ?_; rintro e wn ⟨rfl, hbn⟩; have HB00 := Lib.hid (HB00.out.trans (hbn.out.mono HB00.out.size)); clear hbn; obtain ⟨q, r⟩ := HS.out _ HB00.out) | (go_at_call 173; clear q r; refine (HH.out _ true (by decide) _).mono ?_; rintro e wn ⟨rfl, hbn⟩; have HB00 := Lib.hid (HB00.out.trans (hbn.out.mono HB00.out.size)); clear hbn; obtain ⟨q, r⟩ := HS.out _ HB00.out) | (go_at_call 174; refine (HC.out _ _).mono ?_; rintro e wn ⟨rfl, rfl⟩))
  go_ret
  exact ⟨rfl, Lib.hid (HB0.out.trans (HB00.out.mono HB0.out.size))⟩
set_option maxRecDepth 100000 in
set_option maxHeartbeats 1600000 in
theorem formed_const (A : Addr) (w : World) : Calls Tryz.prog 132 #[ruleV 258 0 (-1) constW, nodeV 2 nilS (.slice (some A) 1 1)] w fun e w' => e = .returned (.bool true) ∧ Hid (Below w.heap.size w w') := by
  have HH := Lib.hid (fun k b (hb : (bits BinOp.and IntKind.i64 258 k != 0) = b) wx => has_any 258 0 (-1) k constW b hb wx)
  have HC := Lib.hid (fun x n (h : n < 0 ∨ x = n) wx => counted_any x n h wx)
  obtain ⟨w0, hw0, hb0, hk0, hk1⟩ : ∃ w0, (w.alloc (.cells (ruleC 258 0 (-1) constW).toArray 191)).alloc (.cells (nodeC 2 nilS (.slice (some A) 1 1)).toArray 57) = w0 ∧ Below w.heap.size w w0 ∧ Blk w0 w.heap.size (ruleC 258 0 (-1) constW) 191 ∧ Blk w0 (w.heap.size + 1) (nodeC 2 nilS (.slice (some A) 1 1)) 57 := by
    refine ⟨_, rfl, ((Below.refl _ _).alloc (Nat.le_refl _) _).alloc (by simp only [World.size_alloc]; omega) _, (news_blk w (ruleC 258 0 (-1) constW) 191).alloc _, ?_⟩
    have := news_blk (w.alloc (.cells (ruleC 258 0 (-1) constW).toArray 191)) (nodeC 2 nilS (.slice (some A) 1 1)) 57
    rwa [World.size_alloc] at this
  have HS := Lib.hid (fun wx (hb : Below w0.heap.size w0 wx) => And.intro (hk0.below hb).cell (hk1.below hb).cell)
  have HB0 := Lib.hid hb0
  have HB00 := Lib.hid (Below.refl w0.heap.size w0)
  obtain ⟨q, r⟩ := HS.out w0 HB00.out
  clear hb0 hk0 hk1
  unfold nodeC nilS ruleC at *
  unfold ruleV at HH
  unfold ruleV nodeV
  go_enter Tryz.func132, Tryz.ntmps132
  go_upto_region 12 with (first | (go_at_call 173; clear q r; refine (HH.out _ false (by decide) _).mono ?_; rintro e wn ⟨rfl, hbn⟩; have HB00 := Lib.hid (HB00.out.trans (hbn.out.mono HB00.out.size)); clear hbn; obtain ⟨q, r⟩ := HS.out _ HB00.out) | (go_at_call 173; clear q r; refine (HH.out _ true (by decide) _).mono ?_; rintro e wn ⟨rfl, hbn⟩; have HB00 := Lib.hid (HB00.out.trans (hbn.out.mono HB00.out.size)); clear hbn; obtain ⟨q, r⟩ := HS.out _ HB00.out) | (go_at_call 174; refine (HC.out _ _ (by decide) _).mono ?_; rintro e wn ⟨rfl, rfl⟩) | (go_at_call 175; refine (closed_nil _).mono ?_; rintro e wn ⟨rfl, rfl⟩) | (go_at_call 176; refine (product_nil _).mono ?_; rintro e wn ⟨rfl, rfl⟩))
  go_quiet (first | (go_at_call 175; exact Calls.quiet_of_same (closed_nil _)) | (go_at_call 176; exact Calls.quiet_of_same (product_nil _)))
  go_wp2
  go_ret
  exact ⟨rfl, Lib.hid (HB0.out.trans (below_drewN (HB00.out.mono HB0.out.size) _))⟩
end Go.Proofs.YtdbhlkejfecffaaGreatDoor
