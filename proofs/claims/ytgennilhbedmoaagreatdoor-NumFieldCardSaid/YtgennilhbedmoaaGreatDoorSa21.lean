/-
  The stream: Rat.
  graph: blocks that are written whole; nodes and rules as values; the rules of Const and Add.
  Functions of lists that are nil: no round of their loops.
-/
import Derived.LoopN
import Derived.Test.YtgennilhbedmoaaGreatDoorSa15
import Derived.Test.YtgennilhbedmoaaGreatDoorSa20
/-
  The stream: Rat.
-/
namespace Go.Proofs.YtgennilhbedmoaaGreatDoor
open Go.RowKit KeepPlain

theorem mk_sz (n : Int) (d : Nat) (hn : -2147483648 ≤ n ∧ n ≤ 2147483647) (hd : 1 ≤ d ∧ d ≤ 1000) : Sz (mkRat n d) 8 := by
  refine sz_mk n d 8 (by omega) (nd_len_le _ 8 ?_) (nd_len_le _ 8 ?_)
  · exact Nat.lt_of_le_of_lt (show n.natAbs ≤ 2147483648 by omega) (by decide)
  · exact Nat.lt_of_le_of_lt hd.2 (by decide)
set_option maxRecDepth 100000 in
set_option maxHeartbeats 3200000 in
theorem Rat_st (xb : Nat) (V : Value) (L : List Int) (K : Nat) (hK : K ≤ 800000) (w : World) (h : St w xb V L K) (ht : Pow10 w) :
    Calls Tryz.prog 4 #[.pointer (some ⟨xb, 0, none⟩)] w fun e w' => ∃ q, e = .returned (RT q) ∧ Hid (Sz q 8) ∧ Hid (Asks xb V L (K + 8) w w') := by
  obtain ⟨w0, hw0, hb0, hk0⟩ : ∃ w0, w.alloc (.cells #[.string ⟨#[]⟩, .string ⟨#[]⟩] 27) = w0 ∧ Below w.heap.size w w0 ∧ Blk w0 w.heap.size [.string ⟨#[]⟩, .string ⟨#[]⟩] 27 := ⟨_, rfl, (Below.refl _ _).alloc (Nat.le_refl _) _, heap_alloc_new w _⟩
  have HXB := Lib.hid h.lt
  have HF := Lib.hid h.far
  have HA0 := Lib.hid ((Asks.refl h).below hb0)
  have HK0 := Lib.hid hk0
  have HT := Lib.hid (fun wx (k : KeepX xb w wx) => ht.asks h k)
  have HR1 := Lib.hid (Range_st xb V L K (by omega) (-20) 20 (by omega) w0 HA0.out.2)
  have HNX := Lib.hid (fun wx (h : St wx xb V L (K + 1)) => Next_st xb V L (K + 1) (by omega) 6 (by omega) wx h)
  have HR9 := Lib.hid (fun wx (h : St wx xb V L (K + 2)) => Range_st xb V L (K + 2) (by omega) 1 9 (by omega) wx h)
  have HPK := Lib.hid (fun wx (h : St wx xb V L (K + 2)) => Pick_lit xb V L (K + 2) (by omega) [2, 4, 8, 3, 7, 1000] #[.int .i64 2, .int .i64 4, .int .i64 8, .int .i64 3, .int .i64 7, .int .i64 1000] rfl 6 rfl (by decide) (by decide) wx h)
  have HWD := Lib.hid (fun wx (h : St wx xb V L (K + 2)) => Word_st xb V L (K + 2) (by omega) wx h)
  have HR99 := Lib.hid (fun wx (h : St wx xb V L (K + 5)) => Range_st xb V L (K + 5) (by omega) 1 99 (by omega) wx h)
  have HLG := Lib.hid (fun wx (h : St wx xb V L (K + 2)) (hp : Pow10 wx) => Long_st xb V L (K + 2) (by omega) wx h hp)
  have HRD := Lib.hid (fun (n : Int) (d : Nat) (hn : -2147483648 ≤ n ∧ n ≤ 2147483647) (hd : 1 ≤ d ∧ d ≤ 1000) wx (hp : Pow10 wx) => reduced_st n d hn hd wx hp)
  unfold RT at HLG HRD
  clear hb0 hk0 ht h
  go_enter Tryz.func4, Tryz.ntmps4
  go_upto_region 3 with (first | (go_at_call 10; refine HR1.out.mono ?_; rintro e w1 ⟨r1, rfl, HN1, HA1⟩) | (go_at_call 11; refine (HNX.out w1 HA1.out.2).mono ?_; rintro e w2 ⟨r2, rfl, HN2, HA2⟩))
  clear hw0
  have HA := Lib.hid ((HA0.out.trans HA1.out).trans HA2.out)
  have HK := Lib.hid (HA2.out.1.blk (HA1.out.1.blk HK0.out (by have := HXB.out; omega)) (by have := HXB.out; omega))
  clear HA0 HA1 HA2 HK0 HR1 HNX
  generalize w2 = wA at *
  have hc : r2 = 0 ∨ r2 = 1 ∨ r2 = 2 ∨ r2 = 3 ∨ (¬ r2 = 0 ∧ ¬ r2 = 1 ∧ ¬ r2 = 2 ∧ ¬ r2 = 3) := by omega
  clear HN2
  rcases hc with rfl | rfl | rfl | rfl | ⟨n0, n1, n2, n3⟩
  · go_upto_region 12 with (go_at_call 10; refine (HR9.out wA HA.out.2).mono ?_; rintro e w3 ⟨d, rfl, HD, HA3⟩)
    obtain ⟨m, hm, hm1⟩ : ∃ m : Nat, d = (m : Int) ∧ 1 ≤ m ∧ m ≤ 1000 := ⟨d.toNat, by have := HD.out; omega, by have := HD.out; omega⟩
    subst hm
    have HM := Lib.hid hm1
    have HB := Lib.hid (HA.out.trans HA3.out)
    have HKB := Lib.hid (HA3.out.1.blk HK.out (by have := HXB.out; omega))
    clear hm1
    go_wp2_with (go_at_call 15; refine (HRD.out r1 m (by have := HN1.out; omega) HM.out w3 (HT.out _ HB.out.1)).mono ?_; rintro e w5 ⟨rfl, HB5⟩; have HK5 := Lib.hid (HKB.out.below HB5.out); have q5 := HK5.out.cell; have r5 := HK5.out.frozen)
    refine bodyPost_ret (results_rat rfl _ _ w.heap.size _ _ rfl (blkR w5 _ _ _ _ _ HK5.out)) rfl ?_
    exact ⟨mkRat r1 m, rfl, Lib.hid (mk_sz _ _ (by have := HN1.out; omega) HM.out), Lib.hid (((HB.out.below HB5.out).up (by omega)).base HF.out (belowR _ _ _ _))⟩
  · go_upto_region 12 with (go_at_call 12; refine (HPK.out wA HA.out.2).mono ?_; rintro e w3 ⟨d, rfl, HD', HA3⟩)
    have HD := Lib.hid (show 1 ≤ d ∧ d ≤ 1000 by
      have h := HD'.out
      simp at h
      omega)
    clear HD'
    obtain ⟨m, hm, hm1⟩ : ∃ m : Nat, d = (m : Int) ∧ 1 ≤ m ∧ m ≤ 1000 := ⟨d.toNat, by have := HD.out; omega, by have := HD.out; omega⟩
    subst hm
    have HM := Lib.hid hm1
    have HB := Lib.hid (HA.out.trans HA3.out)
    have HKB := Lib.hid (HA3.out.1.blk HK.out (by have := HXB.out; omega))
    clear hm1
    go_wp2_with (go_at_call 15; refine (HRD.out r1 m (by have := HN1.out; omega) HM.out w3 (HT.out _ HB.out.1)).mono ?_; rintro e w5 ⟨rfl, HB5⟩; have HK5 := Lib.hid (HKB.out.below HB5.out); have q5 := HK5.out.cell; have r5 := HK5.out.frozen)
    refine bodyPost_ret (results_rat rfl _ _ w.heap.size _ _ rfl (blkR w5 _ _ _ _ _ HK5.out)) rfl ?_
    exact ⟨mkRat r1 m, rfl, Lib.hid (mk_sz _ _ (by have := HN1.out; omega) HM.out), Lib.hid (((HB.out.below HB5.out).up (by omega)).base HF.out (belowR _ _ _ _))⟩
  · go_upto_region 12 with (first | (go_at_call 13; refine (HWD.out wA HA.out.2).mono ?_; rintro e w3 ⟨n, rfl, HN, HA3⟩) | (go_at_call 10; refine (HR99.out w3 HA3.out.2).mono ?_; rintro e w4 ⟨d, rfl, HD, HA4⟩))
    obtain ⟨m, hm, hm1⟩ : ∃ m : Nat, d = (m : Int) ∧ 1 ≤ m ∧ m ≤ 1000 := ⟨d.toNat, by have := HD.out; omega, by have := HD.out; omega⟩
    subst hm
    have HM := Lib.hid hm1
    have HB := Lib.hid ((HA.out.trans HA3.out).trans HA4.out)
    have HKB := Lib.hid (HA4.out.1.blk (HA3.out.1.blk HK.out (by have := HXB.out; omega)) (by have := HXB.out; omega))
    clear hm1
    go_wp2_with (go_at_call 15; refine (HRD.out n m (HN.out) HM.out w4 (HT.out _ HB.out.1)).mono ?_; rintro e w5 ⟨rfl, HB5⟩; have HK5 := Lib.hid (HKB.out.below HB5.out); have q5 := HK5.out.cell; have r5 := HK5.out.frozen)
    refine bodyPost_ret (results_rat rfl _ _ w.heap.size _ _ rfl (blkR w5 _ _ _ _ _ HK5.out)) rfl ?_
    exact ⟨mkRat n m, rfl, Lib.hid (mk_sz _ _ (HN.out) HM.out), Lib.hid (((HB.out.below HB5.out).up (by omega)).base HF.out (belowR _ _ _ _))⟩
  · go_wp2_with (go_at_call 14; refine (HLG.out wA HA.out.2 (HT.out _ HA.out.1)).mono ?_; rintro e w5 ⟨q, rfl, HS, HA5⟩; have HK5 := Lib.hid (HA5.out.1.blk HK.out (by have := HXB.out; omega)); have q5 := HK5.out.cell; have r5 := HK5.out.frozen)
    refine bodyPost_ret (results_rat rfl _ _ w.heap.size _ _ rfl (blkR w5 _ _ _ _ _ HK5.out)) rfl ?_
    exact ⟨q, rfl, HS, Lib.hid (((HA.out.trans HA5.out).up (by omega)).base HF.out (belowR _ _ _ _))⟩
  · have b0 : (r2 == 0) = false := by simp [n0]
    have b1 : (r2 == 1) = false := by simp [n1]
    have b2 : (r2 == 2) = false := by simp [n2]
    have b3 : (r2 == 3) = false := by simp [n3]
    clear n0 n1 n2 n3
    go_wp2_with (go_at_call 15; refine (HRD.out r1 1 (by have := HN1.out; omega) (by omega) wA (HT.out _ HA.out.1)).mono ?_; rintro e w5 ⟨rfl, HB5⟩; have HK5 := Lib.hid (HK.out.below HB5.out); have q5 := HK5.out.cell; have r5 := HK5.out.frozen)
    refine bodyPost_ret (results_rat rfl _ _ w.heap.size _ _ rfl (blkR w5 _ _ _ _ _ HK5.out)) rfl ?_
    exact ⟨mkRat r1 1, rfl, Lib.hid (mk_sz _ _ (by have := HN1.out; omega) (by omega)), Lib.hid (((HA.out.below HB5.out).up (by omega)).base HF.out (belowR _ _ _ _))⟩
end Go.Proofs.YtgennilhbedmoaaGreatDoor
/-
  graph: blocks that are written whole; nodes and rules as values; the rules of Const and Add.
-/
namespace Go.Proofs.YtgennilhbedmoaaGreatDoor
open Go.RowKit KeepPlain

/-- Cells of a block are written one behind the other. -/
def setAll (b : Nat) : List Value → Nat → World → World
  | [], _, w => w
  | v :: l, o, w => setAll b l (o + 1) (w.setCell ⟨b, o, none⟩ v)
theorem Blk.setAll' {b : Nat} {t : TypeId} : ∀ (l p q : List Value) (w : World), Blk w b (p ++ q) t → q.length = l.length → Blk (setAll b l p.length w) b (p ++ l) t
  | [], p, q, w, h, hl => by
    have : q = [] := List.eq_nil_of_length_eq_zero (by simpa using hl)
    subst this; exact h
  | v :: l, p, [], w, h, hl => by simp at hl
  | v :: l, p, x :: q, w, h, hl => by
    have h1 := h.set p.length v
    have e : (p ++ x :: q).set p.length v = (p ++ [v]) ++ q := by simp
    rw [e] at h1
    have := Blk.setAll' l (p ++ [v]) q _ h1 (by simpa using hl)
    simpa [setAll] using this
theorem Blk.setAll {b : Nat} {t : TypeId} {l q : List Value} {w : World} (h : Blk w b q t) (hl : q.length = l.length) : Blk (setAll b l 0 w) b l t := by
  simpa using Blk.setAll' l [] q w (by simpa using h) hl
theorem setAll_below (b : Nat) : ∀ (l : List Value) (o : Nat) (w : World), Below b w (setAll b l o w)
  | [], _, _ => Below.refl _ _
  | v :: l, o, w => ((Below.refl b w).setCell (p := ⟨b, o, none⟩) (Nat.le_refl b) v).trans (setAll_below b l (o + 1) _)
/-- A slice that is nil. -/
def nilS : Value := .slice none 0 0
/-- The cells of a node without a name, axes and subgraphs. -/
def nodeC (op : Int) (A D : Value) : List Value := [.int .i64 op, A, .string ⟨#[]⟩, .slice none 0 0, .string ⟨#[]⟩, .slice none 0 0, .int .i64 0, .int .i64 0, .int .i64 0, .int .i64 0, D, .slice none 0 0]
def nodeV (op : Int) (A D : Value) : Value := .agg #[.int .i64 op, A, .string ⟨#[]⟩, .slice none 0 0, .string ⟨#[]⟩, .slice none 0 0, .int .i64 0, .int .i64 0, .int .i64 0, .int .i64 0, D, .slice none 0 0]
/-- The rule of an operation: what it uses, how many arguments and axes it has, its word. -/
def ruleC (u a x : Int) (s : ByteArray) : List Value := [.int .i64 u, .int .i64 a, .bool false, .int .i64 x, .int .i64 0, .int .i64 0, .string s]
def ruleV (u a x : Int) (s : ByteArray) : Value := .agg #[.int .i64 u, .int .i64 a, .bool false, .int .i64 x, .int .i64 0, .int .i64 0, .string s]
def constW : ByteArray := ⟨#[99, 111, 110, 115, 116]⟩
def addW : ByteArray := ⟨#[97, 100, 100]⟩
def words7 : List Value := [.string ⟨#[97, 100, 100]⟩, .string ⟨#[115, 117, 98]⟩, .string ⟨#[109, 117, 108]⟩, .string ⟨#[109, 105, 110]⟩, .string ⟨#[109, 97, 120]⟩, .string ⟨#[108, 101, 115, 115]⟩, .string ⟨#[101, 113, 117, 97, 108]⟩]
def rule0 : List Value := [.int .i64 0, .int .i64 0, .bool false, .int .i64 0, .int .i64 0, .int .i64 0, .string ⟨#[]⟩]
theorem run_load_rule {w : World} {r : Nat} {u a x : Int} {s : ByteArray} (h : Blk w r (ruleC u a x s) 199) : (loadVar 199 ⟨r, 0, none⟩).run Tryz.prog w = .ok (ruleV u a x s) w :=
  run_loadVar_row (P := Tryz.prog) w r 199 199 (ruleC u a x s).toArray (0, 0) _ h Tryz.underlying199 rfl (by kernel_rfl)
theorem results_rule {fn : Func} {a u : Tmp} (hf : fn.results = #[.cell a 199, .tmp u]) (tmps : Array Value) (w : World) (r : Nat) (p q x : Int) (s : ByteArray) (v : Value) (hr : tmps.getD a undef = .pointer (some ⟨r, 0, none⟩)) (hv : tmps.getD u undef = v) (h : Blk w r (ruleC p q x s) 199) :
    (results fn tmps).run Tryz.prog w = .ok (.tuple #[ruleV p q x s, v]) w := by
  subst hv
  rw [results_cell_tmp hf, hr]
  simp only [asAddr, Sem.run_pure, Result.andThen_ok]
  rw [run_load_rule h]
  rfl
set_option maxRecDepth 100000 in
set_option maxHeartbeats 1600000 in
theorem rule_const (w : World) : Calls Tryz.prog 146 #[.int .i64 2] w fun e w' => e = .returned (.tuple #[ruleV 258 0 (-1) constW, .bool true]) ∧ Hid (Below w.heap.size w w') := by
  obtain ⟨w0, hw0, hb0, hk0⟩ : ∃ w0, w.alloc (.cells rule0.toArray 199) = w0 ∧ Below w.heap.size w w0 ∧ Blk w0 w.heap.size rule0 199 := ⟨_, rfl, (Below.refl _ _).alloc (Nat.le_refl _) _, heap_alloc_new w _⟩
  have HB0 := Lib.hid hb0
  have HK0 := Lib.hid hk0
  clear hb0 hk0
  simp only [rule0] at hw0
  go_enter Tryz.func146, Tryz.ntmps146
  go_upto_region 6 with fail
  have HK1 := HK0.out.alloc (.cells #[.int .i64 4, .int .i64 1, .bool false, .int .i64 0, .int .i64 0, .int .i64 0, .string ⟨#[]⟩] 199)
  have q := HK1.cell
  have f := HK1.frozen
  simp only [rule0] at q
  go_wp2
  refine bodyPost_ret (results_rule rfl _ _ w.heap.size 258 0 (-1) constW _ rfl rfl (HK1.setAll (l := ruleC 258 0 (-1) constW) rfl)) rfl ?_
  exact ⟨rfl, Lib.hid ((HB0.out.alloc HB0.out.size _).trans (setAll_below _ (ruleC 258 0 (-1) constW) 0 _))⟩
set_option maxRecDepth 100000 in
set_option maxHeartbeats 1600000 in
theorem rule_add (w : World) : Calls Tryz.prog 146 #[.int .i64 4] w fun e w' => e = .returned (.tuple #[ruleV 0 2 0 addW, .bool true]) ∧ Hid (Below w.heap.size w w') := by
  obtain ⟨w0, hw0, hb0, hk0⟩ : ∃ w0, w.alloc (.cells rule0.toArray 199) = w0 ∧ Below w.heap.size w w0 ∧ Blk w0 w.heap.size rule0 199 := ⟨_, rfl, (Below.refl _ _).alloc (Nat.le_refl _) _, heap_alloc_new w _⟩
  have HB0 := Lib.hid hb0
  have HK0 := Lib.hid hk0
  clear hb0 hk0
  simp only [rule0] at hw0
  go_enter Tryz.func146, Tryz.ntmps146
  go_upto_region 17 with fail
  obtain ⟨w1, hw1⟩ : ∃ w1, w1 = w0.alloc (.cells #[.int .i64 4, .int .i64 1, .bool false, .int .i64 0, .int .i64 0, .int .i64 0, .string ⟨#[]⟩] 199) := ⟨_, rfl⟩
  rw [← hw1]
  have HK1 : Blk w1 w.heap.size rule0 199 := by rw [hw1]; exact HK0.out.alloc _
  have HB1 : Below w.heap.size w w1 := by rw [hw1]; exact HB0.out.alloc HB0.out.size _
  have hs1 : w1.heap.size = w0.heap.size + 1 := by rw [hw1, World.size_alloc]
  clear hw1
  obtain ⟨w2, hw2⟩ : ∃ w2, w2 = w1.alloc (.cells words7.toArray 9) := ⟨_, rfl⟩
  have HK2 : Blk w2 w.heap.size rule0 199 := by rw [hw2]; exact HK1.alloc _
  have HB2 : Below w.heap.size w w2 := by rw [hw2]; exact HB1.alloc HB1.size _
  have HW2 : Blk w2 (w0.heap.size + 1) words7 9 := by rw [hw2, ← hs1]; exact news_blk _ _ _
  simp only [words7] at hw2
  rw [← hw2]
  clear hw2 hs1 HK1 HB1
  have q := HK2.cell
  have f := HK2.frozen
  have qw := HW2.cell
  simp only [rule0, words7] at q qw
  go_wp2
  refine bodyPost_ret (results_rule rfl _ _ w.heap.size 0 2 0 addW _ rfl rfl (HK2.setAll (l := ruleC 0 2 0 addW) rfl)) rfl ?_
  exact ⟨rfl, Lib.hid (HB2.trans (setAll_below _ (ruleC 0 2 0 addW) 0 _))⟩
end Go.Proofs.YtgennilhbedmoaaGreatDoor
/-
  Functions of lists that are nil: no round of their loops.
-/
namespace Go.Proofs.YtgennilhbedmoaaGreatDoor
open Go.RowKit KeepPlain

theorem ret_bool {a b : Bool} (h : a = b) : (Ending.returned (.bool a) : Ending) = .returned (.bool b) := by rw [h]
theorem nil_axis (w : World) : (binOp BinOp.eql 42 (.slice none 0 0) (.slice none 0 0)).run Tryz.prog w = .ok (.bool true) w := Lib.run_eql_slice_nil w _ 171 none 0 0 0 0 Tryz.underlying42
theorem nil_dim (w : World) : (binOp BinOp.eql 54 (.slice none 0 0) (.slice none 0 0)).run Tryz.prog w = .ok (.bool true) w := Lib.run_eql_slice_nil w _ 74 none 0 0 0 0 Tryz.underlying54
set_option maxRecDepth 100000 in
set_option maxHeartbeats 400000 in
theorem idx_axis (f : Value) (w : World) : Calls Tryz.prog 200 #[.slice none 0 0, f] w fun e w' => e = .returned (.int .i64 (-1)) ∧ w' = w := by
  go_enter Tryz.func200, Tryz.ntmps200
  go_wp2
  refine wp_loop_rounds 1 ?_
  rw [rounds_succ]
  go_wp2
  go_ret
  exact ⟨rfl, rfl⟩
set_option maxRecDepth 100000 in
set_option maxHeartbeats 400000 in
theorem has_axis (f : Value) (w : World) : Calls Tryz.prog 153 #[.slice none 0 0, f] w fun e w' => e = .returned (.bool false) ∧ w' = w := by
  go_enter Tryz.func153, Tryz.ntmps153
  go_wp2_with (go_at_call 200; refine (idx_axis _ _).mono ?_; rintro e w1 ⟨rfl, rfl⟩)
  go_ret
  exact ⟨rfl, rfl⟩
set_option maxRecDepth 100000 in
set_option maxHeartbeats 400000 in
theorem idx_int (f : Value) (w : World) : Calls Tryz.prog 112 #[.slice none 0 0, f] w fun e w' => e = .returned (.int .i64 (-1)) ∧ w' = w := by
  go_enter Tryz.func112, Tryz.ntmps112
  go_wp2
  refine wp_loop_rounds 1 ?_
  rw [rounds_succ]
  go_wp2
  go_ret
  exact ⟨rfl, rfl⟩
set_option maxRecDepth 100000 in
set_option maxHeartbeats 400000 in
theorem has_int (f : Value) (w : World) : Calls Tryz.prog 80 #[.slice none 0 0, f] w fun e w' => e = .returned (.bool false) ∧ w' = w := by
  go_enter Tryz.func80, Tryz.ntmps80
  go_wp2_with (go_at_call 112; refine (idx_int _ _).mono ?_; rintro e w1 ⟨rfl, rfl⟩)
  go_ret
  exact ⟨rfl, rfl⟩
set_option maxRecDepth 100000 in
set_option maxHeartbeats 400000 in
theorem idx_str (f : Value) (w : World) : Calls Tryz.prog 230 #[.slice none 0 0, f] w fun e w' => e = .returned (.int .i64 (-1)) ∧ w' = w := by
  go_enter Tryz.func230, Tryz.ntmps230
  go_wp2
  refine wp_loop_rounds 1 ?_
  rw [rounds_succ]
  go_wp2
  go_ret
  exact ⟨rfl, rfl⟩
set_option maxRecDepth 100000 in
set_option maxHeartbeats 400000 in
theorem has_str (f : Value) (w : World) : Calls Tryz.prog 189 #[.slice none 0 0, f] w fun e w' => e = .returned (.bool false) ∧ w' = w := by
  go_enter Tryz.func189, Tryz.ntmps189
  go_wp2_with (go_at_call 230; refine (idx_str _ _).mono ?_; rintro e w1 ⟨rfl, rfl⟩)
  go_ret
  exact ⟨rfl, rfl⟩
set_option maxRecDepth 100000 in
set_option maxHeartbeats 400000 in
theorem closed_nil (w : World) : Calls Tryz.prog 187 #[.slice none 0 0] w fun e w' => e = .returned (.bool true) ∧ w' = w := by
  go_enter Tryz.func187, Tryz.ntmps187
  go_wp2_with (go_at_call 153; refine (has_axis _ _).mono ?_; rintro e w1 ⟨rfl, rfl⟩)
  go_ret
  exact ⟨rfl, rfl⟩
set_option maxRecDepth 100000 in
set_option maxHeartbeats 400000 in
theorem product_nil (w : World) : Calls Tryz.prog 188 #[.slice none 0 0] w fun e w' => e = .returned (.int .i64 1) ∧ w' = w := by
  go_enter Tryz.func188, Tryz.ntmps188
  go_wp2
  refine wp_loop_rounds 1 ?_
  rw [rounds_succ]
  go_wp2
  go_ret
  exact ⟨rfl, rfl⟩
set_option maxRecDepth 100000 in
set_option maxHeartbeats 400000 in
theorem elements_nil (w : World) : Calls Tryz.prog 79 #[.slice none 0 0] w fun e w' => e = .returned (.int .i64 1) ∧ w' = w := by
  go_enter Tryz.func79, Tryz.ntmps79
  go_wp2
  refine wp_loop_rounds 1 ?_
  rw [rounds_succ]
  go_wp2
  go_ret
  exact ⟨rfl, rfl⟩
set_option maxRecDepth 100000 in
set_option maxHeartbeats 400000 in
theorem cloneAxes_nil (w : World) : Calls Tryz.prog 203 #[.slice none 0 0] w fun e w' => e = .returned (.slice none 0 0) ∧ w' = w := by
  go_enter Tryz.func203, Tryz.ntmps203
  go_wp2
  refine wp_loop_rounds 1 ?_
  rw [rounds_succ]
  go_wp2
  go_ret
  exact ⟨rfl, rfl⟩
set_option maxRecDepth 100000 in
set_option maxHeartbeats 400000 in
theorem cloneAxis_nil (w : World) : Calls Tryz.prog 261 #[.slice none 0 0] w fun e w' => e = .returned (.slice none 0 0) ∧ w' = w := by
  have hn := nil_axis
  go_enter Tryz.func261, Tryz.ntmps261
  go_wp2
  go_ret
  exact ⟨rfl, rfl⟩
set_option maxRecDepth 100000 in
set_option maxHeartbeats 400000 in
theorem cloneDim_nil (w : World) : Calls Tryz.prog 38 #[.slice none 0 0] w fun e w' => e = .returned (.slice none 0 0) ∧ w' = w := by
  have hn := nil_dim
  go_enter Tryz.func38, Tryz.ntmps38
  go_wp2
  go_ret
  exact ⟨rfl, rfl⟩
set_option maxRecDepth 100000 in
set_option maxHeartbeats 400000 in
theorem dims_nil (w : World) : Calls Tryz.prog 76 #[.slice none 0 0] w fun e w' => e = .returned (.slice none 0 0) ∧ w' = w := by
  go_enter Tryz.func76, Tryz.ntmps76
  go_wp2
  refine wp_loop_rounds 1 ?_
  rw [rounds_succ]
  go_wp2
  go_ret
  exact ⟨rfl, rfl⟩
set_option maxRecDepth 100000 in
set_option maxHeartbeats 400000 in
theorem symbols_nil (w : World) : Calls Tryz.prog 145 #[.slice none 0 0] w fun e w' => e = .returned (.int .i64 0) ∧ w' = w := by
  go_enter Tryz.func145, Tryz.ntmps145
  go_wp2
  refine wp_loop_rounds 1 ?_
  rw [rounds_succ]
  go_wp2
  go_ret
  exact ⟨rfl, rfl⟩
set_option maxRecDepth 100000 in
set_option maxHeartbeats 400000 in
theorem axisNames_nil (w : World) : Calls Tryz.prog 192 #[.slice none 0 0] w fun e w' => e = .returned (.slice none 0 0) ∧ w' = w := by
  go_enter Tryz.func192, Tryz.ntmps192
  go_wp2
  refine wp_loop_rounds 1 ?_
  rw [rounds_succ]
  go_wp2
  go_ret
  exact ⟨rfl, rfl⟩
theorem counted_eq (x n : Int) : (decide (n < 0) || decide (x = n)) = (decide (n < 0) || decide (x = n)) := rfl
set_option maxRecDepth 100000 in
set_option maxHeartbeats 400000 in
theorem counted_any (x n : Int) (h : n < 0 ∨ x = n) (w : World) : Calls Tryz.prog 186 #[.int .i64 x, .int .i64 n] w fun e w' => e = .returned (.bool true) ∧ w' = w := by
  by_cases hn : n < 0
  · have t : decide (n < 0) = true := decide_eq_true hn
    go_enter Tryz.func186, Tryz.ntmps186
    go_wp2
    go_ret
    exact ⟨rfl, rfl⟩
  · have t : decide (n < 0) = false := decide_eq_false hn
    have e : x = n := by omega
    subst e
    go_enter Tryz.func186, Tryz.ntmps186
    go_wp2
    go_ret
    exact ⟨rfl, rfl⟩
set_option maxRecDepth 100000 in
set_option maxHeartbeats 400000 in
theorem has_any (u a x k : Int) (s : ByteArray) (b : Bool) (hb : (bits BinOp.and IntKind.i64 u k != 0) = b) (w : World) : Calls Tryz.prog 185 #[ruleV u a x s, .int .i64 k] w fun e w' => e = .returned (.bool b) ∧ Hid (Below w.heap.size w w') := by
  unfold ruleV
  go_enter Tryz.func185, Tryz.ntmps185
  go_wp2
  go_ret
  exact ⟨rfl, Lib.hid ((Below.refl _ _).alloc (Nat.le_refl _) _)⟩
end Go.Proofs.YtgennilhbedmoaaGreatDoor
