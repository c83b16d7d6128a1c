/-
  graph: checker.node of Const.
-/
import Derived.Test.YtdbhlkejfecffaaGreatDoorSa30
/-
  graph: checker.node of Const.
-/
namespace Go.Proofs.YtdbhlkejfecffaaGreatDoor
open Go.RowKit KeepPlain

theorem wpStill_skip {P : Program} {ops : Array Oper} {w : World} {Q : Act → Prop} {a : Act} {o : Oper} {rest : List Oper} (hw : Region.wanted o (yielded ops a.tmps) = false) (h : wpStill P ops w Q rest (a.put o.dst undef)) : wpStill P ops w Q (o :: rest) a := by
  simp only [wpStill, hw, Bool.false_eq_true, if_false]
  exact h
theorem wpStill_want {P : Program} {ops : Array Oper} {w : World} {Q : Act → Prop} {a : Act} {o : Oper} {rest : List Oper} (hw : Region.wanted o (yielded ops a.tmps) = true) (h : ∀ K : Act → Prop, (∀ a, wpStill P ops w Q rest a → K a) → o.still P a w K) : wpStill P ops w Q (o :: rest) a := by
  simp only [wpStill, hw, if_true]
  exact h _ (fun _ h => h)
theorem wpStill_yield {P : Program} {ops : Array Oper} {w : World} {Q : Act → Prop} {a : Act} {o : Oper} {rest : List Oper} {v : Value} (hw : Region.wanted o (yielded ops a.tmps) = true) (hv : (execOp a.eval o).run P w = .ok (.value v) w) (h : wpStill P ops w Q rest (a.put o.dst v)) : wpStill P ops w Q (o :: rest) a := by
  simp only [wpStill, hw, if_true, Oper.still, hv, Oper.stillUpon]
  exact ⟨trivial, h⟩
def sl (b n : Nat) : Value := .slice (some ⟨b, 0, none⟩) n n
/-- The cells of the two nodes. -/
def twoC (bD bA : Nat) : List Value := [.int .i64 2, .slice none 0 0, .string ⟨#[]⟩, .slice none 0 0, .string ⟨#[]⟩, .slice none 0 0, .int .i64 0, .int .i64 0, .int .i64 0, .int .i64 0, .slice (some ⟨bD, 0, none⟩) 1 1, .slice none 0 0,
  .int .i64 4, .slice (some ⟨bA, 0, none⟩) 2 2, .string ⟨#[]⟩, .slice none 0 0, .string ⟨#[]⟩, .slice none 0 0, .int .i64 0, .int .i64 0, .int .i64 0, .int .i64 0, .slice none 0 0, .slice none 0 0]
/-- The graph of two nodes lies in memory. -/
structure GAt (w : World) (bD bA bN bO : Nat) : Prop where
  d : Blk w bD [.int .i64 3] 3
  a : Blk w bA [.int .i64 0, .int .i64 0] 3
  n : Blk w bN (twoC bD bA) 57
  o : Blk w bO [.int .i64 1] 3
theorem GAt.below {w w' : World} {bD bA bN bO : Nat} (h : GAt w bD bA bN bO) (hb : Below w.heap.size w w') : GAt w' bD bA bN bO := ⟨h.d.below hb, h.a.below hb, h.n.below hb, h.o.below hb⟩
theorem GAt.keep {w w' : World} {bD bA bN bO d B : Nat} (h : GAt w bD bA bN bO) (hb : KeepB d B w w') (hl : bD < B ∧ bA < B ∧ bN < B ∧ bO < B) (hn : bD ≠ d ∧ bA ≠ d ∧ bN ≠ d ∧ bO ≠ d) : GAt w' bD bA bN bO :=
  ⟨hb.blk h.d hl.1 hn.1, hb.blk h.a hl.2.1 hn.2.1, hb.blk h.n hl.2.2.1 hn.2.2.1, hb.blk h.o hl.2.2.2 hn.2.2.2⟩
theorem blkT3 (w : World) (a b c : Value) (ta tb tc : TypeId) : ∃ w0, ((w.alloc (.cells #[a] ta)).alloc (.cells #[b] tb)).alloc (.cells #[c] tc) = w0 ∧ Below w.heap.size w w0 ∧ Blk w0 w.heap.size [a] ta ∧ Blk w0 (w.heap.size + 1) [b] tb ∧ Blk w0 (w.heap.size + 1 + 1) [c] tc ∧ w0.heap.size = w.heap.size + 3 := by
  refine ⟨_, rfl, (((Below.refl _ _).alloc (Nat.le_refl _) _).alloc (by simp only [World.size_alloc]; omega) _).alloc (by simp only [World.size_alloc]; omega) _, ((news_blk w [a] ta).alloc _).alloc _, ?_, ?_, by simp only [World.size_alloc]⟩
  · have := (news_blk (w.alloc (.cells #[a] ta)) [b] tb).alloc (.cells #[c] tc)
    simp only [World.size_alloc] at this
    exact this
  · have := news_blk ((w.alloc (.cells #[a] ta)).alloc (.cells #[b] tb)) [c] tc
    simp only [World.size_alloc] at this
    exact this
set_option maxRecDepth 100000 in
set_option maxHeartbeats 3200000 in
theorem node_const (cb xb B bD bA bN bO : Nat) (O S M : Value) (w : World) (hB : B ≤ w.heap.size) (hcb : cb < B) (hxb : xb < B) (hne : cb ≠ xb) (hg : GAt w bD bA bN bO)
    (hc : Blk w cb [.slice none 0 0] 131) (hx : Blk w xb (infoC (.slice (some ⟨bN, 0, none⟩) 2 2) O S M) 107) (hS : w.ownsRow B 54 1 S 0 []) :
    Calls Tryz.prog 96 #[.pointer (some ⟨cb, 0, none⟩), .pointer (some ⟨xb, 0, none⟩), .int .i64 0, .bool false] w fun e w' =>
      e = .returned (.int .i64 0) ∧ ∃ S', Hid (w'.ownsRow B 54 1 S' 1 [.slice none 0 0]) ∧ Hid (Blk w' xb (infoC (.slice (some ⟨bN, 0, none⟩) 2 2) O S' M) 107) ∧ Hid (KeepB xb B w w') := by
  obtain ⟨w0, hw0, hb0, hk0, hk1, hk2, hs0⟩ := blkT3 w (.pointer (some ⟨cb, 0, none⟩)) (.pointer (some ⟨xb, 0, none⟩)) (.int .i64 0) 129 98 3
  have HB0 := Lib.hid hb0
  have HK0 := Lib.hid hk0
  have HK1 := Lib.hid hk1
  have HK2 := Lib.hid hk2
  have HZ0 := Lib.hid hs0
  have HG0 := Lib.hid (hg.below hb0)
  have HC0 := Lib.hid (hc.below hb0)
  have HX0 := Lib.hid (hx.below hb0)
  have HS0 := Lib.hid (ownsRow_below hS hb0)
  have HNUM := Lib.hid (And.intro hB (And.intro hcb (And.intro hxb hne)))
  clear hb0 hk0 hk1 hk2 hg hc hx hS hB hcb hxb hne hs0
  have q1 := HK1.out.cell
  have q2 := HK2.out.cell
  have q3 := HX0.out.cell
  have q4 := HG0.out.n.cell
  have a1 := (HK1.out.alloc (.cells #[.int .i64 0, .slice none 0 0, .string ⟨#[]⟩, .slice none 0 0, .string ⟨#[]⟩, .slice none 0 0, .int .i64 0, .int .i64 0, .int .i64 0, .int .i64 0, .slice none 0 0, .slice none 0 0] 57)).cell
  have a2 := (HK2.out.alloc (.cells #[.int .i64 0, .slice none 0 0, .string ⟨#[]⟩, .slice none 0 0, .string ⟨#[]⟩, .slice none 0 0, .int .i64 0, .int .i64 0, .int .i64 0, .int .i64 0, .slice none 0 0, .slice none 0 0] 57)).cell
  have a3 := (HX0.out.alloc (.cells #[.int .i64 0, .slice none 0 0, .string ⟨#[]⟩, .slice none 0 0, .string ⟨#[]⟩, .slice none 0 0, .int .i64 0, .int .i64 0, .int .i64 0, .int .i64 0, .slice none 0 0, .slice none 0 0] 57)).cell
  have a4 := (HG0.out.n.alloc (.cells #[.int .i64 0, .slice none 0 0, .string ⟨#[]⟩, .slice none 0 0, .string ⟨#[]⟩, .slice none 0 0, .int .i64 0, .int .i64 0, .int .i64 0, .int .i64 0, .slice none 0 0, .slice none 0 0] 57)).cell
  simp only [infoC, twoC] at q3 q4 a3 a4
  go_enter Tryz.func96, Tryz.ntmps96
  go_upto_region 1 with fail
  go_region
  obtain ⟨w1, hw1⟩ : ∃ w1, w1 = (w0.alloc (.cells (nodeC 2 (.slice none 0 0) (.slice (some ⟨bD, 0, none⟩) 1 1)).toArray 57)).drew := ⟨_, rfl⟩
  have hb01 : Below w0.heap.size w0 w1 := by rw [hw1]; exact ((Below.refl _ _).alloc (Nat.le_refl _) _).drew
  have HT1 := Lib.hid (show Blk w1 w0.heap.size (nodeC 2 (.slice none 0 0) (.slice (some ⟨bD, 0, none⟩) 1 1)) 57 by rw [hw1]; exact news_blk w0 _ _)
  simp only [nodeC] at hw1
  rw [← hw1]
  clear hw1 hw0 q1 q2 q3 q4 a1 a2 a3 a4
  have t1 := HT1.out.cell
  simp only [nodeC] at t1
  go_upto_region 3 with (go_at_call 131; refine (rule_const w1).mono ?_; rintro e w2 ⟨rfl, HB2⟩; simp only [ruleV])
  obtain ⟨w3, hw3⟩ : ∃ w3, w3 = w2.alloc (.cells (ruleC 258 0 (-1) constW).toArray 191) := ⟨_, rfl⟩
  have HR3 := Lib.hid (show Blk w3 w2.heap.size (ruleC 258 0 (-1) constW) 191 by rw [hw3]; exact news_blk w2 _ _)
  have hb13 : Below w1.heap.size w1 w3 := by rw [hw3]; exact HB2.out.alloc HB2.out.size _
  simp only [ruleC] at hw3
  rw [← hw3]
  clear hw3 t1
  have HB3 := Lib.hid ((HB0.out.trans (hb01.mono HB0.out.size)).trans (hb13.mono (Nat.le_trans HB0.out.size hb01.size)))
  have HK3 := Lib.hid ((HK0.out.below hb01).below hb13)
  have HL3 := Lib.hid ((HK1.out.below hb01).below hb13)
  have HM3 := Lib.hid ((HK2.out.below hb01).below hb13)
  have HT3 := Lib.hid (HT1.out.below hb13)
  have HG3 := Lib.hid ((HG0.out.below hb01).below hb13)
  have HC3 := Lib.hid ((HC0.out.below hb01).below hb13)
  have HX3 := Lib.hid ((HX0.out.below hb01).below hb13)
  have HS3 := Lib.hid (ownsRow_below (ownsRow_below HS0.out hb01) hb13)
  have HD3 := Lib.hid (show w2.heap.size ≠ w0.heap.size ∧ w0.heap.size < w3.heap.size by
    have h1 := HT1.out.lt
    have h2 := HB2.out.size
    have h3 := hb13.size
    omega)
  clear HK0 HK1 HK2 HT1 HG0 HC0 HX0 HS0 hb01 hb13
  generalize w0.heap.size = t9 at *
  generalize w2.heap.size = t10 at *
  have HQ := Lib.hid (fun wx (hb : Below w3.heap.size w3 wx) => And.intro (HK3.out.below hb).cell (And.intro (HL3.out.below hb).cell (And.intro (HM3.out.below hb).cell (And.intro (HT3.out.below hb).cell (And.intro (HR3.out.below hb).cell (HC3.out.below hb).cell)))))
  simp only [nodeC, ruleC] at HQ
  have HBB := Lib.hid (Below.refl w3.heap.size w3)
  obtain ⟨q1, q2, q3, q4, q5, q6⟩ := HQ.out _ HBB.out
  have HFO := Lib.hid (fun wx => formed_const ⟨bD, 0, none⟩ wx)
  have HNA := Lib.hid (fun wx => named_const (.slice none 0 0) (.slice (some ⟨bD, 0, none⟩) 1 1) wx)
  have HTW := Lib.hid (fun wx => twice_const (.slice none 0 0) (.slice (some ⟨bD, 0, none⟩) 1 1) wx)
  have HRA := Lib.hid (fun wx (hb : Below w3.heap.size w3 wx) => ranged_const bD wx (by rw [(HG3.out.d.below hb).cell]; rfl))
  have HSH := Lib.hid (fun wx (hb : Below w3.heap.size w3 wx) => chk_const cb xb B (.slice (some ⟨bN, 0, none⟩) 2 2) O S M (.slice none 0 0) (.slice (some ⟨bD, 0, none⟩) 1 1) 0 wx (Nat.le_trans HNUM.out.1 (Nat.le_trans HB3.out.size hb.size)) HNUM.out.2.1 HNUM.out.2.2.1 HNUM.out.2.2.2 (HC3.out.below hb) (HX3.out.below hb) (ownsRow_below HS3.out hb))
  simp only [nodeV, nilS, ruleV] at HFO HNA HTW HRA HSH
  go_upto_region 11 with (first | (go_at_call 132; clear q1 q2 q3 q4 q5 q6; refine (HFO.out _).mono ?_; rintro e wn ⟨rfl, hbn⟩; have HBB := Lib.hid (HBB.out.trans (hbn.out.mono HBB.out.size)); clear hbn; obtain ⟨q1, q2, q3, q4, q5, q6⟩ := HQ.out _ HBB.out) | (go_at_call 29; refine (has_int _ _).mono ?_; rintro e wy ⟨rfl, hwy⟩; subst wy))
  clear q1 q2 q3 q4 q5 q6
  have HQ2 := Lib.hid (fun wx (hb : Below w3.heap.size w3 wx) => show (∀ o, wx.cell? ⟨w.heap.size, o, none⟩ = ([.pointer (some ⟨cb, 0, none⟩)] : List Value)[o]?) ∧ (∀ o, wx.cell? ⟨t9, o, none⟩ = ([.int .i64 2, .slice none 0 0, .string ⟨#[]⟩, .slice none 0 0, .string ⟨#[]⟩, .slice none 0 0, .int .i64 0, .int .i64 0, .int .i64 0, .int .i64 0, .slice (some ⟨bD, 0, none⟩) 1 1, .slice none 0 0] : List Value)[o]?) ∧ (∀ o, wx.cell? ⟨t10, o, none⟩ = ([.int .i64 258, .int .i64 0, .bool false, .int .i64 (-1), .int .i64 0, .int .i64 0, .string constW] : List Value)[o]?) ∧ (∀ o, wx.cell? ⟨cb, o, none⟩ = ([.slice none 0 0] : List Value)[o]?) from ⟨(HQ.out wx hb).1, (HQ.out wx hb).2.2.2.1, (HQ.out wx hb).2.2.2.2.1, (HQ.out wx hb).2.2.2.2.2⟩)
  go_region_held3 (fun wy : World => (∀ o, wy.cell? ⟨w.heap.size, o, none⟩ = ([.pointer (some ⟨cb, 0, none⟩)] : List Value)[o]?) ∧ (∀ o, wy.cell? ⟨t9, o, none⟩ = ([.int .i64 2, .slice none 0 0, .string ⟨#[]⟩, .slice none 0 0, .string ⟨#[]⟩, .slice none 0 0, .int .i64 0, .int .i64 0, .int .i64 0, .int .i64 0, .slice (some ⟨bD, 0, none⟩) 1 1, .slice none 0 0] : List Value)[o]?) ∧ (∀ o, wy.cell? ⟨t10, o, none⟩ = ([.int .i64 258, .int .i64 0, .bool false, .int .i64 (-1), .int .i64 0, .int .i64 0, .string constW] : List Value)[o]?) ∧ (∀ o, wy.cell? ⟨cb, o, none⟩ = ([.slice none 0 0] : List Value)[o]?)) (first | exact HQ2.out _ HBC.out | exact HQ2.out _ HBB.out.drew | exact HQ2.out _ HBB.out) (first | (go_at_call 135; refine (HNA.out wn.drew).mono ?_; rintro e wm ⟨rfl, HBM⟩; have HBC : Hid (Below w3.heap.size w3 wm) := Lib.hid (HBB.out.trans ((below_undrew HBM.out).mono HBB.out.size)); dsimp only))
  obtain ⟨q1, q2, q3, q4, q5, q6⟩ := HQ.out _ HBC.out
  go_wp2
  refine wp_loop_rounds 1 ?_
  rw [rounds_succ]
  go_upto_region 22 with fail
  clear q1 q2 q3 q4 q5 q6
  refine wp_region_held_drew (S := fun wy : World => (∀ o, wy.cell? ⟨w.heap.size, o, none⟩ = ([.pointer (some ⟨cb, 0, none⟩)] : List Value)[o]?) ∧ (∀ o, wy.cell? ⟨t9, o, none⟩ = ([.int .i64 2, .slice none 0 0, .string ⟨#[]⟩, .slice none 0 0, .string ⟨#[]⟩, .slice none 0 0, .int .i64 0, .int .i64 0, .int .i64 0, .int .i64 0, .slice (some ⟨bD, 0, none⟩) 1 1, .slice none 0 0] : List Value)[o]?) ∧ (∀ o, wy.cell? ⟨t10, o, none⟩ = ([.int .i64 258, .int .i64 0, .bool false, .int .i64 (-1), .int .i64 0, .int .i64 0, .string constW] : List Value)[o]?) ∧ (∀ o, wy.cell? ⟨cb, o, none⟩ = ([.slice none 0 0] : List Value)[o]?)) (by kernel_rfl) (HQ2.out _ HBC.out.drew) (fun hHeld => ?_)
  refine wpAnyH_take (i := 0) (oi := { dst := some 82, op := Go.Op.fieldAddr 57 (Go.Operand.tmp 9) 0, type := 0, pos := "check.go:162", after := #[], guard := none }) (v := ?_) rfl (by kernel_rfl) (by kernel_rfl) (by kernel_rfl) (fun _ _ _ h => h) (Or.inl ⟨by rfl, ?_⟩) (by assumption) ?_
  rotate_left
  · intro w hSw; (try dsimp only at hSw); go_simp; first | done | with_reducible rfl
  try simp only [Act.put, List.setIfInBounds_toArray, List.set_cons_zero, List.set_cons_succ]
  refine wpAnyH_take (i := 1) (oi := { dst := some 83, op := Go.Op.load 3 (Go.Operand.tmp 82), type := 3, pos := "check.go:162", after := #[{ on := 0, ground := Go.Ground.data }], guard := none }) (v := ?_) rfl (by kernel_rfl) (by kernel_rfl) (by kernel_rfl) (fun _ _ _ h => h) (Or.inl ⟨by rfl, ?_⟩) (by assumption) ?_
  rotate_left
  · intro w hSw; (try dsimp only at hSw); go_simp; first | done | with_reducible rfl
  try simp only [Act.put, List.setIfInBounds_toArray, List.set_cons_zero, List.set_cons_succ]
  refine wpAnyH_take (i := 2) (oi := { dst := some 84, op := Go.Op.binOp Go.BinOp.eql 3 (Go.Operand.tmp 83) (Go.Operand.const (Go.Value.int Go.IntKind.i64 1)) 3, type := 4, pos := "check.go:162", after := #[{ on := 1, ground := Go.Ground.data }], guard := none }) (v := ?_) rfl (by kernel_rfl) (by kernel_rfl) (by kernel_rfl) (fun _ _ _ h => h) (Or.inl ⟨by rfl, ?_⟩) (by assumption) ?_
  rotate_left
  · intro w hSw; (try dsimp only at hSw); go_simp; first | done | with_reducible rfl
  try simp only [Act.put, List.setIfInBounds_toArray, List.set_cons_zero, List.set_cons_succ]
  refine wpAnyH_take (i := 3) (oi := { dst := some 85, op := Go.Op.move (Go.Operand.tmp 84), type := 4, pos := "check.go:162", after := #[{ on := 2, ground := Go.Ground.data }], guard := none }) (v := ?_) rfl (by kernel_rfl) (by kernel_rfl) (by kernel_rfl) (fun _ _ _ h => h) (Or.inl ⟨by rfl, ?_⟩) (by assumption) ?_
  rotate_left
  · intro w hSw; (try dsimp only at hSw); go_simp; first | done | with_reducible rfl
  try simp only [Act.put, List.setIfInBounds_toArray, List.set_cons_zero, List.set_cons_succ]
  refine wpAnyH_take (i := 4) (oi := { dst := some 86, op := Go.Op.load 98 (Go.Operand.tmp 5), type := 98, pos := "check.go:162", after := #[{ on := 3, ground := Go.Ground.guard }], guard := some (3, true) }) (v := undef) rfl (by kernel_rfl) (by kernel_rfl) (by kernel_rfl) (fun _ _ _ h => h) (Or.inr ⟨by rfl, rfl⟩) (by assumption) ?_
  try simp only [Act.put, List.setIfInBounds_toArray, List.set_cons_zero, List.set_cons_succ]
  refine wpAnyH_take (i := 5) (oi := { dst := some 87, op := Go.Op.nilCheck (Go.Operand.tmp 86), type := 0, pos := "check.go:162", after := #[{ on := 4, ground := Go.Ground.data }, { on := 3, ground := Go.Ground.guard }], guard := some (3, true) }) (v := undef) rfl (by kernel_rfl) (by kernel_rfl) (by kernel_rfl) (fun _ _ _ h => h) (Or.inr ⟨by rfl, rfl⟩) (by assumption) ?_
  try simp only [Act.put, List.setIfInBounds_toArray, List.set_cons_zero, List.set_cons_succ]
  refine wpAnyH_take (i := 6) (oi := { dst := some 88, op := Go.Op.fieldAddr 107 (Go.Operand.tmp 87) 3, type := 0, pos := "check.go:162", after := #[{ on := 5, ground := Go.Ground.data }, { on := 3, ground := Go.Ground.guard }], guard := some (3, true) }) (v := undef) rfl (by kernel_rfl) (by kernel_rfl) (by kernel_rfl) (fun _ _ _ h => h) (Or.inr ⟨by rfl, rfl⟩) (by assumption) ?_
  try simp only [Act.put, List.setIfInBounds_toArray, List.set_cons_zero, List.set_cons_succ]
  refine wpAnyH_take (i := 7) (oi := { dst := some 89, op := Go.Op.load 103 (Go.Operand.tmp 88), type := 103, pos := "check.go:162", after := #[{ on := 6, ground := Go.Ground.data }, { on := 3, ground := Go.Ground.guard }], guard := some (3, true) }) (v := undef) rfl (by kernel_rfl) (by kernel_rfl) (by kernel_rfl) (fun _ _ _ h => h) (Or.inr ⟨by rfl, rfl⟩) (by assumption) ?_
  try simp only [Act.put, List.setIfInBounds_toArray, List.set_cons_zero, List.set_cons_succ]
  refine wpAnyH_take (i := 8) (oi := { dst := some 90, op := Go.Op.fieldAddr 57 (Go.Operand.tmp 9) 2, type := 0, pos := "check.go:162", after := #[{ on := 3, ground := Go.Ground.guard }], guard := some (3, true) }) (v := undef) rfl (by kernel_rfl) (by kernel_rfl) (by kernel_rfl) (fun _ _ _ h => h) (Or.inr ⟨by rfl, rfl⟩) (by assumption) ?_
  try simp only [Act.put, List.setIfInBounds_toArray, List.set_cons_zero, List.set_cons_succ]
  refine wpAnyH_take (i := 9) (oi := { dst := some 91, op := Go.Op.load 9 (Go.Operand.tmp 90), type := 9, pos := "check.go:162", after := #[{ on := 8, ground := Go.Ground.data }, { on := 3, ground := Go.Ground.guard }], guard := some (3, true) }) (v := undef) rfl (by kernel_rfl) (by kernel_rfl) (by kernel_rfl) (fun _ _ _ h => h) (Or.inr ⟨by rfl, rfl⟩) (by assumption) ?_
  try simp only [Act.put, List.setIfInBounds_toArray, List.set_cons_zero, List.set_cons_succ]
  refine wpAnyH_take (i := 10) (oi := { dst := some 92, op := Go.Op.lookup 103 (Go.Operand.tmp 89) (Go.Operand.tmp 91) false, type := 4, pos := "check.go:162", after := #[{ on := 7, ground := Go.Ground.data }, { on := 9, ground := Go.Ground.data }, { on := 3, ground := Go.Ground.guard }], guard := some (3, true) }) (v := undef) rfl (by kernel_rfl) (by kernel_rfl) (by kernel_rfl) (fun _ _ _ h => h) (Or.inr ⟨by rfl, rfl⟩) (by assumption) ?_
  try simp only [Act.put, List.setIfInBounds_toArray, List.set_cons_zero, List.set_cons_succ]
  refine wpAnyH_take (i := 11) (oi := { dst := some 93, op := Go.Op.pick (Go.Operand.tmp 85) (Go.Operand.tmp 92) (Go.Operand.const (Go.Value.bool false)), type := 4, pos := "check.go:162", after := #[{ on := 3, ground := Go.Ground.data }, { on := 10, ground := Go.Ground.data }], guard := none }) (v := ?_) rfl (by kernel_rfl) (by kernel_rfl) (by kernel_rfl) (fun _ _ _ h => h) (Or.inl ⟨by rfl, ?_⟩) (by assumption) ?_
  rotate_left
  · intro w hSw; (try dsimp only at hSw); go_simp; first | done | with_reducible rfl
  try simp only [Act.put, List.setIfInBounds_toArray, List.set_cons_zero, List.set_cons_succ]
  refine wpAnyH_take (i := 12) (oi := { dst := some 94, op := Go.Op.move (Go.Operand.tmp 93), type := 4, pos := "check.go:162", after := #[{ on := 11, ground := Go.Ground.data }, { on := 3, ground := Go.Ground.chain }], guard := none }) (v := ?_) rfl (by kernel_rfl) (by kernel_rfl) (by kernel_rfl) (fun _ _ _ h => h) (Or.inl ⟨by rfl, ?_⟩) (by assumption) ?_
  rotate_left
  · intro w hSw; (try dsimp only at hSw); go_simp; first | done | with_reducible rfl
  try simp only [Act.put, List.setIfInBounds_toArray, List.set_cons_zero, List.set_cons_succ]
  refine wpAnyH_take (i := 13) (oi := { dst := some 95, op := Go.Op.load 57 (Go.Operand.tmp 9), type := 57, pos := "check.go:162", after := #[{ on := 12, ground := Go.Ground.guard }], guard := some (12, false) }) (v := ?_) rfl (by kernel_rfl) (by kernel_rfl) (by kernel_rfl) (fun _ _ _ h => h) (Or.inl ⟨by rfl, ?_⟩) (by assumption) ?_
  rotate_left
  · intro w hSw; (try dsimp only at hSw); go_simp; first | done | with_reducible rfl
  try simp only [Act.put, List.setIfInBounds_toArray, List.set_cons_zero, List.set_cons_succ]
  refine wpAnyH_take (i := 14) (oi := { dst := some 96, op := Go.Op.move (Go.Operand.tmp 15), type := 54, pos := "check.go:162", after := #[{ on := 12, ground := Go.Ground.guard }], guard := some (12, false) }) (v := ?_) rfl (by kernel_rfl) (by kernel_rfl) (by kernel_rfl) (fun _ _ _ h => h) (Or.inl ⟨by rfl, ?_⟩) (by assumption) ?_
  rotate_left
  · intro w hSw; (try dsimp only at hSw); go_simp; first | done | with_reducible rfl
  try simp only [Act.put, List.setIfInBounds_toArray, List.set_cons_zero, List.set_cons_succ]
  refine wpAnyH_ready (rs := [15]) (by kernel_rfl) (by simp) ?_
  refine AllReadyH.cons (o := { dst := some 97, op := Go.Op.call { callee := Go.Callee.value (Go.Operand.func 136), args := #[Go.Operand.tmp 95, Go.Operand.tmp 96], argTypes := #[57, 54] }, type := 4, pos := "check.go:162", after := #[{ on := 13, ground := Go.Ground.data }, { on := 14, ground := Go.Ground.data }, { on := 12, ground := Go.Ground.chain }, { on := 12, ground := Go.Ground.guard }], guard := some (12, false) }) rfl (fun K hK => ?_) AllReadyH.nil
  go_simp
  go_at_call 136
  refine (HTW.out wm.drew).mono ?_
  rintro e wp ⟨rfl, HBP⟩
  have HBD : Hid (Below w3.heap.size w3 wp) := Lib.hid (HBC.out.trans ((below_undrew HBP.out).mono HBC.out.size))
  dsimp only
  refine hK.out _ _ (HQ2.out _ HBD.out) (fun hHeld => ?_)
  clear hK K
  try simp only [Act.put, List.setIfInBounds_toArray, List.set_cons_zero, List.set_cons_succ]
  refine wpAnyH_take (i := 16) (oi := { dst := some 98, op := Go.Op.pick (Go.Operand.tmp 94) (Go.Operand.const (Go.Value.bool true)) (Go.Operand.tmp 97), type := 4, pos := "check.go:162", after := #[{ on := 12, ground := Go.Ground.data }, { on := 15, ground := Go.Ground.data }], guard := none }) (v := ?_) rfl (by kernel_rfl) (by kernel_rfl) (by kernel_rfl) (fun _ _ _ h => h) (Or.inl ⟨by rfl, ?_⟩) (by assumption) ?_
  rotate_left
  · intro w hSw; (try dsimp only at hSw); go_simp; first | done | with_reducible rfl
  try simp only [Act.put, List.setIfInBounds_toArray, List.set_cons_zero, List.set_cons_succ]
  refine wpAnyH_take (i := 17) (oi := { dst := some 81, op := Go.Op.assign (Go.Operand.tmp 98), type := 4, pos := "check.go:162", after := #[{ on := 16, ground := Go.Ground.data }, { on := 15, ground := Go.Ground.chain }], guard := none }) (v := ?_) rfl (by kernel_rfl) (by kernel_rfl) (by kernel_rfl) (fun _ _ _ h => h) (Or.inl ⟨by rfl, ?_⟩) (by assumption) ?_
  rotate_left
  · intro w hSw; (try dsimp only at hSw); go_simp; first | done | with_reducible rfl
  try simp only [Act.put, List.setIfInBounds_toArray, List.set_cons_zero, List.set_cons_succ]
  refine wpAnyH_done (by kernel_rfl) ?_ _
  clear hHeld
  obtain ⟨q1, q2, q3, q4, q5, q6⟩ := HQ.out _ HBD.out
  go_wp2_with (first | (go_at_call 137; clear q1 q2 q3 q4 q5 q6; refine (HRA.out _ HBD.out).mono ?_; rintro e wr ⟨rfl, hbn⟩; have HBE := Lib.hid (HBD.out.trans (hbn.out.mono HBD.out.size)); clear hbn; obtain ⟨q1, q2, q3, q4, q5, q6⟩ := HQ.out _ HBE.out) | (go_at_call 138; refine (has_axis _ _).mono ?_; rintro e wy ⟨rfl, hwy⟩; subst wy) | (go_at_call 141; refine (HSH.out _ HBE.out).mono ?_; rintro e wz ⟨rfl, S', hS', hX', hK'⟩))
  go_ret
  exact ⟨rfl, S', hS', hX', Lib.hid ((KeepB.of_below ((HB3.out.trans (HBE.out.mono HB3.out.size)).mono HNUM.out.1)).trans hK'.out)⟩
end Go.Proofs.YtdbhlkejfecffaaGreatDoor
