/-
  graph: checker.node of Add.
-/
import Derived.Test.YtdbhlkejfecffaaGreatDoorSa31
/-
  graph: checker.node of Add.
-/
namespace Go.Proofs.YtdbhlkejfecffaaGreatDoor
open Go.RowKit KeepPlain

/-- What can be read of a row of one's own. -/
theorem row_at {w : World} {base e : Nat} {xs : List Value} {A : Option Addr} {n c : Nat} (h : w.ownsRow base e 1 (.slice A n c) n xs) (h0 : 0 < n) : ∃ g, A = some ⟨g, 0, none⟩ ∧ n ≤ c ∧ c ≤ maxLen ∧ ∀ i, i < n → w.cell? ⟨g, i, none⟩ = xs[i]? := by
  have hl : xs.length = n := by have := h.1; omega
  rcases h.2 with ⟨hv, hn⟩ | ⟨g, cap, cur, hv, a3, a4, a5, a6, a7, a8⟩
  · omega
  · injection hv with e1 e2 e3
    subst e1 e3
    refine ⟨g, rfl, a5, a6, fun i hi => ?_⟩
    unfold World.cell?
    simp only [a4]
    simp only [Nat.mul_one] at a8
    rw [← a8, List.getElem?_take]
    simp [hi]
theorem row_one {w : World} {base e : Nat} {v x : Value} (h : w.ownsRow base e 1 v 1 [x]) : ∃ g c, v = .slice (some ⟨g, 0, none⟩) 1 c ∧ 1 ≤ c ∧ c ≤ maxLen ∧ w.cell? ⟨g, 0, none⟩ = some x := by
  obtain ⟨A, c, hv⟩ := ownsRow_shape h
  subst hv
  obtain ⟨g, hA, h1, h2, h3⟩ := row_at h (by omega)
  exact ⟨g, c, by rw [hA], h1, h2, by simpa using h3 0 (by omega)⟩
set_option maxRecDepth 100000 in
set_option maxHeartbeats 3200000 in
theorem node_add (cb xb B bD bA bN bO : Nat) (O S M : Value) (w : World) (hB : B ≤ w.heap.size) (hcb : cb < B) (hxb : xb < B) (hne : cb ≠ xb) (hg : GAt w bD bA bN bO)
    (hc : Blk w cb [.slice none 0 0] 131) (hx : Blk w xb (infoC (.slice (some ⟨bN, 0, none⟩) 2 2) O S M) 107) (hS : w.ownsRow B 54 1 S 1 [.slice none 0 0]) :
    Calls Tryz.prog 96 #[.pointer (some ⟨cb, 0, none⟩), .pointer (some ⟨xb, 0, none⟩), .int .i64 1, .bool false] w fun e w' =>
      e = .returned (.int .i64 0) ∧ ∃ S', Hid (w'.ownsRow B 54 1 S' 2 [.slice none 0 0, .slice none 0 0]) ∧ Hid (Blk w' xb (infoC (.slice (some ⟨bN, 0, none⟩) 2 2) O S' M) 107) ∧ Hid (KeepB xb B w w') := by
  obtain ⟨gS, cS, hSe, hcS1, hcS2, hcS⟩ := row_one hS
  subst hSe
  have e9 : ¬ cS = 0 := by omega
  obtain ⟨ii, hi, hz0, hz1, hz2⟩ := info_parts infoS
  obtain ⟨w0, hw0, hb0, hk0, hk1, hk2, hs0⟩ := blkT3 w (.pointer (some ⟨cb, 0, none⟩)) (.pointer (some ⟨xb, 0, none⟩)) (.int .i64 1) 129 98 3
  have HB0 := Lib.hid hb0
  have HK0 := Lib.hid hk0
  have HK1 := Lib.hid hk1
  have HK2 := Lib.hid hk2
  have HZ0 := Lib.hid hs0
  have HG0 := Lib.hid (hg.below hb0)
  have HC0 := Lib.hid (hc.below hb0)
  have HX0 := Lib.hid (hx.below hb0)
  have HS0 := Lib.hid (ownsRow_below hS hb0)
  have HCS0 := Lib.hid (show w0.cell? ⟨gS, 0, none⟩ = some (.slice none 0 0) by rw [hb0.cell (p := ⟨gS, 0, none⟩) (World.block_lt_of_cell? w _ hcS)]; exact hcS)
  have HNUM := Lib.hid (And.intro hB (And.intro hcb (And.intro hxb hne)))
  clear hb0 hk0 hk1 hk2 hg hc hx hS hB hcb hxb hne hs0 hcS
  have q1 := HK1.out.cell
  have q2 := HK2.out.cell
  have q3 := HX0.out.cell
  have q4 := HG0.out.n.cell
  have a1 := (HK1.out.alloc (.cells #[.int .i64 0, .slice none 0 0, .string ⟨#[]⟩, .slice none 0 0, .string ⟨#[]⟩, .slice none 0 0, .int .i64 0, .int .i64 0, .int .i64 0, .int .i64 0, .slice none 0 0, .slice none 0 0] 57)).cell
  have a2 := (HK2.out.alloc (.cells #[.int .i64 0, .slice none 0 0, .string ⟨#[]⟩, .slice none 0 0, .string ⟨#[]⟩, .slice none 0 0, .int .i64 0, .int .i64 0, .int .i64 0, .int .i64 0, .slice none 0 0, .slice none 0 0] 57)).cell
  have a3 := (HX0.out.alloc (.cells #[.int .i64 0, .slice none 0 0, .string ⟨#[]⟩, .slice none 0 0, .string ⟨#[]⟩, .slice none 0 0, .int .i64 0, .int .i64 0, .int .i64 0, .int .i64 0, .slice none 0 0, .slice none 0 0] 57)).cell
  have a4 := (HG0.out.n.alloc (.cells #[.int .i64 0, .slice none 0 0, .string ⟨#[]⟩, .slice none 0 0, .string ⟨#[]⟩, .slice none 0 0, .int .i64 0, .int .i64 0, .int .i64 0, .int .i64 0, .slice none 0 0, .slice none 0 0] 57)).cell
  simp only [infoC, twoC] at q3 q4 a3 a4
  go_enter Tryz.func96, Tryz.ntmps96
  go_upto_region 1 with fail
  go_region
  obtain ⟨w1, hw1⟩ : ∃ w1, w1 = (w0.alloc (.cells (nodeC 4 (.slice (some ⟨bA, 0, none⟩) 2 2) (.slice none 0 0)).toArray 57)).drew := ⟨_, rfl⟩
  have hb01 : Below w0.heap.size w0 w1 := by rw [hw1]; exact ((Below.refl _ _).alloc (Nat.le_refl _) _).drew
  have HT1 := Lib.hid (show Blk w1 w0.heap.size (nodeC 4 (.slice (some ⟨bA, 0, none⟩) 2 2) (.slice none 0 0)) 57 by rw [hw1]; exact news_blk w0 _ _)
  simp only [nodeC] at hw1
  rw [← hw1]
  clear hw1 hw0 q1 q2 q3 q4 a1 a2 a3 a4
  have t1 := HT1.out.cell
  simp only [nodeC] at t1
  go_upto_region 3 with (go_at_call 131; refine (rule_add w1).mono ?_; rintro e w2 ⟨rfl, HB2⟩; simp only [ruleV])
  obtain ⟨w3, hw3⟩ : ∃ w3, w3 = w2.alloc (.cells (ruleC 0 2 0 addW).toArray 191) := ⟨_, rfl⟩
  have HR3 := Lib.hid (show Blk w3 w2.heap.size (ruleC 0 2 0 addW) 191 by rw [hw3]; exact news_blk w2 _ _)
  have hb13 : Below w1.heap.size w1 w3 := by rw [hw3]; exact HB2.out.alloc HB2.out.size _
  simp only [ruleC] at hw3
  rw [← hw3]
  clear hw3 t1
  have HB3 := Lib.hid ((HB0.out.trans (hb01.mono HB0.out.size)).trans (hb13.mono (Nat.le_trans HB0.out.size hb01.size)))
  have HK3 := Lib.hid ((HK0.out.below hb01).below hb13)
  have HL3 := Lib.hid ((HK1.out.below hb01).below hb13)
  have HM3 := Lib.hid ((HK2.out.below hb01).below hb13)
  have HT3 := Lib.hid (HT1.out.below hb13)
  have HG3 := Lib.hid ((HG0.out.below hb01).below hb13)
  have HC3 := Lib.hid ((HC0.out.below hb01).below hb13)
  have HX3 := Lib.hid ((HX0.out.below hb01).below hb13)
  have HS3 := Lib.hid (ownsRow_below (ownsRow_below HS0.out hb01) hb13)
  have HCS3 := Lib.hid (show w3.cell? ⟨gS, 0, none⟩ = some (.slice none 0 0) by
    have h1 : w1.cell? ⟨gS, 0, none⟩ = some (.slice none 0 0) := by rw [hb01.cell (p := ⟨gS, 0, none⟩) (World.block_lt_of_cell? w0 _ HCS0.out)]; exact HCS0.out
    rw [hb13.cell (p := ⟨gS, 0, none⟩) (World.block_lt_of_cell? w1 _ h1)]; exact h1)
  have HD3 := Lib.hid (show w2.heap.size ≠ w0.heap.size ∧ w0.heap.size < w3.heap.size by
    have h1 := HT1.out.lt
    have h2 := HB2.out.size
    have h3 := hb13.size
    omega)
  clear HK0 HK1 HK2 HT1 HG0 HC0 HX0 HS0 hb01 hb13
  generalize w0.heap.size = t9 at *
  generalize w2.heap.size = t10 at *
  have HQ := Lib.hid (fun wx (hb : Below w3.heap.size w3 wx) => And.intro (HK3.out.below hb).cell (And.intro (HL3.out.below hb).cell (And.intro (HM3.out.below hb).cell (And.intro (HT3.out.below hb).cell (And.intro (HR3.out.below hb).cell (HC3.out.below hb).cell)))))
  simp only [nodeC, ruleC] at HQ
  have HBB := Lib.hid (Below.refl w3.heap.size w3)
  obtain ⟨q1, q2, q3, q4, q5, q6⟩ := HQ.out _ HBB.out
  have HFO := Lib.hid (fun wx => formed_add ⟨bA, 0, none⟩ wx)
  have HNA := Lib.hid (fun wx => named_add (.slice (some ⟨bA, 0, none⟩) 2 2) (.slice none 0 0) wx)
  have HTW := Lib.hid (fun wx => twice_add (.slice (some ⟨bA, 0, none⟩) 2 2) (.slice none 0 0) wx)
  have HRA := Lib.hid (fun wx (hb : Below w3.heap.size w3 wx) => ranged_add (.slice (some ⟨bA, 0, none⟩) 2 2) (.slice none 0 0) wx)
  have HSH := Lib.hid (fun wx (hb : Below w3.heap.size w3 wx) (g0 c0 : Nat) (hc0 : 2 ≤ c0 ∧ c0 ≤ maxLen) (hg0 : wx.cell? ⟨g0, 0, none⟩ = some (.slice none 0 0)) (hg1 : wx.cell? ⟨g0, 1, none⟩ = some (.slice none 0 0)) => chk_add cb xb B (.slice (some ⟨bN, 0, none⟩) 2 2) O (.slice (some ⟨gS, 0, none⟩) 1 cS) M (.slice (some ⟨bA, 0, none⟩) 2 2) (.slice none 0 0) 1 wx (Nat.le_trans HNUM.out.1 (Nat.le_trans HB3.out.size hb.size)) HNUM.out.2.1 HNUM.out.2.2.1 HNUM.out.2.2.2 (HC3.out.below hb) (HX3.out.below hb) (ownsRow_below HS3.out hb) g0 c0 hc0 hg0 hg1)
  have HAR := Lib.hid (fun wx (hb : Below w3.heap.size w3 wx) => has_arg bA (w.heap.size + 1 + 1) wx (HG3.out.a.below hb).cell (by rw [(HM3.out.below hb).cell]; rfl))
  have HQX := Lib.hid (fun wx (hb : Below w3.heap.size w3 wx) => And.intro (HX3.out.below hb).cell (And.intro (HG3.out.a.below hb).cell (show wx.cell? ⟨gS, 0, none⟩ = some (.slice none 0 0) by rw [hb.cell (p := ⟨gS, 0, none⟩) (World.block_lt_of_cell? w3 _ HCS3.out)]; exact HCS3.out)))
  simp only [infoC] at HQX
  simp only [nodeV, nilS, ruleV] at HFO HNA HTW HRA HSH
  go_upto_region 11 with (first | (go_at_call 132; clear q1 q2 q3 q4 q5 q6; refine (HFO.out _).mono ?_; rintro e wn ⟨rfl, hbn⟩; have HBB := Lib.hid (HBB.out.trans (hbn.out.mono HBB.out.size)); clear hbn; obtain ⟨q1, q2, q3, q4, q5, q6⟩ := HQ.out _ HBB.out) | (go_at_call 29; refine (HAR.out _ HBB.out).mono ?_; rintro e wy ⟨rfl, hwy⟩; subst wy) | (go_at_call 29; refine (has_int _ _).mono ?_; rintro e wy ⟨rfl, hwy⟩; subst wy))
  clear q1 q2 q3 q4 q5 q6
  have HQ2 := Lib.hid (fun wx (hb : Below w3.heap.size w3 wx) => show (∀ o, wx.cell? ⟨w.heap.size, o, none⟩ = ([.pointer (some ⟨cb, 0, none⟩)] : List Value)[o]?) ∧ (∀ o, wx.cell? ⟨t9, o, none⟩ = ([.int .i64 4, .slice (some ⟨bA, 0, none⟩) 2 2, .string ⟨#[]⟩, .slice none 0 0, .string ⟨#[]⟩, .slice none 0 0, .int .i64 0, .int .i64 0, .int .i64 0, .int .i64 0, .slice none 0 0, .slice none 0 0] : List Value)[o]?) ∧ (∀ o, wx.cell? ⟨t10, o, none⟩ = ([.int .i64 0, .int .i64 2, .bool false, .int .i64 0, .int .i64 0, .int .i64 0, .string addW] : List Value)[o]?) ∧ (∀ o, wx.cell? ⟨cb, o, none⟩ = ([.slice none 0 0] : List Value)[o]?) from ⟨(HQ.out wx hb).1, (HQ.out wx hb).2.2.2.1, (HQ.out wx hb).2.2.2.2.1, (HQ.out wx hb).2.2.2.2.2⟩)
  go_region_held3 (fun wy : World => (∀ o, wy.cell? ⟨w.heap.size, o, none⟩ = ([.pointer (some ⟨cb, 0, none⟩)] : List Value)[o]?) ∧ (∀ o, wy.cell? ⟨t9, o, none⟩ = ([.int .i64 4, .slice (some ⟨bA, 0, none⟩) 2 2, .string ⟨#[]⟩, .slice none 0 0, .string ⟨#[]⟩, .slice none 0 0, .int .i64 0, .int .i64 0, .int .i64 0, .int .i64 0, .slice none 0 0, .slice none 0 0] : List Value)[o]?) ∧ (∀ o, wy.cell? ⟨t10, o, none⟩ = ([.int .i64 0, .int .i64 2, .bool false, .int .i64 0, .int .i64 0, .int .i64 0, .string addW] : List Value)[o]?) ∧ (∀ o, wy.cell? ⟨cb, o, none⟩ = ([.slice none 0 0] : List Value)[o]?)) (first | exact HQ2.out _ HBC.out | exact HQ2.out _ HBB.out.drew | exact HQ2.out _ HBB.out) (first | (go_at_call 135; refine (HNA.out wn.drew).mono ?_; rintro e wm ⟨rfl, HBM⟩; have HBC : Hid (Below w3.heap.size w3 wm) := Lib.hid (HBB.out.trans ((below_undrew HBM.out).mono HBB.out.size)); dsimp only))
  obtain ⟨q1, q2, q3, q4, q5, q6⟩ := HQ.out _ HBC.out
  obtain ⟨qx, qa, qs⟩ := HQX.out _ HBC.out
  go_wp2
  refine wp_loop_rounds 3 ?_
  rw [rounds_succ]
  go_wp2_with (at_builtin; refine wpList_append_lies _ rfl _ _ 102 rfl wm.heap.size 54 ii (.slice none 0 0) 1 24 Tryz.underlying102 hi hz0 hz1 hz2 rfl (by decide) _ 0 [] rfl (World.ownsRow_nil _ _ _ _) ⟨wm.heap.size, 0, none⟩ 1 1 [.slice none 0 0] rfl rfl (news1' _ _ _) (one_slice _ _ _) Nat.one_pos (by unfold maxLen; omega) (by omega) (alloc_le _ _) _ rfl ?_; intro g1 cap1 w4 hown hgrow hat hlt; clear q1 q2 q3 q4 q5 q6 qx qa qs; simp only [Nat.zero_add, List.nil_append] at hown ⊢; have HO4 := Lib.hid hown; have HBB4 := Lib.hid (show Below wm.heap.size wm w4 from ((Below.refl _ _).alloc (Nat.le_refl _) _).trans (Below.ofGrown hgrow (alloc_le _ _) (fun k e => by cases e))); have HB4 := Lib.hid (show Below w3.heap.size w3 w4 from HBC.out.trans (HBB4.out.mono HBC.out.size)); obtain ⟨q1, q2, q3, q4, q5, q6⟩ := HQ.out _ HB4.out; obtain ⟨qx, qa, qs⟩ := HQX.out _ HB4.out; clear hown hgrow hat hlt)
  rw [rounds_succ]
  go_wp2_with (at_builtin; refine wpList_append_lies _ rfl _ _ 102 rfl wm.heap.size 54 ii (.slice none 0 0) 1 24 Tryz.underlying102 hi hz0 hz1 hz2 rfl (by decide) _ 1 [.slice none 0 0] rfl (ownsRow_below HO4.out ((Below.refl _ _).alloc (Nat.le_refl _) _)) ⟨w4.heap.size, 0, none⟩ 1 1 [.slice none 0 0] rfl rfl (news1' _ _ _) (one_slice _ _ _) Nat.one_pos (by unfold maxLen; omega) (by omega) (Nat.le_trans HBB4.out.size (alloc_le _ _)) _ rfl ?_; intro g2 cap2 w5 hown hgrow hat hlt; clear q1 q2 q3 q4 q5 q6 qx qa qs; simp only [Nat.reduceAdd, List.cons_append, List.nil_append] at hown ⊢; have HO5 := Lib.hid hown; have HB5 := Lib.hid (show Below w3.heap.size w3 w5 from HBC.out.trans ((HBB4.out.trans (((Below.refl _ _).alloc (Nat.le_refl _) _).mono HBB4.out.size |>.trans (Below.ofGrown hgrow (Nat.le_trans HBB4.out.size (alloc_le _ _)) (ownsRow_base HO4.out)))).mono HBC.out.size)); obtain ⟨q1, q2, q3, q4, q5, q6⟩ := HQ.out _ HB5.out; obtain ⟨qx, qa, qs⟩ := HQX.out _ HB5.out; clear hown hgrow hat hlt)
  rw [rounds_succ]
  obtain ⟨g2', hg2, hn2, hc2, hs2⟩ := row_at HO5.out (by omega)
  injection hg2 with hg2
  injection hg2 with hg2
  subst hg2
  have s5 : w5.cell? ⟨g2, 0, none⟩ = some (.slice none 0 0) := hs2 0 (by omega)
  have HCC := Lib.hid (And.intro hn2 hc2)
  have e10 : ¬ cap2 = 0 := by omega
  clear hs2 hn2 hc2
  go_upto_region 22 with fail
  clear s5 qx qa qs
  clear q1 q2 q3 q4 q5 q6
  refine wp_region_held_drew (S := fun wy : World => (∀ o, wy.cell? ⟨w.heap.size, o, none⟩ = ([.pointer (some ⟨cb, 0, none⟩)] : List Value)[o]?) ∧ (∀ o, wy.cell? ⟨t9, o, none⟩ = ([.int .i64 4, .slice (some ⟨bA, 0, none⟩) 2 2, .string ⟨#[]⟩, .slice none 0 0, .string ⟨#[]⟩, .slice none 0 0, .int .i64 0, .int .i64 0, .int .i64 0, .int .i64 0, .slice none 0 0, .slice none 0 0] : List Value)[o]?) ∧ (∀ o, wy.cell? ⟨t10, o, none⟩ = ([.int .i64 0, .int .i64 2, .bool false, .int .i64 0, .int .i64 0, .int .i64 0, .string addW] : List Value)[o]?) ∧ (∀ o, wy.cell? ⟨cb, o, none⟩ = ([.slice none 0 0] : List Value)[o]?)) (by kernel_rfl) (HQ2.out _ HB5.out.drew) (fun hHeld => ?_)
  refine wpAnyH_take (i := 0) (oi := { dst := some 82, op := Go.Op.fieldAddr 57 (Go.Operand.tmp 9) 0, type := 0, pos := "check.go:162", after := #[], guard := none }) (v := ?_) rfl (by kernel_rfl) (by kernel_rfl) (by kernel_rfl) (fun _ _ _ h => h) (Or.inl ⟨by rfl, ?_⟩) (by assumption) ?_
  rotate_left
  · intro w hSw; (try dsimp only at hSw); go_simp; first | done | with_reducible rfl
  try simp only [Act.put, List.setIfInBounds_toArray, List.set_cons_zero, List.set_cons_succ]
  refine wpAnyH_take (i := 1) (oi := { dst := some 83, op := Go.Op.load 3 (Go.Operand.tmp 82), type := 3, pos := "check.go:162", after := #[{ on := 0, ground := Go.Ground.data }], guard := none }) (v := ?_) rfl (by kernel_rfl) (by kernel_rfl) (by kernel_rfl) (fun _ _ _ h => h) (Or.inl ⟨by rfl, ?_⟩) (by assumption) ?_
  rotate_left
  · intro w hSw; (try dsimp only at hSw); go_simp; first | done | with_reducible rfl
  try simp only [Act.put, List.setIfInBounds_toArray, List.set_cons_zero, List.set_cons_succ]
  refine wpAnyH_take (i := 2) (oi := { dst := some 84, op := Go.Op.binOp Go.BinOp.eql 3 (Go.Operand.tmp 83) (Go.Operand.const (Go.Value.int Go.IntKind.i64 1)) 3, type := 4, pos := "check.go:162", after := #[{ on := 1, ground := Go.Ground.data }], guard := none }) (v := ?_) rfl (by kernel_rfl) (by kernel_rfl) (by kernel_rfl) (fun _ _ _ h => h) (Or.inl ⟨by rfl, ?_⟩) (by assumption) ?_
  rotate_left
  · intro w hSw; (try dsimp only at hSw); go_simp; first | done | with_reducible rfl
  try simp only [Act.put, List.setIfInBounds_toArray, List.set_cons_zero, List.set_cons_succ]
  refine wpAnyH_take (i := 3) (oi := { dst := some 85, op := Go.Op.move (Go.Operand.tmp 84), type := 4, pos := "check.go:162", after := #[{ on := 2, ground := Go.Ground.data }], guard := none }) (v := ?_) rfl (by kernel_rfl) (by kernel_rfl) (by kernel_rfl) (fun _ _ _ h => h) (Or.inl ⟨by rfl, ?_⟩) (by assumption) ?_
  rotate_left
  · intro w hSw; (try dsimp only at hSw); go_simp; first | done | with_reducible rfl
  try simp only [Act.put, List.setIfInBounds_toArray, List.set_cons_zero, List.set_cons_succ]
  refine wpAnyH_take (i := 4) (oi := { dst := some 86, op := Go.Op.load 98 (Go.Operand.tmp 5), type := 98, pos := "check.go:162", after := #[{ on := 3, ground := Go.Ground.guard }], guard := some (3, true) }) (v := undef) rfl (by kernel_rfl) (by kernel_rfl) (by kernel_rfl) (fun _ _ _ h => h) (Or.inr ⟨by rfl, rfl⟩) (by assumption) ?_
  try simp only [Act.put, List.setIfInBounds_toArray, List.set_cons_zero, List.set_cons_succ]
  refine wpAnyH_take (i := 5) (oi := { dst := some 87, op := Go.Op.nilCheck (Go.Operand.tmp 86), type := 0, pos := "check.go:162", after := #[{ on := 4, ground := Go.Ground.data }, { on := 3, ground := Go.Ground.guard }], guard := some (3, true) }) (v := undef) rfl (by kernel_rfl) (by kernel_rfl) (by kernel_rfl) (fun _ _ _ h => h) (Or.inr ⟨by rfl, rfl⟩) (by assumption) ?_
  try simp only [Act.put, List.setIfInBounds_toArray, List.set_cons_zero, List.set_cons_succ]
  refine wpAnyH_take (i := 6) (oi := { dst := some 88, op := Go.Op.fieldAddr 107 (Go.Operand.tmp 87) 3, type := 0, pos := "check.go:162", after := #[{ on := 5, ground := Go.Ground.data }, { on := 3, ground := Go.Ground.guard }], guard := some (3, true) }) (v := undef) rfl (by kernel_rfl) (by kernel_rfl) (by kernel_rfl) (fun _ _ _ h => h) (Or.inr ⟨by rfl, rfl⟩) (by assumption) ?_
  try simp only [Act.put, List.setIfInBounds_toArray, List.set_cons_zero, List.set_cons_succ]
  refine wpAnyH_take (i := 7) (oi := { dst := some 89, op := Go.Op.load 103 (Go.Operand.tmp 88), type := 103, pos := "check.go:162", after := #[{ on := 6, ground := Go.Ground.data }, { on := 3, ground := Go.Ground.guard }], guard := some (3, true) }) (v := undef) rfl (by kernel_rfl) (by kernel_rfl) (by kernel_rfl) (fun _ _ _ h => h) (Or.inr ⟨by rfl, rfl⟩) (by assumption) ?_
  try simp only [Act.put, List.setIfInBounds_toArray, List.set_cons_zero, List.set_cons_succ]
  refine wpAnyH_take (i := 8) (oi := { dst := some 90, op := Go.Op.fieldAddr 57 (Go.Operand.tmp 9) 2, type := 0, pos := "check.go:162", after := #[{ on := 3, ground := Go.Ground.guard }], guard := some (3, true) }) (v := undef) rfl (by kernel_rfl) (by kernel_rfl) (by kernel_rfl) (fun _ _ _ h => h) (Or.inr ⟨by rfl, rfl⟩) (by assumption) ?_
  try simp only [Act.put, List.setIfInBounds_toArray, List.set_cons_zero, List.set_cons_succ]
  refine wpAnyH_take (i := 9) (oi := { dst := some 91, op := Go.Op.load 9 (Go.Operand.tmp 90), type := 9, pos := "check.go:162", after := #[{ on := 8, ground := Go.Ground.data }, { on := 3, ground := Go.Ground.guard }], guard := some (3, true) }) (v := undef) rfl (by kernel_rfl) (by kernel_rfl) (by kernel_rfl) (fun _ _ _ h => h) (Or.inr ⟨by rfl, rfl⟩) (by assumption) ?_
  try simp only [Act.put, List.setIfInBounds_toArray, List.set_cons_zero, List.set_cons_succ]
  refine wpAnyH_take (i := 10) (oi := { dst := some 92, op := Go.Op.lookup 103 (Go.Operand.tmp 89) (Go.Operand.tmp 91) false, type := 4, pos := "check.go:162", after := #[{ on := 7, ground := Go.Ground.data }, { on := 9, ground := Go.Ground.data }, { on := 3, ground := Go.Ground.guard }], guard := some (3, true) }) (v := undef) rfl (by kernel_rfl) (by kernel_rfl) (by kernel_rfl) (fun _ _ _ h => h) (Or.inr ⟨by rfl, rfl⟩) (by assumption) ?_
  try simp only [Act.put, List.setIfInBounds_toArray, List.set_cons_zero, List.set_cons_succ]
  refine wpAnyH_take (i := 11) (oi := { dst := some 93, op := Go.Op.pick (Go.Operand.tmp 85) (Go.Operand.tmp 92) (Go.Operand.const (Go.Value.bool false)), type := 4, pos := "check.go:162", after := #[{ on := 3, ground := Go.Ground.data }, { on := 10, ground := Go.Ground.data }], guard := none }) (v := ?_) rfl (by kernel_rfl) (by kernel_rfl) (by kernel_rfl) (fun _ _ _ h => h) (Or.inl ⟨by rfl, ?_⟩) (by assumption) ?_
  rotate_left
  · intro w hSw; (try dsimp only at hSw); go_simp; first | done | with_reducible rfl
  try simp only [Act.put, List.setIfInBounds_toArray, List.set_cons_zero, List.set_cons_succ]
  refine wpAnyH_take (i := 12) (oi := { dst := some 94, op := Go.Op.move (Go.Operand.tmp 93), type := 4, pos := "check.go:162", after := #[{ on := 11, ground := Go.Ground.data }, { on := 3, ground := Go.Ground.chain }], guard := none }) (v := ?_) rfl (by kernel_rfl) (by kernel_rfl) (by kernel_rfl) (fun _ _ _ h => h) (Or.inl ⟨by rfl, ?_⟩) (by assumption) ?_
  rotate_left
  · intro w hSw; (try dsimp only at hSw); go_simp; first | done | with_reducible rfl
  try simp only [Act.put, List.setIfInBounds_toArray, List.set_cons_zero, List.set_cons_succ]
  refine wpAnyH_take (i := 13) (oi := { dst := some 95, op := Go.Op.load 57 (Go.Operand.tmp 9), type := 57, pos := "check.go:162", after := #[{ on := 12, ground := Go.Ground.guard }], guard := some (12, false) }) (v := ?_) rfl (by kernel_rfl) (by kernel_rfl) (by kernel_rfl) (fun _ _ _ h => h) (Or.inl ⟨by rfl, ?_⟩) (by assumption) ?_
  rotate_left
  · intro w hSw; (try dsimp only at hSw); go_simp; first | done | with_reducible rfl
  try simp only [Act.put, List.setIfInBounds_toArray, List.set_cons_zero, List.set_cons_succ]
  refine wpAnyH_take (i := 14) (oi := { dst := some 96, op := Go.Op.move (Go.Operand.tmp 15), type := 54, pos := "check.go:162", after := #[{ on := 12, ground := Go.Ground.guard }], guard := some (12, false) }) (v := ?_) rfl (by kernel_rfl) (by kernel_rfl) (by kernel_rfl) (fun _ _ _ h => h) (Or.inl ⟨by rfl, ?_⟩) (by assumption) ?_
  rotate_left
  · intro w hSw; (try dsimp only at hSw); go_simp; first | done | with_reducible rfl
  try simp only [Act.put, List.setIfInBounds_toArray, List.set_cons_zero, List.set_cons_succ]
  refine wpAnyH_ready (rs := [15]) (by kernel_rfl) (by simp) ?_
  refine AllReadyH.cons (o := { dst := some 97, op := Go.Op.call { callee := Go.Callee.value (Go.Operand.func 136), args := #[Go.Operand.tmp 95, Go.Operand.tmp 96], argTypes := #[57, 54] }, type := 4, pos := "check.go:162", after := #[{ on := 13, ground := Go.Ground.data }, { on := 14, ground := Go.Ground.data }, { on := 12, ground := Go.Ground.chain }, { on := 12, ground := Go.Ground.guard }], guard := some (12, false) }) rfl (fun K hK => ?_) AllReadyH.nil
  go_simp
  go_at_call 136
  refine (HTW.out w5.drew).mono ?_
  rintro e wp ⟨rfl, HBP⟩
  have HBD : Hid (Below w3.heap.size w3 wp) := Lib.hid (HB5.out.trans ((below_undrew HBP.out).mono HB5.out.size))
  have HOP := Lib.hid (ownsRow_below HO5.out (below_undrew HBP.out))
  dsimp only
  refine hK.out _ _ (HQ2.out _ HBD.out) (fun hHeld => ?_)
  clear hK K
  try simp only [Act.put, List.setIfInBounds_toArray, List.set_cons_zero, List.set_cons_succ]
  refine wpAnyH_take (i := 16) (oi := { dst := some 98, op := Go.Op.pick (Go.Operand.tmp 94) (Go.Operand.const (Go.Value.bool true)) (Go.Operand.tmp 97), type := 4, pos := "check.go:162", after := #[{ on := 12, ground := Go.Ground.data }, { on := 15, ground := Go.Ground.data }], guard := none }) (v := ?_) rfl (by kernel_rfl) (by kernel_rfl) (by kernel_rfl) (fun _ _ _ h => h) (Or.inl ⟨by rfl, ?_⟩) (by assumption) ?_
  rotate_left
  · intro w hSw; (try dsimp only at hSw); go_simp; first | done | with_reducible rfl
  try simp only [Act.put, List.setIfInBounds_toArray, List.set_cons_zero, List.set_cons_succ]
  refine wpAnyH_take (i := 17) (oi := { dst := some 81, op := Go.Op.assign (Go.Operand.tmp 98), type := 4, pos := "check.go:162", after := #[{ on := 16, ground := Go.Ground.data }, { on := 15, ground := Go.Ground.chain }], guard := none }) (v := ?_) rfl (by kernel_rfl) (by kernel_rfl) (by kernel_rfl) (fun _ _ _ h => h) (Or.inl ⟨by rfl, ?_⟩) (by assumption) ?_
  rotate_left
  · intro w hSw; (try dsimp only at hSw); go_simp; first | done | with_reducible rfl
  try simp only [Act.put, List.setIfInBounds_toArray, List.set_cons_zero, List.set_cons_succ]
  refine wpAnyH_done (by kernel_rfl) ?_ _
  clear hHeld
  obtain ⟨q1, q2, q3, q4, q5, q6⟩ := HQ.out _ HBD.out
  go_wp2_with (first | (go_at_call 137; clear q1 q2 q3 q4 q5 q6; refine (HRA.out _ HBD.out).mono ?_; rintro e wr ⟨rfl, hbn⟩; have HBE := Lib.hid (HBD.out.trans (hbn.out.mono HBD.out.size)); have HOR := Lib.hid (ownsRow_below HOP.out hbn.out); clear hbn; obtain ⟨q1, q2, q3, q4, q5, q6⟩ := HQ.out _ HBE.out) | (go_at_call 138; refine (has_axis _ _).mono ?_; rintro e wy ⟨rfl, hwy⟩; subst wy) | (go_at_call 141; obtain ⟨g3, hg3, -, -, hs3⟩ := row_at HOR.out (by omega); injection hg3 with hg3; injection hg3 with hg3; subst hg3; refine (HSH.out _ HBE.out g2 cap2 HCC.out (hs3 0 (by omega)) (hs3 1 (by omega))).mono ?_; rintro e wz ⟨rfl, S', hS', hX', hK'⟩))
  go_ret
  exact ⟨rfl, S', hS', hX', Lib.hid ((KeepB.of_below ((HB3.out.trans (HBE.out.mono HB3.out.size)).mono HNUM.out.1)).trans hK'.out)⟩
end Go.Proofs.YtdbhlkejfecffaaGreatDoor
