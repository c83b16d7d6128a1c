/-
  codec: Number, List.
-/
import Derived.Test.YtllpoaoboieijaaGreatSa10
import Derived.Test.YtllpoaoboieijaaGreatSa24
/-
  codec: Number, List.
-/
namespace Go.Proofs.YtllpoaoboieijaaGreat
open Go.RowKit

/-- A writer: a cell with the bytes that were written. -/
structure WSt (base : Nat) (w : World) (wb : Nat) (v : Value) (acc : List Int) : Prop where
  blk : Blk w wb [v] 130
  row : w.ownsRow base 5 1 v acc.length (bys acc)
  ne : v.ownBlock ≠ some wb
/-- Nothing but a writer and its bytes is written. -/
structure KW (wb : Nat) (v : Value) (w : World) (v' : Value) (w' : World) : Prop where
  os : w'.os = w.os
  tape : w'.tape = w.tape
  output : w'.output = w.output
  size : w.heap.size ≤ w'.heap.size
  block : ∀ b, b < w.heap.size → b ≠ wb → v.ownBlock ≠ some b → w'.heap[b]? = w.heap[b]?
  new : ∀ g, v'.ownBlock = some g → v.ownBlock = some g ∨ w.heap.size ≤ g
theorem KW.refl (wb : Nat) (v : Value) (w : World) : KW wb v w v w := ⟨rfl, rfl, rfl, Nat.le_refl _, fun _ _ _ _ => rfl, fun _ h => .inl h⟩
theorem KW.trans {wb : Nat} {v v1 v2 : Value} {w w1 w2 : World} (h : KW wb v w v1 w1) (k : KW wb v1 w1 v2 w2) : KW wb v w v2 w2 :=
  ⟨k.os.trans h.os, k.tape.trans h.tape, k.output.trans h.output, Nat.le_trans h.size k.size, fun b hb hn hv => by
    rw [k.block b (Nat.lt_of_lt_of_le hb h.size) hn (fun e => by rcases h.new b e with a | a; exact hv a; omega)]
    exact h.block b hb hn hv, fun g hg => by
    rcases k.new g hg with a | a
    · exact h.new g a
    · right; have := h.size; omega⟩
/-- One byte more, at the place of the writer. -/
theorem WSt.app {base : Nat} {w w3 : World} {wb : Nat} {v : Value} {acc : List Int} (h : WSt base w wb v acc) (x : Int) (o : Obj) {g cap : Nat}
    (h3 : w3.ownsRow base 5 1 (.slice (some ⟨g, 0, none⟩) (acc.length + 1) cap) (acc.length + 1) (bys acc ++ [.int .u8 x])) (hg : (w.alloc o).grownBy w3 v.ownBlock) (hat : v.ownBlock = some g ∨ g = (w.alloc o).heap.size) :
    Blk w3 wb [v] 130 ∧ WSt base (w3.setCell ⟨wb, 0, none⟩ (.slice (some ⟨g, 0, none⟩) (acc.length + 1) cap)) wb (.slice (some ⟨g, 0, none⟩) (acc.length + 1) cap) (acc ++ [x]) ∧
      KW wb v w (.slice (some ⟨g, 0, none⟩) (acc.length + 1) cap) (w3.setCell ⟨wb, 0, none⟩ (.slice (some ⟨g, 0, none⟩) (acc.length + 1) cap)) := by
  have hb3 : Blk w3 wb [v] 130 := Blk.grown hg (h.blk.alloc o) (fun e => h.ne e.symm)
  have hlt := h.blk.lt
  have hsz := alloc_le w o
  have hgw : g ≠ wb := by
    rcases hat with a | a
    · intro e; exact h.ne (by rw [a, e])
    · omega
  refine ⟨hb3, ⟨hb3.set 0 _, ?_, by simp [Value.ownBlock, hgw]⟩, ⟨hg.os, hg.tape, hg.output, ?_, fun b hb hn hv => ?_, fun q hq => ?_⟩⟩
  · rw [List.length_append, bys, List.map_append]
    refine ⟨h3.1, ?_⟩
    rcases h3.2 with ⟨hv, _⟩ | ⟨g', cap', cur, hv, a3, a4, a5, a6, a7, a8⟩
    · cases hv
    · injection hv with e1 e2 e3
      injection e1 with e1
      injection e1 with e1
      subst e1 e3
      exact .inr ⟨g, cap, cur, rfl, a3, by rw [Below.heap_setCell _ _ _ _ hgw]; exact a4, a5, a6, a7, a8⟩
  · have := hg.size; simp [World.setCell]; omega
  · rw [Below.heap_setCell _ _ _ _ hn, hg.block b (by omega) (fun e => hv e.symm)]
    exact Below.heap_alloc _ _ _ hb
  · have : g = q := by simpa [Value.ownBlock] using hq
    subst this
    rcases hat with a | a
    · exact .inl a
    · right; omega

def byteOr (u : Int) : Int := bits BinOp.or IntKind.u8 (u % 256) 128
def numL : Nat → Int → List Int
  | 0, u => [u % 256]
  | f + 1, u => if 128 ≤ u then byteOr u :: numL f (u / 128) else [u % 256]
def numU (n : Int) : Int := if n < 0 then -2 * n - 1 else 2 * n
def numB (n : Int) : List Int := numL 2 (numU n)

set_option maxRecDepth 100000 in
set_option maxHeartbeats 1600000 in
theorem number_any (base wb : Nat) (v : Value) (acc : List Int) (n : Int) (hn : -1000 ≤ n ∧ n ≤ 1000) (hacc : acc.length ≤ 100000) (w : World) (h : WSt base w wb v acc) (hbase : base ≤ w.heap.size) :
    Calls Tryz.prog 102 #[.pointer (some ⟨wb, 0, none⟩), .int .i64 n] w fun e w' => e = .returned (.tuple #[]) ∧ ∃ v', Hid (WSt base w' wb v' (acc ++ numB n)) ∧ Hid (KW wb v w v' w') := by
  have H := Lib.hid h
  have hu : 0 ≤ numU n ∧ numU n ≤ 2001 := by unfold numU; split <;> omega
  have HU := Lib.hid hu
  obtain ⟨i0, hi, hz0, hz1, hz2⟩ := info_parts info5
  clear h
  have eu : IntKind.u64.wrap (numU n) = numU n := by
    have : IntKind.u64.wrap (numU n) = numU n % 18446744073709551616 := by simp [IntKind.wrap, IntKind.signed, IntKind.bits]
    omega
  by_cases hneg : n < 0
  · have hneg' : decide (n < 0) = true := decide_eq_true hneg
    have e0 : IntKind.i64.wrap (2 * n) = 2 * n := IntWalk.i64_in _ (by omega)
    have e0' : wrap64 (2 * n) = 2 * n := by rw [← wrapEq]; exact e0
    have e1 : IntKind.i64.wrap (-2 * n) = -2 * n := IntWalk.i64_in _ (by omega)
    have e1' : wrap64 (-2 * n) = -2 * n := by rw [← wrapEq]; exact e1
    have hun : -2 * n - 1 = numU n := by unfold numU; rw [if_pos hneg]
    have e2 : IntKind.i64.wrap (-2 * n - 1) = numU n := by rw [hun]; exact IntWalk.i64_in _ (by omega)
    have e2' : wrap64 (-2 * n - 1) = numU n := by rw [← wrapEq]; exact e2
    clear hun hu
    go_enter Tryz.func102, Tryz.ntmps102
    go_wp2
    go_loopg [4] 2 (fun gk s4 wx => ∃ (u : Int) (acc1 : List Int) (v1 : Value), s4 = .int .u64 u ∧ 0 ≤ u ∧ (gk = 0 ∧ u < 128 ∨ gk = 1 ∧ u < 16384 ∨ gk = 2 ∧ u < 2097152) ∧ Hid (acc1 ++ numL gk u = acc ++ numB n) ∧ acc1.length ≤ 100000 + 3 - gk ∧ Hid (WSt base wx wb v1 acc1) ∧ Hid (KW wb v w v1 wx))
    case atStart => exact ⟨numU n, acc, v, rfl, HU.out.1, .inr (.inr ⟨rfl, by have := HU.out.2; omega⟩), Lib.hid rfl, by omega, H, Lib.hid (KW.refl _ _ _)⟩
    case round =>
      obtain ⟨u, acc1, v1, rfl, hu0, hgk, HEQ, hal, HW1, HK1⟩ := hrel
      obtain ⟨A1, c1, hv1⟩ := ownsRow_shape HW1.out.row
      subst hv1
      have cb : wr.cell? ⟨wb, 0, none⟩ = some (.slice A1 acc1.length c1) := by rw [HW1.out.blk.cell]; rfl
      have hw8 : IntKind.u8.wrap u = u % 256 := rfl
      have hb1 : acc1.length + 1 ≤ maxLen := by unfold maxLen; omega
      have hb2 : (acc1.length + 1) * 1 ≤ 140737488355328 := by omega
      have hsz := Nat.le_trans hbase HK1.out.size
      by_cases hc : 128 ≤ u
      · have hc' : decide (128 ≤ u) = true := decide_eq_true hc
        obtain ⟨m, rfl⟩ : ∃ m, gk = m + 1 := ⟨gk - 1, by omega⟩
        have hbo : bits BinOp.or IntKind.u8 (u % 256) 128 = byteOr u := rfl
        have HNL := Lib.hid (show numL (m + 1) u = byteOr u :: numL m (u / 128) by simp [numL, hc])
        generalize byteOr u = bo at hbo HNL
        go_wp2_with (at_builtin; refine wpList_append_lies _ rfl _ _ 130 rfl base 5 i0 (.int .u8 0) 1 1 Tryz.underlying130 hi hz0 hz1 hz2 rfl (by decide) _ acc1.length _ rfl (ownsRow_below HW1.out.row (Below.alloc (Below.refl _ _) (Nat.le_refl _) _)) ⟨wr.heap.size, 0, none⟩ 1 1 [.int .u8 bo] rfl rfl (news1' _ _ _) (one_int _ _) Nat.one_pos hb1 hb2 (Nat.le_trans hsz (alloc_le _ _)) _ rfl ?_; intro g3 cap3 w3 hown3 hgrow3 hat3 hlt3; have HAPP := Lib.hid (WSt.app HW1.out bo _ hown3 hgrow3 hat3); have cb3 := HAPP.out.1.cell; have fb3 := HAPP.out.1.frozen; clear hown3 hgrow3 hat3 hlt3)
        go_roundg m
        case measure => omega
        case rel => exact ⟨u / 128, acc1 ++ [bo], _, by first | rfl | (congr 1), by omega, by omega, Lib.hid (by rw [← HEQ.out, HNL.out]; simp), by simp; omega, Lib.hid HAPP.out.2.1, Lib.hid (HK1.out.trans HAPP.out.2.2)⟩
      · have hc' : decide (128 ≤ u) = false := decide_eq_false hc
        have HNL := Lib.hid (show numL gk u = [u % 256] by cases gk <;> simp [numL, hc])
        generalize u % 256 = bo at hw8 HNL
        go_wp2_with (at_builtin; refine wpList_append_lies _ rfl _ _ 130 rfl base 5 i0 (.int .u8 0) 1 1 Tryz.underlying130 hi hz0 hz1 hz2 rfl (by decide) _ acc1.length _ rfl (ownsRow_below HW1.out.row (Below.alloc (Below.refl _ _) (Nat.le_refl _) _)) ⟨wr.heap.size, 0, none⟩ 1 1 [.int .u8 bo] rfl rfl (news1' _ _ _) (one_int _ _) Nat.one_pos hb1 hb2 (Nat.le_trans hsz (alloc_le _ _)) _ rfl ?_; intro g3 cap3 w3 hown3 hgrow3 hat3 hlt3; have HAPP := Lib.hid (WSt.app HW1.out bo _ hown3 hgrow3 hat3); have cb3 := HAPP.out.1.cell; have fb3 := HAPP.out.1.frozen; clear hown3 hgrow3 hat3 hlt3)
        go_end0
        exact ⟨rfl, _, Lib.hid (by rw [← HEQ.out, HNL.out]; exact HAPP.out.2.1), Lib.hid (HK1.out.trans HAPP.out.2.2)⟩
  · have hneg' : decide (n < 0) = false := decide_eq_false hneg
    have e1 : IntKind.i64.wrap (2 * n) = numU n := by rw [IntWalk.i64_in _ (by omega)]; unfold numU; rw [if_neg hneg]
    have e1' : wrap64 (2 * n) = numU n := by rw [← wrapEq]; exact e1
    clear hu
    go_enter Tryz.func102, Tryz.ntmps102
    go_wp2
    go_loopg [4] 2 (fun gk s4 wx => ∃ (u : Int) (acc1 : List Int) (v1 : Value), s4 = .int .u64 u ∧ 0 ≤ u ∧ (gk = 0 ∧ u < 128 ∨ gk = 1 ∧ u < 16384 ∨ gk = 2 ∧ u < 2097152) ∧ Hid (acc1 ++ numL gk u = acc ++ numB n) ∧ acc1.length ≤ 100000 + 3 - gk ∧ Hid (WSt base wx wb v1 acc1) ∧ Hid (KW wb v w v1 wx))
    case atStart => exact ⟨numU n, acc, v, rfl, HU.out.1, .inr (.inr ⟨rfl, by have := HU.out.2; omega⟩), Lib.hid rfl, by omega, H, Lib.hid (KW.refl _ _ _)⟩
    case round =>
      obtain ⟨u, acc1, v1, rfl, hu0, hgk, HEQ, hal, HW1, HK1⟩ := hrel
      obtain ⟨A1, c1, hv1⟩ := ownsRow_shape HW1.out.row
      subst hv1
      have cb : wr.cell? ⟨wb, 0, none⟩ = some (.slice A1 acc1.length c1) := by rw [HW1.out.blk.cell]; rfl
      have hw8 : IntKind.u8.wrap u = u % 256 := rfl
      have hb1 : acc1.length + 1 ≤ maxLen := by unfold maxLen; omega
      have hb2 : (acc1.length + 1) * 1 ≤ 140737488355328 := by omega
      have hsz := Nat.le_trans hbase HK1.out.size
      by_cases hc : 128 ≤ u
      · have hc' : decide (128 ≤ u) = true := decide_eq_true hc
        obtain ⟨m, rfl⟩ : ∃ m, gk = m + 1 := ⟨gk - 1, by omega⟩
        have hbo : bits BinOp.or IntKind.u8 (u % 256) 128 = byteOr u := rfl
        have HNL := Lib.hid (show numL (m + 1) u = byteOr u :: numL m (u / 128) by simp [numL, hc])
        generalize byteOr u = bo at hbo HNL
        go_wp2_with (at_builtin; refine wpList_append_lies _ rfl _ _ 130 rfl base 5 i0 (.int .u8 0) 1 1 Tryz.underlying130 hi hz0 hz1 hz2 rfl (by decide) _ acc1.length _ rfl (ownsRow_below HW1.out.row (Below.alloc (Below.refl _ _) (Nat.le_refl _) _)) ⟨wr.heap.size, 0, none⟩ 1 1 [.int .u8 bo] rfl rfl (news1' _ _ _) (one_int _ _) Nat.one_pos hb1 hb2 (Nat.le_trans hsz (alloc_le _ _)) _ rfl ?_; intro g3 cap3 w3 hown3 hgrow3 hat3 hlt3; have HAPP := Lib.hid (WSt.app HW1.out bo _ hown3 hgrow3 hat3); have cb3 := HAPP.out.1.cell; have fb3 := HAPP.out.1.frozen; clear hown3 hgrow3 hat3 hlt3)
        go_roundg m
        case measure => omega
        case rel => exact ⟨u / 128, acc1 ++ [bo], _, by first | rfl | (congr 1), by omega, by omega, Lib.hid (by rw [← HEQ.out, HNL.out]; simp), by simp; omega, Lib.hid HAPP.out.2.1, Lib.hid (HK1.out.trans HAPP.out.2.2)⟩
      · have hc' : decide (128 ≤ u) = false := decide_eq_false hc
        have HNL := Lib.hid (show numL gk u = [u % 256] by cases gk <;> simp [numL, hc])
        generalize u % 256 = bo at hw8 HNL
        go_wp2_with (at_builtin; refine wpList_append_lies _ rfl _ _ 130 rfl base 5 i0 (.int .u8 0) 1 1 Tryz.underlying130 hi hz0 hz1 hz2 rfl (by decide) _ acc1.length _ rfl (ownsRow_below HW1.out.row (Below.alloc (Below.refl _ _) (Nat.le_refl _) _)) ⟨wr.heap.size, 0, none⟩ 1 1 [.int .u8 bo] rfl rfl (news1' _ _ _) (one_int _ _) Nat.one_pos hb1 hb2 (Nat.le_trans hsz (alloc_le _ _)) _ rfl ?_; intro g3 cap3 w3 hown3 hgrow3 hat3 hlt3; have HAPP := Lib.hid (WSt.app HW1.out bo _ hown3 hgrow3 hat3); have cb3 := HAPP.out.1.cell; have fb3 := HAPP.out.1.frozen; clear hown3 hgrow3 hat3 hlt3)
        go_end0
        exact ⟨rfl, _, Lib.hid (by rw [← HEQ.out, HNL.out]; exact HAPP.out.2.1), Lib.hid (HK1.out.trans HAPP.out.2.2)⟩
end Go.Proofs.YtllpoaoboieijaaGreat
