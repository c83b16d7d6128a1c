/-
  codec: Number.
  codec: List; models: lists; where a model lies.
  Where a model lies; models: bytesOf.
-/
import Derived.Test.YtplkchmcojnimaaGreatDoorSa2
/-
  codec: Number.
-/
namespace Go.Proofs.YtplkchmcojnimaaGreatDoor
open Go.RowKit

theorem wrapEq (x : Int) : IntKind.i64.wrap x = wrap64 x := by rw [IntKind.wrap_i64]; unfold wrap64; omega
/-- A writer: a cell with the bytes that were written. -/
structure WSt (base : Nat) (w : World) (wb : Nat) (v : Value) (acc : List Int) : Prop where
  blk : Blk w wb [v] 82
  row : w.ownsRow base 5 1 v acc.length (bys acc)
  ne : v.ownBlock ≠ some wb
/-- Nothing but a writer and its bytes is written. -/
structure KW (wb : Nat) (v : Value) (w : World) (v' : Value) (w' : World) : Prop where
  os : w'.os = w.os
  tape : w'.tape = w.tape
  output : w'.output = w.output
  size : w.heap.size ≤ w'.heap.size
  block : ∀ b, b < w.heap.size → b ≠ wb → v.ownBlock ≠ some b → w'.heap[b]? = w.heap[b]?
  new : ∀ g, v'.ownBlock = some g → v.ownBlock = some g ∨ w.heap.size ≤ g
theorem KW.refl (wb : Nat) (v : Value) (w : World) : KW wb v w v w := ⟨rfl, rfl, rfl, Nat.le_refl _, fun _ _ _ _ => rfl, fun _ h => .inl h⟩
theorem KW.trans {wb : Nat} {v v1 v2 : Value} {w w1 w2 : World} (h : KW wb v w v1 w1) (k : KW wb v1 w1 v2 w2) : KW wb v w v2 w2 :=
  ⟨k.os.trans h.os, k.tape.trans h.tape, k.output.trans h.output, Nat.le_trans h.size k.size, fun b hb hn hv => by
    rw [k.block b (Nat.lt_of_lt_of_le hb h.size) hn (fun e => by rcases h.new b e with a | a; exact hv a; omega)]
    exact h.block b hb hn hv, fun g hg => by
    rcases k.new g hg with a | a
    · exact h.new g a
    · right; have := h.size; omega⟩
/-- One byte more, at the place of the writer. -/
theorem WSt.app {base : Nat} {w w3 : World} {wb : Nat} {v : Value} {acc : List Int} (h : WSt base w wb v acc) (x : Int) (o : Obj) {g cap : Nat}
    (h3 : w3.ownsRow base 5 1 (.slice (some ⟨g, 0, none⟩) (acc.length + 1) cap) (acc.length + 1) (bys acc ++ [.int .u8 x])) (hg : (w.alloc o).grownBy w3 v.ownBlock) (hat : v.ownBlock = some g ∨ g = (w.alloc o).heap.size) :
    Blk w3 wb [v] 82 ∧ WSt base (w3.setCell ⟨wb, 0, none⟩ (.slice (some ⟨g, 0, none⟩) (acc.length + 1) cap)) wb (.slice (some ⟨g, 0, none⟩) (acc.length + 1) cap) (acc ++ [x]) ∧
      KW wb v w (.slice (some ⟨g, 0, none⟩) (acc.length + 1) cap) (w3.setCell ⟨wb, 0, none⟩ (.slice (some ⟨g, 0, none⟩) (acc.length + 1) cap)) := by
  have hb3 : Blk w3 wb [v] 82 := Blk.grown hg (h.blk.alloc o) (fun e => h.ne e.symm)
  have hlt := h.blk.lt
  have hsz := alloc_le w o
  have hgw : g ≠ wb := by
    rcases hat with a | a
    · intro e; exact h.ne (by rw [a, e])
    · omega
  refine ⟨hb3, ⟨hb3.set 0 _, ?_, by simp [Value.ownBlock, hgw]⟩, ⟨hg.os, hg.tape, hg.output, ?_, fun b hb hn hv => ?_, fun q hq => ?_⟩⟩
  · rw [List.length_append, bys, List.map_append]
    refine ⟨h3.1, ?_⟩
    rcases h3.2 with ⟨hv, _⟩ | ⟨g', cap', cur, hv, a3, a4, a5, a6, a7, a8⟩
    · cases hv
    · injection hv with e1 e2 e3
      injection e1 with e1
      injection e1 with e1
      subst e1 e3
      exact .inr ⟨g, cap, cur, rfl, a3, by rw [Below.heap_setCell _ _ _ _ hgw]; exact a4, a5, a6, a7, a8⟩
  · have := hg.size; simp [World.setCell]; omega
  · rw [Below.heap_setCell _ _ _ _ hn, hg.block b (by omega) (fun e => hv e.symm)]
    exact Below.heap_alloc _ _ _ hb
  · have : g = q := by simpa [Value.ownBlock] using hq
    subst this
    rcases hat with a | a
    · exact .inl a
    · right; omega
set_option maxRecDepth 100000 in
set_option maxHeartbeats 1600000 in
theorem number_any (base wb : Nat) (v : Value) (acc : List Int) (n : Int) (hn : -1000 ≤ n ∧ n ≤ 1000) (hacc : acc.length ≤ 100000) (w : World) (h : WSt base w wb v acc) (hbase : base ≤ w.heap.size) :
    Calls Tryz.prog 52 #[.pointer (some ⟨wb, 0, none⟩), .int .i64 n] w fun e w' => e = .returned (.tuple #[]) ∧ ∃ v', Hid (WSt base w' wb v' (acc ++ numB n)) ∧ Hid (KW wb v w v' w') := by
  have H := Lib.hid h
  have hu : 0 ≤ numU n ∧ numU n ≤ 2001 := by unfold numU; split <;> omega
  have HU := Lib.hid hu
  obtain ⟨i0, hi, hz0, hz1, hz2⟩ := info_parts info5
  clear h
  have eu : IntKind.u64.wrap (numU n) = numU n := by
    have : IntKind.u64.wrap (numU n) = numU n % 18446744073709551616 := by simp [IntKind.wrap, IntKind.signed, IntKind.bits]
    omega
  by_cases hneg : n < 0
  · have hneg' : decide (n < 0) = true := decide_eq_true hneg
    have e0 : IntKind.i64.wrap (2 * n) = 2 * n := IntWalk.i64_in _ (by omega)
    have e0' : wrap64 (2 * n) = 2 * n := by rw [← wrapEq]; exact e0
    have e1 : IntKind.i64.wrap (-2 * n) = -2 * n := IntWalk.i64_in _ (by omega)
    have e1' : wrap64 (-2 * n) = -2 * n := by rw [← wrapEq]; exact e1
    have hun : -2 * n - 1 = numU n := by unfold numU; rw [if_pos hneg]
    have e2 : IntKind.i64.wrap (-2 * n - 1) = numU n := by rw [hun]; exact IntWalk.i64_in _ (by omega)
    have e2' : wrap64 (-2 * n - 1) = numU n := by rw [← wrapEq]; exact e2
    clear hun hu
    go_enter Tryz.func52, Tryz.ntmps52
    go_wp2
    go_loopg [4] 2 (fun gk s4 wx => ∃ (u : Int) (acc1 : List Int) (v1 : Value), s4 = .int .u64 u ∧ 0 ≤ u ∧ (gk = 0 ∧ u < 128 ∨ gk = 1 ∧ u < 16384 ∨ gk = 2 ∧ u < 2097152) ∧ Hid (acc1 ++ numL gk u = acc ++ numB n) ∧ acc1.length ≤ 100000 + 3 - gk ∧ Hid (WSt base wx wb v1 acc1) ∧ Hid (KW wb v w v1 wx))
    case atStart => exact ⟨numU n, acc, v, rfl, HU.out.1, .inr (.inr ⟨rfl, by have := HU.out.2; omega⟩), Lib.hid rfl, by omega, H, Lib.hid (KW.refl _ _ _)⟩
    case round =>
      obtain ⟨u, acc1, v1, rfl, hu0, hgk, HEQ, hal, HW1, HK1⟩ := hrel
      obtain ⟨A1, c1, hv1⟩ := ownsRow_shape HW1.out.row
      subst hv1
      have cb : wr.cell? ⟨wb, 0, none⟩ = some (.slice A1 acc1.length c1) := by rw [HW1.out.blk.cell]; rfl
      have hw8 : IntKind.u8.wrap u = u % 256 := rfl
      have hb1 : acc1.length + 1 ≤ maxLen := by unfold maxLen; omega
      have hb2 : (acc1.length + 1) * 1 ≤ 140737488355328 := by omega
      have hsz := Nat.le_trans hbase HK1.out.size
      by_cases hc : 128 ≤ u
      · have hc' : decide (128 ≤ u) = true := decide_eq_true hc
        obtain ⟨m, rfl⟩ : ∃ m, gk = m + 1 := ⟨gk - 1, by omega⟩
        have hbo : bits BinOp.or IntKind.u8 (u % 256) 128 = byteOr u := rfl
        have HNL := Lib.hid (show numL (m + 1) u = byteOr u :: numL m (u / 128) by simp [numL, hc])
        generalize byteOr u = bo at hbo HNL
        go_wp2_with (at_builtin; refine wpList_append_lies _ rfl _ _ 82 rfl base 5 i0 (.int .u8 0) 1 1 Tryz.underlying82 hi hz0 hz1 hz2 rfl (by decide) _ acc1.length _ rfl (ownsRow_below HW1.out.row (Below.alloc (Below.refl _ _) (Nat.le_refl _) _)) ⟨wr.heap.size, 0, none⟩ 1 1 [.int .u8 bo] rfl rfl (news1' _ _ _) (one_int _ _) Nat.one_pos hb1 hb2 (Nat.le_trans hsz (alloc_le _ _)) _ rfl ?_; intro g3 cap3 w3 hown3 hgrow3 hat3 hlt3; have HAPP := Lib.hid (WSt.app HW1.out bo _ hown3 hgrow3 hat3); have cb3 := HAPP.out.1.cell; have fb3 := HAPP.out.1.frozen; clear hown3 hgrow3 hat3 hlt3)
        go_roundg m
        case measure => omega
        case rel => exact ⟨u / 128, acc1 ++ [bo], _, by first | rfl | (congr 1), by omega, by omega, Lib.hid (by rw [← HEQ.out, HNL.out]; simp), by simp; omega, Lib.hid HAPP.out.2.1, Lib.hid (HK1.out.trans HAPP.out.2.2)⟩
      · have hc' : decide (128 ≤ u) = false := decide_eq_false hc
        have HNL := Lib.hid (show numL gk u = [u % 256] by cases gk <;> simp [numL, hc])
        generalize u % 256 = bo at hw8 HNL
        go_wp2_with (at_builtin; refine wpList_append_lies _ rfl _ _ 82 rfl base 5 i0 (.int .u8 0) 1 1 Tryz.underlying82 hi hz0 hz1 hz2 rfl (by decide) _ acc1.length _ rfl (ownsRow_below HW1.out.row (Below.alloc (Below.refl _ _) (Nat.le_refl _) _)) ⟨wr.heap.size, 0, none⟩ 1 1 [.int .u8 bo] rfl rfl (news1' _ _ _) (one_int _ _) Nat.one_pos hb1 hb2 (Nat.le_trans hsz (alloc_le _ _)) _ rfl ?_; intro g3 cap3 w3 hown3 hgrow3 hat3 hlt3; have HAPP := Lib.hid (WSt.app HW1.out bo _ hown3 hgrow3 hat3); have cb3 := HAPP.out.1.cell; have fb3 := HAPP.out.1.frozen; clear hown3 hgrow3 hat3 hlt3)
        go_end0
        exact ⟨rfl, _, Lib.hid (by rw [← HEQ.out, HNL.out]; exact HAPP.out.2.1), Lib.hid (HK1.out.trans HAPP.out.2.2)⟩
  · have hneg' : decide (n < 0) = false := decide_eq_false hneg
    have e1 : IntKind.i64.wrap (2 * n) = numU n := by rw [IntWalk.i64_in _ (by omega)]; unfold numU; rw [if_neg hneg]
    have e1' : wrap64 (2 * n) = numU n := by rw [← wrapEq]; exact e1
    clear hu
    go_enter Tryz.func52, Tryz.ntmps52
    go_wp2
    go_loopg [4] 2 (fun gk s4 wx => ∃ (u : Int) (acc1 : List Int) (v1 : Value), s4 = .int .u64 u ∧ 0 ≤ u ∧ (gk = 0 ∧ u < 128 ∨ gk = 1 ∧ u < 16384 ∨ gk = 2 ∧ u < 2097152) ∧ Hid (acc1 ++ numL gk u = acc ++ numB n) ∧ acc1.length ≤ 100000 + 3 - gk ∧ Hid (WSt base wx wb v1 acc1) ∧ Hid (KW wb v w v1 wx))
    case atStart => exact ⟨numU n, acc, v, rfl, HU.out.1, .inr (.inr ⟨rfl, by have := HU.out.2; omega⟩), Lib.hid rfl, by omega, H, Lib.hid (KW.refl _ _ _)⟩
    case round =>
      obtain ⟨u, acc1, v1, rfl, hu0, hgk, HEQ, hal, HW1, HK1⟩ := hrel
      obtain ⟨A1, c1, hv1⟩ := ownsRow_shape HW1.out.row
      subst hv1
      have cb : wr.cell? ⟨wb, 0, none⟩ = some (.slice A1 acc1.length c1) := by rw [HW1.out.blk.cell]; rfl
      have hw8 : IntKind.u8.wrap u = u % 256 := rfl
      have hb1 : acc1.length + 1 ≤ maxLen := by unfold maxLen; omega
      have hb2 : (acc1.length + 1) * 1 ≤ 140737488355328 := by omega
      have hsz := Nat.le_trans hbase HK1.out.size
      by_cases hc : 128 ≤ u
      · have hc' : decide (128 ≤ u) = true := decide_eq_true hc
        obtain ⟨m, rfl⟩ : ∃ m, gk = m + 1 := ⟨gk - 1, by omega⟩
        have hbo : bits BinOp.or IntKind.u8 (u % 256) 128 = byteOr u := rfl
        have HNL := Lib.hid (show numL (m + 1) u = byteOr u :: numL m (u / 128) by simp [numL, hc])
        generalize byteOr u = bo at hbo HNL
        go_wp2_with (at_builtin; refine wpList_append_lies _ rfl _ _ 82 rfl base 5 i0 (.int .u8 0) 1 1 Tryz.underlying82 hi hz0 hz1 hz2 rfl (by decide) _ acc1.length _ rfl (ownsRow_below HW1.out.row (Below.alloc (Below.refl _ _) (Nat.le_refl _) _)) ⟨wr.heap.size, 0, none⟩ 1 1 [.int .u8 bo] rfl rfl (news1' _ _ _) (one_int _ _) Nat.one_pos hb1 hb2 (Nat.le_trans hsz (alloc_le _ _)) _ rfl ?_; intro g3 cap3 w3 hown3 hgrow3 hat3 hlt3; have HAPP := Lib.hid (WSt.app HW1.out bo _ hown3 hgrow3 hat3); have cb3 := HAPP.out.1.cell; have fb3 := HAPP.out.1.frozen; clear hown3 hgrow3 hat3 hlt3)
        go_roundg m
        case measure => omega
        case rel => exact ⟨u / 128, acc1 ++ [bo], _, by first | rfl | (congr 1), by omega, by omega, Lib.hid (by rw [← HEQ.out, HNL.out]; simp), by simp; omega, Lib.hid HAPP.out.2.1, Lib.hid (HK1.out.trans HAPP.out.2.2)⟩
      · have hc' : decide (128 ≤ u) = false := decide_eq_false hc
        have HNL := Lib.hid (show numL gk u = [u % 256] by cases gk <;> simp [numL, hc])
        generalize u % 256 = bo at hw8 HNL
        go_wp2_with (at_builtin; refine wpList_append_lies _ rfl _ _ 82 rfl base 5 i0 (.int .u8 0) 1 1 Tryz.underlying82 hi hz0 hz1 hz2 rfl (by decide) _ acc1.length _ rfl (ownsRow_below HW1.out.row (Below.alloc (Below.refl _ _) (Nat.le_refl _) _)) ⟨wr.heap.size, 0, none⟩ 1 1 [.int .u8 bo] rfl rfl (news1' _ _ _) (one_int _ _) Nat.one_pos hb1 hb2 (Nat.le_trans hsz (alloc_le _ _)) _ rfl ?_; intro g3 cap3 w3 hown3 hgrow3 hat3 hlt3; have HAPP := Lib.hid (WSt.app HW1.out bo _ hown3 hgrow3 hat3); have cb3 := HAPP.out.1.cell; have fb3 := HAPP.out.1.frozen; clear hown3 hgrow3 hat3 hlt3)
        go_end0
        exact ⟨rfl, _, Lib.hid (by rw [← HEQ.out, HNL.out]; exact HAPP.out.2.1), Lib.hid (HK1.out.trans HAPP.out.2.2)⟩
end Go.Proofs.YtplkchmcojnimaaGreatDoor
/-
  codec: List; models: lists; where a model lies.
-/
namespace Go.Proofs.YtplkchmcojnimaaGreatDoor
open Go.RowKit

theorem Rd.at {w : World} {A : Option Addr} {n c : Nat} {l : List Int} (h : Rd w (.slice A n c) l) {i : Nat} (hi : i < l.length) : ∃ b o, A = some ⟨b, o, none⟩ ∧ w.cell? ⟨b, o + i, none⟩ = some (.int .i64 (l.getD i 0)) := by
  obtain ⟨A0, c0, hv, h1, h2, h3⟩ := h
  injection hv with e1 e2 e3
  subst e1 e3
  obtain ⟨b, o, rfl, hr⟩ := h3 (by omega)
  exact ⟨b, o, rfl, by rw [hr i hi]; simp [List.getD, hi]⟩
theorem KW.below {base wb : Nat} {v v' : Value} {w w' : World} (h : KW wb v w v' w') (hb : base ≤ w.heap.size) (hw : base ≤ wb) (hv : ∀ g, v.ownBlock = some g → base ≤ g) : Below base w w' :=
  ⟨h.os, h.tape, h.output, h.size, fun b hlt => h.block b (by omega) (by omega) (fun e => by have := hv b e; omega)⟩
theorem Rd.base {w w' : World} {B : Nat} {v : Value} {l : List Int} (h : Rd w v l) (hb : Below B w w') (hlt : ∀ b, v.ownBlock = some b → b < B) : Rd w' v l :=
  h.of_cells fun b hv => hb.block b (hlt b hv)
def listTo (l : List Int) : Nat → List Int
  | 0 => numB l.length
  | i + 1 => listTo l i ++ numB (l.getD i 0)
def listB (l : List Int) : List Int := listTo l l.length
theorem numL_len (f : Nat) : ∀ u, (numL f u).length ≤ f + 1 := by
  induction f with
  | zero => intro u; simp [numL]
  | succ f ih => intro u; simp only [numL]; split
                 · have := ih (u / 128); simp; omega
                 · simp
theorem numB_len (n : Int) : (numB n).length ≤ 3 := numL_len 2 _
theorem listTo_len (l : List Int) (i : Nat) : (listTo l i).length ≤ 3 * (i + 1) := by
  induction i with
  | zero => exact numB_len _
  | succ i ih => simp only [listTo, List.length_append]; have := numB_len (l.getD i 0); omega

set_option maxRecDepth 100000 in
set_option maxHeartbeats 1600000 in
theorem list_any (base wb : Nat) (v : Value) (acc l : List Int) (A : Option Addr) (c n : Nat) (hn : n = l.length) (hl : n ≤ 100) (hin : ∀ x, x ∈ l → -1000 ≤ x ∧ x ≤ 1000) (hacc : acc.length ≤ 90000) (w : World) (h : WSt base w wb v acc) (hbase : base ≤ w.heap.size) (hwb : base ≤ wb)
    (hr : Rd w (.slice A n c) l) (hb : ∀ b, (Value.slice A n c).ownBlock = some b → b < base) :
    Calls Tryz.prog 54 #[.pointer (some ⟨wb, 0, none⟩), .slice A n c, .func (.func 52) #[.pointer (some ⟨wb, 0, none⟩)] #[]] w fun e w' => e = .returned (.tuple #[]) ∧ ∃ v', Hid (WSt base w' wb v' (acc ++ listB l)) ∧ Hid (KW wb v w v' w') := by
  subst hn
  have H := Lib.hid h
  have HR := Lib.hid hr
  have HIN := Lib.hid hin
  have HB := Lib.hid hb
  have hc1 := number_any base wb v acc l.length (by omega) (by omega) w h hbase
  have HC1 := Lib.hid hc1
  have HNX := Lib.hid (fun (wx : World) (hb : base ≤ wx.heap.size) (v1 : Value) (acc1 : List Int) (h1 : WSt base wx wb v1 acc1) (x : Int) (hx : -1000 ≤ x ∧ x ≤ 1000) (hal : acc1.length ≤ 100000) => number_any base wb v1 acc1 x hx hal wx h1 hb)
  clear h hr hin hc1 hb
  go_enter Tryz.func54, Tryz.ntmps54
  go_wp2_with (go_at_call 52; refine HC1.out.mono ?_; rintro e w1 ⟨rfl, v1, HW1, HK1⟩)
  go_loopg [14] l.length (fun gk s14 wx => ∃ (i : Nat) (v2 : Value), s14 = .int .i64 i ∧ i ≤ l.length ∧ Hid (WSt base wx wb v2 (acc ++ listTo l i)) ∧ Hid (KW wb v w v2 wx) ∧ gk = l.length - i)
  case atStart => exact ⟨0, v1, rfl, by omega, HW1, HK1, rfl⟩
  case round =>
    obtain ⟨i, v2, rfl, hi, HW2, HK2, rfl⟩ := hrel
    by_cases hlt : i < l.length
    · have hbel : Below base w wr := HK2.out.below hbase hwb (ownsRow_base H.out.row)
      obtain ⟨b, o, hA, c1⟩ := (HR.out.base hbel HB.out).at hlt
      subst hA
      have hm : l.getD i 0 ∈ l := by rw [show l.getD i 0 = l[i] by simp [List.getD, hlt]]; exact List.getElem_mem hlt
      have hx := HIN.out _ hm
      have HT := Lib.hid (show listTo l (i + 1) = listTo l i ++ numB (l.getD i 0) from rfl)
      have hll := listTo_len l i
      generalize l.getD i 0 = x at c1 hx HT
      have HCX := Lib.hid (HNX.out wr (Nat.le_trans hbase HK2.out.size) v2 _ HW2.out x hx (by rw [List.length_append]; omega))
      clear hm hx hll hbel
      go_wp2_with (go_at_call 52; refine HCX.out.mono ?_; rintro e w3 ⟨rfl, v3, HW3, HK3⟩)
      go_roundg (l.length - (i + 1))
      case measure => omega
      case rel => exact ⟨i + 1, v3, by go_num, by omega, Lib.hid (by rw [HT.out, ← List.append_assoc]; exact HW3.out), Lib.hid (HK2.out.trans HK3.out), rfl⟩
    · have : i = l.length := by omega
      subst this
      go_wp2
      go_end0
      exact ⟨rfl, v2, HW2, HK2⟩
set_option maxRecDepth 100000 in
set_option maxHeartbeats 1600000 in
theorem lists_any (mb : Nat) (w : World) :
    Calls Tryz.prog 53 #[.pointer (some ⟨mb, 0, none⟩)] w fun e w' => ∃ g, e = .returned (.slice (some ⟨g, 0, none⟩) 7 7) ∧ Hid (Below w.heap.size w w') ∧ Hid (Blk w' g [.pointer (some ⟨mb, 4, none⟩), .pointer (some ⟨mb, 5, none⟩), .pointer (some ⟨mb, 6, none⟩), .pointer (some ⟨mb, 7, none⟩), .pointer (some ⟨mb, 8, none⟩), .pointer (some ⟨mb, 9, none⟩), .pointer (some ⟨mb, 10, none⟩)] 87 ∧ w.heap.size ≤ g) := by
  go_enter Tryz.func53, Tryz.ntmps53
  go_upto_region 1 with fail
  go_region
  go_wp2
  go_ret
  exact ⟨_, rfl, Lib.hid ((Below.refl _ _).alloc (Nat.le_refl _) _).drew, Lib.hid ⟨heap_alloc_new w _, Nat.le_refl _⟩⟩
end Go.Proofs.YtplkchmcojnimaaGreatDoor
/-
  Where a model lies; models: bytesOf.
-/
namespace Go.Proofs.YtplkchmcojnimaaGreatDoor
open Go.RowKit

/-- Where a slice lies. -/
structure SP where
  A : Option Addr
  c : Nat
structure MP where
  cuts : SP
  embed : SP
  place : SP
  mix : SP
  out : SP
  soft : SP
  odds : SP
def MD.num (m : MD) : Nat → Int
  | 0 => m.kind
  | 1 => m.vocab
  | 2 => m.width
  | _ => m.top
def MD.lst (m : MD) : Nat → List Int
  | 0 => m.cuts
  | 1 => m.embed
  | 2 => m.place
  | 3 => m.mix
  | 4 => m.out
  | 5 => m.soft
  | _ => m.odds
def MP.pl (p : MP) : Nat → SP
  | 0 => p.cuts
  | 1 => p.embed
  | 2 => p.place
  | 3 => p.mix
  | 4 => p.out
  | 5 => p.soft
  | _ => p.odds
def mCells (m : MD) (p : MP) : List Value := [.int .i64 m.kind, .int .i64 m.vocab, .int .i64 m.width, .int .i64 m.top, .slice p.cuts.A m.cuts.length p.cuts.c, .slice p.embed.A m.embed.length p.embed.c, .slice p.place.A m.place.length p.place.c,
  .slice p.mix.A m.mix.length p.mix.c, .slice p.out.A m.out.length p.out.c, .slice p.soft.A m.soft.length p.soft.c, .slice p.odds.A m.odds.length p.odds.c]
structure MAt (w : World) (m : MD) (p : MP) : Prop where
  cuts : Rd w (.slice p.cuts.A m.cuts.length p.cuts.c) m.cuts
  embed : Rd w (.slice p.embed.A m.embed.length p.embed.c) m.embed
  place : Rd w (.slice p.place.A m.place.length p.place.c) m.place
  mix : Rd w (.slice p.mix.A m.mix.length p.mix.c) m.mix
  out : Rd w (.slice p.out.A m.out.length p.out.c) m.out
  soft : Rd w (.slice p.soft.A m.soft.length p.soft.c) m.soft
  odds : Rd w (.slice p.odds.A m.odds.length p.odds.c) m.odds
theorem MAt.below {w w' : World} {m : MD} {p : MP} (h : MAt w m p) (hb : Below w.heap.size w w') : MAt w' m p :=
  ⟨h.cuts.below hb, h.embed.below hb, h.place.below hb, h.mix.below hb, h.out.below hb, h.soft.below hb, h.odds.below hb⟩
theorem MAt.drewN {w : World} {m : MD} {p : MP} (h : MAt w m p) (n : Nat) : MAt (w.drewN n) m p := ⟨h.cuts, h.embed, h.place, h.mix, h.out, h.soft, h.odds⟩
theorem seven {P : Nat → Prop} (h0 : P 0) (h1 : P 1) (h2 : P 2) (h3 : P 3) (h4 : P 4) (h5 : P 5) (h6 : P 6) : ∀ i, i < 7 → P i := by
  intro i hi
  have : i = 0 ∨ i = 1 ∨ i = 2 ∨ i = 3 ∨ i = 4 ∨ i = 5 ∨ i = 6 := by omega
  rcases this with rfl | rfl | rfl | rfl | rfl | rfl | rfl
  · exact h0
  · exact h1
  · exact h2
  · exact h3
  · exact h4
  · exact h5
  · exact h6
theorem MAt.ith {w : World} {m : MD} {p : MP} (h : MAt w m p) : ∀ i, i < 7 → Rd w (.slice (p.pl i).A (m.lst i).length (p.pl i).c) (m.lst i) :=
  seven h.cuts h.embed h.place h.mix h.out h.soft h.odds
theorem mCells_ith (m : MD) (p : MP) : ∀ i, i < 7 → (mCells m p)[4 + i]? = some (.slice (p.pl i).A (m.lst i).length (p.pl i).c) :=
  seven rfl rfl rfl rfl rfl rfl rfl
/-- What is bounded of a model that is right. -/
theorem MD.Ok.num {m : MD} (h : m.Ok) (k : Nat) : -1000 ≤ m.num k ∧ m.num k ≤ 1000 := by
  have h1 := h.kind; have h2 := h.vocab; have h3 := h.width; have h4 := h.top
  match k with
  | 0 => simp only [MD.num]; omega
  | 1 => simp only [MD.num]; omega
  | 2 => simp only [MD.num]; omega
  | k + 3 => simp only [MD.num]; omega
theorem mul_le {a b A B : Int} (h1 : 0 ≤ a ∧ a ≤ A) (h2 : 0 ≤ b ∧ b ≤ B) : a * b ≤ A * B := Int.le_trans (Int.mul_le_mul_of_nonneg_right h1.2 h2.1) (Int.mul_le_mul_of_nonneg_left h2.2 (by omega))
theorem MD.Ok.len {m : MD} (h : m.Ok) : ∀ k, k < 7 → 0 < (m.lst k).length ∧ (m.lst k).length ≤ 100 := by
  have hw := h.width
  have hv := h.vocab
  have e1 : m.vocab * m.width ≤ 16 * 5 := mul_le (by omega) (by omega)
  have e2 : 2 * 1 ≤ m.vocab * m.width := mul_le (by omega) (by omega)
  have hww : m.width * m.width ≤ 5 * 5 := mul_le (by omega) (by omega)
  have hww1 : 1 * 1 ≤ m.width * m.width := mul_le (by omega) (by omega)
  refine seven ?_ ?_ ?_ ?_ ?_ ?_ ?_ <;> simp only [MD.lst]
  · have := h.cuts; omega
  · have := h.embed; omega
  · have h1 := h.place
    have e := Int.mul_ediv_add_emod m.place.length m.width
    have : m.width * ((m.place.length : Int) / m.width) ≤ 5 * 16 := mul_le (by omega) (by omega)
    have : 1 * 1 ≤ m.width * ((m.place.length : Int) / m.width) := mul_le (by omega) (by omega)
    omega
  · have h1 := h.mix
    have e := Int.mul_ediv_add_emod m.mix.length (m.width * m.width)
    have : (m.width * m.width) * ((m.mix.length : Int) / (m.width * m.width)) ≤ 25 * 4 := mul_le (by omega) (by omega)
    have : 1 * 1 ≤ (m.width * m.width) * ((m.mix.length : Int) / (m.width * m.width)) := mul_le (by omega) (by omega)
    omega
  · have := h.out; omega
  · exact ⟨by have := h.soft; omega, by have := h.soft; omega⟩
  · exact ⟨by have := h.odds; omega, by have := h.odds; omega⟩
theorem MD.Ok.elem {m : MD} (h : m.Ok) : ∀ k, k < 7 → ∀ x, x ∈ m.lst k → -1000 ≤ x ∧ x ≤ 1000 :=
  seven (fun x hx => by have := h.cuts' x hx; omega) (fun x hx => by have := h.embed' x hx; omega) (fun x hx => by have := h.place' x hx; omega) (fun x hx => by have := h.mix' x hx; omega) (fun x hx => by have := h.out' x hx; omega) (fun x hx => by have := h.soft' x hx; omega) (fun x hx => by have := h.odds' x hx; omega)
/-- The bytes of a model, piece by piece. -/
def nTo (m : MD) : Nat → List Int
  | 0 => []
  | k + 1 => nTo m k ++ numB (m.num k)
def mTo (m : MD) : Nat → List Int
  | 0 => nTo m 4
  | k + 1 => mTo m k ++ listB (m.lst k)
theorem nTo_len (m : MD) (k : Nat) : (nTo m k).length ≤ 3 * k := by
  induction k with
  | zero => simp [nTo]
  | succ k ih => simp only [nTo, List.length_append]; have := numB_len (m.num k); omega
theorem mTo_len {m : MD} (h : m.Ok) (k : Nat) (hk : k ≤ 7) : (mTo m k).length ≤ 12 + 400 * k := by
  induction k with
  | zero => exact nTo_len m 4
  | succ k ih =>
    have h1 := ih (by omega)
    have h2 := listTo_len (m.lst k) (m.lst k).length
    have h3 := h.len k (by omega)
    simp only [mTo, List.length_append, listB]
    omega
theorem listTo_eq (l : List Int) : ∀ i, i ≤ l.length → listTo l i = numB (l.length : Int) ++ (l.take i).flatMap numB
  | 0, _ => by simp [listTo]
  | i + 1, h => by
    rw [listTo, listTo_eq l i (by omega), List.take_add_one, List.flatMap_append]
    simp [List.getD, show i < l.length by omega]
theorem listB_eq (l : List Int) : listB l = encL l := by rw [listB, listTo_eq l _ (Nat.le_refl _), List.take_length]; rfl
theorem mTo_eq (m : MD) : mTo m 7 = m.bytes := by
  simp only [mTo, nTo, listB_eq, MD.bytes, MD.lists, MD.lst, MD.num, List.flatMap_cons, List.flatMap_nil, List.append_nil, List.nil_append, List.append_assoc]
theorem MD.Ok.bytes_len {m : MD} (h : m.Ok) : m.bytes.length ≤ 3000 := by
  rw [← mTo_eq]; have := mTo_len h 7 (by omega); omega
theorem numB_bytes {n : Int} (h : -1000 ≤ n ∧ n ≤ 1000) : Bytes (numB n) := by
  have hu := numU_in h
  by_cases c : numU n < 128
  · rw [numB_one h c]; intro x hx; simp only [List.mem_cons, List.not_mem_nil, or_false] at hx; omega
  · rw [numB_two h (by omega)]; intro x hx; simp only [List.mem_cons, List.not_mem_nil, or_false] at hx; omega
theorem numB_ne {n : Int} (h : -1000 ≤ n ∧ n ≤ 1000) : 0 < (numB n).length := by
  have hu := numU_in h
  by_cases c : numU n < 128
  · rw [numB_one h c]; simp
  · rw [numB_two h (by omega)]; simp
theorem nTo_bytes {m : MD} (h : m.Ok) : ∀ k, Bytes (nTo m k)
  | 0 => fun x hx => by simp [nTo] at hx
  | k + 1 => (nTo_bytes h k).app (numB_bytes (h.num k))
theorem listTo_bytes {l : List Int} (hl : l.length ≤ 1000) (h : ∀ x, x ∈ l → -1000 ≤ x ∧ x ≤ 1000) : ∀ i, i ≤ l.length → Bytes (listTo l i)
  | 0, _ => numB_bytes (by omega)
  | i + 1, hi => (listTo_bytes hl h i (by omega)).app (numB_bytes (h _ (by rw [show l.getD i 0 = l[i] by simp [List.getD, show i < l.length by omega]]; exact List.getElem_mem _)))
theorem mTo_bytes {m : MD} (h : m.Ok) : ∀ k, k ≤ 7 → Bytes (mTo m k)
  | 0, _ => nTo_bytes h 4
  | k + 1, hk => (mTo_bytes h k (by omega)).app (listTo_bytes (by have := h.len k (by omega); omega) (h.elem k (by omega)) _ (Nat.le_refl _))
theorem MD.Ok.bytes {m : MD} (h : m.Ok) : Bytes m.bytes := by rw [← mTo_eq]; exact mTo_bytes h 7 (Nat.le_refl _)
theorem MD.Ok.bytes_ne {m : MD} (h : m.Ok) : 0 < m.bytes.length := by
  unfold MD.bytes
  simp only [List.flatMap_cons, List.length_append]
  have := numB_ne (h.num 0)
  simp only [MD.num] at this
  omega
end Go.Proofs.YtplkchmcojnimaaGreatDoor
