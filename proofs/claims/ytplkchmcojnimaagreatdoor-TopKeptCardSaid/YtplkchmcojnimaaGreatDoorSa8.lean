/-
  weftref1: packer.
  weftref1: ModelBytes.
-/
import Derived.Test.YtplkchmcojnimaaGreatDoorSa3
import Derived.Test.YtplkchmcojnimaaGreatDoorSa7
/-
  weftref1: packer.
-/
namespace Go.Proofs.YtplkchmcojnimaaGreatDoor
open Go.RowKit

structure PSt (base : Nat) (w : World) (wb : Nat) (v : Value) (acc : List Int) : Prop where
  blk : Blk w wb [v] 107
  row : w.ownsRow base 5 1 v acc.length (bys acc)
  ne : v.ownBlock ≠ some wb
/-- One byte more, at the place of the writer. -/
theorem PSt.app {base : Nat} {w w3 : World} {wb : Nat} {v : Value} {acc : List Int} (h : PSt base w wb v acc) (x : Int) (o : Obj) {g cap : Nat}
    (h3 : w3.ownsRow base 5 1 (.slice (some ⟨g, 0, none⟩) (acc.length + 1) cap) (acc.length + 1) (bys acc ++ [.int .u8 x])) (hg : (w.alloc o).grownBy w3 v.ownBlock) (hat : v.ownBlock = some g ∨ g = (w.alloc o).heap.size) :
    Blk w3 wb [v] 107 ∧ PSt base (w3.setCell ⟨wb, 0, none⟩ (.slice (some ⟨g, 0, none⟩) (acc.length + 1) cap)) wb (.slice (some ⟨g, 0, none⟩) (acc.length + 1) cap) (acc ++ [x]) ∧
      KW wb v w (.slice (some ⟨g, 0, none⟩) (acc.length + 1) cap) (w3.setCell ⟨wb, 0, none⟩ (.slice (some ⟨g, 0, none⟩) (acc.length + 1) cap)) := by
  have hb3 : Blk w3 wb [v] 107 := Blk.grown hg (h.blk.alloc o) (fun e => h.ne e.symm)
  have hlt := h.blk.lt
  have hsz := alloc_le w o
  have hgw : g ≠ wb := by
    rcases hat with a | a
    · intro e; exact h.ne (by rw [a, e])
    · omega
  refine ⟨hb3, ⟨hb3.set 0 _, ?_, by simp [Value.ownBlock, hgw]⟩, ⟨hg.os, hg.tape, hg.output, ?_, fun b hb hn hv => ?_, fun q hq => ?_⟩⟩
  · rw [List.length_append, bys, List.map_append]
    refine ⟨h3.1, ?_⟩
    rcases h3.2 with ⟨hv, _⟩ | ⟨g', cap', cur, hv, a3, a4, a5, a6, a7, a8⟩
    · cases hv
    · injection hv with e1 e2 e3
      injection e1 with e1
      injection e1 with e1
      subst e1 e3
      exact .inr ⟨g, cap, cur, rfl, a3, by rw [Below.heap_setCell _ _ _ _ hgw]; exact a4, a5, a6, a7, a8⟩
  · have := hg.size; simp [World.setCell]; omega
  · rw [Below.heap_setCell _ _ _ _ hn, hg.block b (by omega) (fun e => hv e.symm)]
    exact Below.heap_alloc _ _ _ hb
  · have : g = q := by simpa [Value.ownBlock] using hq
    subst this
    rcases hat with a | a
    · exact .inl a
    · right; omega
set_option maxRecDepth 100000 in
set_option maxHeartbeats 1600000 in
theorem pnum_any (base wb : Nat) (v : Value) (acc : List Int) (n : Int) (hn : -1000 ≤ n ∧ n ≤ 1000) (hacc : acc.length ≤ 100000) (w : World) (h : PSt base w wb v acc) (hbase : base ≤ w.heap.size) :
    Calls Tryz.prog 64 #[.pointer (some ⟨wb, 0, none⟩), .int .i64 n] w fun e w' => e = .returned (.tuple #[]) ∧ ∃ v', Hid (PSt base w' wb v' (acc ++ numB n)) ∧ Hid (KW wb v w v' w') := by
  have H := Lib.hid h
  have hu : 0 ≤ numU n ∧ numU n ≤ 2001 := by unfold numU; split <;> omega
  have HU := Lib.hid hu
  obtain ⟨i0, hi, hz0, hz1, hz2⟩ := info_parts info5
  clear h
  have eu : IntKind.u64.wrap (numU n) = numU n := by
    have : IntKind.u64.wrap (numU n) = numU n % 18446744073709551616 := by simp [IntKind.wrap, IntKind.signed, IntKind.bits]
    omega
  by_cases hneg : n < 0
  · have hneg' : decide (n < 0) = true := decide_eq_true hneg
    have e0 : IntKind.i64.wrap (2 * n) = 2 * n := IntWalk.i64_in _ (by omega)
    have e0' : wrap64 (2 * n) = 2 * n := by rw [← wrapEq]; exact e0
    have e1 : IntKind.i64.wrap (-2 * n) = -2 * n := IntWalk.i64_in _ (by omega)
    have e1' : wrap64 (-2 * n) = -2 * n := by rw [← wrapEq]; exact e1
    have hun : -2 * n - 1 = numU n := by unfold numU; rw [if_pos hneg]
    have e2 : IntKind.i64.wrap (-2 * n - 1) = numU n := by rw [hun]; exact IntWalk.i64_in _ (by omega)
    have e2' : wrap64 (-2 * n - 1) = numU n := by rw [← wrapEq]; exact e2
    clear hun hu
    go_enter Tryz.func64, Tryz.ntmps64
    go_wp2
    go_loopg [4] 2 (fun gk s4 wx => ∃ (u : Int) (acc1 : List Int) (v1 : Value), s4 = .int .u64 u ∧ 0 ≤ u ∧ (gk = 0 ∧ u < 128 ∨ gk = 1 ∧ u < 16384 ∨ gk = 2 ∧ u < 2097152) ∧ Hid (acc1 ++ numL gk u = acc ++ numB n) ∧ acc1.length ≤ 100000 + 3 - gk ∧ Hid (PSt base wx wb v1 acc1) ∧ Hid (KW wb v w v1 wx))
    case atStart => exact ⟨numU n, acc, v, rfl, HU.out.1, .inr (.inr ⟨rfl, by have := HU.out.2; omega⟩), Lib.hid rfl, by omega, H, Lib.hid (KW.refl _ _ _)⟩
    case round =>
      obtain ⟨u, acc1, v1, rfl, hu0, hgk, HEQ, hal, HW1, HK1⟩ := hrel
      obtain ⟨A1, c1, hv1⟩ := ownsRow_shape HW1.out.row
      subst hv1
      have cb : wr.cell? ⟨wb, 0, none⟩ = some (.slice A1 acc1.length c1) := by rw [HW1.out.blk.cell]; rfl
      have hw8 : IntKind.u8.wrap u = u % 256 := rfl
      have hb1 : acc1.length + 1 ≤ maxLen := by unfold maxLen; omega
      have hb2 : (acc1.length + 1) * 1 ≤ 140737488355328 := by omega
      have hsz := Nat.le_trans hbase HK1.out.size
      by_cases hc : 128 ≤ u
      · have hc' : decide (128 ≤ u) = true := decide_eq_true hc
        obtain ⟨m, rfl⟩ : ∃ m, gk = m + 1 := ⟨gk - 1, by omega⟩
        have hbo : bits BinOp.or IntKind.u8 (u % 256) 128 = byteOr u := rfl
        have HNL := Lib.hid (show numL (m + 1) u = byteOr u :: numL m (u / 128) by simp [numL, hc])
        generalize byteOr u = bo at hbo HNL
        go_wp2_with (at_builtin; refine wpList_append_lies _ rfl _ _ 34 rfl base 5 i0 (.int .u8 0) 1 1 Tryz.underlying34 hi hz0 hz1 hz2 rfl (by decide) _ acc1.length _ rfl (ownsRow_below HW1.out.row (Below.alloc (Below.refl _ _) (Nat.le_refl _) _)) ⟨wr.heap.size, 0, none⟩ 1 1 [.int .u8 bo] rfl rfl (news1' _ _ _) (one_int _ _) Nat.one_pos hb1 hb2 (Nat.le_trans hsz (alloc_le _ _)) _ rfl ?_; intro g3 cap3 w3 hown3 hgrow3 hat3 hlt3; have HAPP := Lib.hid (PSt.app HW1.out bo _ hown3 hgrow3 hat3); have cb3 := HAPP.out.1.cell; have fb3 := HAPP.out.1.frozen; clear hown3 hgrow3 hat3 hlt3)
        go_roundg m
        case measure => omega
        case rel => exact ⟨u / 128, acc1 ++ [bo], _, by first | rfl | (congr 1), by omega, by omega, Lib.hid (by rw [← HEQ.out, HNL.out]; simp), by simp; omega, Lib.hid HAPP.out.2.1, Lib.hid (HK1.out.trans HAPP.out.2.2)⟩
      · have hc' : decide (128 ≤ u) = false := decide_eq_false hc
        have HNL := Lib.hid (show numL gk u = [u % 256] by cases gk <;> simp [numL, hc])
        generalize u % 256 = bo at hw8 HNL
        go_wp2_with (at_builtin; refine wpList_append_lies _ rfl _ _ 34 rfl base 5 i0 (.int .u8 0) 1 1 Tryz.underlying34 hi hz0 hz1 hz2 rfl (by decide) _ acc1.length _ rfl (ownsRow_below HW1.out.row (Below.alloc (Below.refl _ _) (Nat.le_refl _) _)) ⟨wr.heap.size, 0, none⟩ 1 1 [.int .u8 bo] rfl rfl (news1' _ _ _) (one_int _ _) Nat.one_pos hb1 hb2 (Nat.le_trans hsz (alloc_le _ _)) _ rfl ?_; intro g3 cap3 w3 hown3 hgrow3 hat3 hlt3; have HAPP := Lib.hid (PSt.app HW1.out bo _ hown3 hgrow3 hat3); have cb3 := HAPP.out.1.cell; have fb3 := HAPP.out.1.frozen; clear hown3 hgrow3 hat3 hlt3)
        go_end0
        exact ⟨rfl, _, Lib.hid (by rw [← HEQ.out, HNL.out]; exact HAPP.out.2.1), Lib.hid (HK1.out.trans HAPP.out.2.2)⟩
  · have hneg' : decide (n < 0) = false := decide_eq_false hneg
    have e1 : IntKind.i64.wrap (2 * n) = numU n := by rw [IntWalk.i64_in _ (by omega)]; unfold numU; rw [if_neg hneg]
    have e1' : wrap64 (2 * n) = numU n := by rw [← wrapEq]; exact e1
    clear hu
    go_enter Tryz.func64, Tryz.ntmps64
    go_wp2
    go_loopg [4] 2 (fun gk s4 wx => ∃ (u : Int) (acc1 : List Int) (v1 : Value), s4 = .int .u64 u ∧ 0 ≤ u ∧ (gk = 0 ∧ u < 128 ∨ gk = 1 ∧ u < 16384 ∨ gk = 2 ∧ u < 2097152) ∧ Hid (acc1 ++ numL gk u = acc ++ numB n) ∧ acc1.length ≤ 100000 + 3 - gk ∧ Hid (PSt base wx wb v1 acc1) ∧ Hid (KW wb v w v1 wx))
    case atStart => exact ⟨numU n, acc, v, rfl, HU.out.1, .inr (.inr ⟨rfl, by have := HU.out.2; omega⟩), Lib.hid rfl, by omega, H, Lib.hid (KW.refl _ _ _)⟩
    case round =>
      obtain ⟨u, acc1, v1, rfl, hu0, hgk, HEQ, hal, HW1, HK1⟩ := hrel
      obtain ⟨A1, c1, hv1⟩ := ownsRow_shape HW1.out.row
      subst hv1
      have cb : wr.cell? ⟨wb, 0, none⟩ = some (.slice A1 acc1.length c1) := by rw [HW1.out.blk.cell]; rfl
      have hw8 : IntKind.u8.wrap u = u % 256 := rfl
      have hb1 : acc1.length + 1 ≤ maxLen := by unfold maxLen; omega
      have hb2 : (acc1.length + 1) * 1 ≤ 140737488355328 := by omega
      have hsz := Nat.le_trans hbase HK1.out.size
      by_cases hc : 128 ≤ u
      · have hc' : decide (128 ≤ u) = true := decide_eq_true hc
        obtain ⟨m, rfl⟩ : ∃ m, gk = m + 1 := ⟨gk - 1, by omega⟩
        have hbo : bits BinOp.or IntKind.u8 (u % 256) 128 = byteOr u := rfl
        have HNL := Lib.hid (show numL (m + 1) u = byteOr u :: numL m (u / 128) by simp [numL, hc])
        generalize byteOr u = bo at hbo HNL
        go_wp2_with (at_builtin; refine wpList_append_lies _ rfl _ _ 34 rfl base 5 i0 (.int .u8 0) 1 1 Tryz.underlying34 hi hz0 hz1 hz2 rfl (by decide) _ acc1.length _ rfl (ownsRow_below HW1.out.row (Below.alloc (Below.refl _ _) (Nat.le_refl _) _)) ⟨wr.heap.size, 0, none⟩ 1 1 [.int .u8 bo] rfl rfl (news1' _ _ _) (one_int _ _) Nat.one_pos hb1 hb2 (Nat.le_trans hsz (alloc_le _ _)) _ rfl ?_; intro g3 cap3 w3 hown3 hgrow3 hat3 hlt3; have HAPP := Lib.hid (PSt.app HW1.out bo _ hown3 hgrow3 hat3); have cb3 := HAPP.out.1.cell; have fb3 := HAPP.out.1.frozen; clear hown3 hgrow3 hat3 hlt3)
        go_roundg m
        case measure => omega
        case rel => exact ⟨u / 128, acc1 ++ [bo], _, by first | rfl | (congr 1), by omega, by omega, Lib.hid (by rw [← HEQ.out, HNL.out]; simp), by simp; omega, Lib.hid HAPP.out.2.1, Lib.hid (HK1.out.trans HAPP.out.2.2)⟩
      · have hc' : decide (128 ≤ u) = false := decide_eq_false hc
        have HNL := Lib.hid (show numL gk u = [u % 256] by cases gk <;> simp [numL, hc])
        generalize u % 256 = bo at hw8 HNL
        go_wp2_with (at_builtin; refine wpList_append_lies _ rfl _ _ 34 rfl base 5 i0 (.int .u8 0) 1 1 Tryz.underlying34 hi hz0 hz1 hz2 rfl (by decide) _ acc1.length _ rfl (ownsRow_below HW1.out.row (Below.alloc (Below.refl _ _) (Nat.le_refl _) _)) ⟨wr.heap.size, 0, none⟩ 1 1 [.int .u8 bo] rfl rfl (news1' _ _ _) (one_int _ _) Nat.one_pos hb1 hb2 (Nat.le_trans hsz (alloc_le _ _)) _ rfl ?_; intro g3 cap3 w3 hown3 hgrow3 hat3 hlt3; have HAPP := Lib.hid (PSt.app HW1.out bo _ hown3 hgrow3 hat3); have cb3 := HAPP.out.1.cell; have fb3 := HAPP.out.1.frozen; clear hown3 hgrow3 hat3 hlt3)
        go_end0
        exact ⟨rfl, _, Lib.hid (by rw [← HEQ.out, HNL.out]; exact HAPP.out.2.1), Lib.hid (HK1.out.trans HAPP.out.2.2)⟩
set_option maxRecDepth 100000 in
set_option maxHeartbeats 1600000 in
theorem plist_any (base wb : Nat) (v : Value) (acc l : List Int) (A : Option Addr) (c n : Nat) (hn : n = l.length) (hl : n ≤ 100) (hin : ∀ x, x ∈ l → -1000 ≤ x ∧ x ≤ 1000) (hacc : acc.length ≤ 90000) (w : World) (h : PSt base w wb v acc) (hbase : base ≤ w.heap.size) (hwb : base ≤ wb)
    (hr : Rd w (.slice A n c) l) (hb : ∀ b, (Value.slice A n c).ownBlock = some b → b < base) :
    Calls Tryz.prog 65 #[.pointer (some ⟨wb, 0, none⟩), .slice A n c] w fun e w' => e = .returned (.tuple #[]) ∧ ∃ v', Hid (PSt base w' wb v' (acc ++ listB l)) ∧ Hid (KW wb v w v' w') := by
  subst hn
  have H := Lib.hid h
  have HR := Lib.hid hr
  have HIN := Lib.hid hin
  have HB := Lib.hid hb
  have hc1 := pnum_any base wb v acc l.length (by omega) (by omega) w h hbase
  have HC1 := Lib.hid hc1
  have HNX := Lib.hid (fun (wx : World) (hb : base ≤ wx.heap.size) (v1 : Value) (acc1 : List Int) (h1 : PSt base wx wb v1 acc1) (x : Int) (hx : -1000 ≤ x ∧ x ≤ 1000) (hal : acc1.length ≤ 100000) => pnum_any base wb v1 acc1 x hx hal wx h1 hb)
  clear h hr hin hc1 hb
  go_enter Tryz.func65, Tryz.ntmps65
  go_wp2_with (go_at_call 64; refine HC1.out.mono ?_; rintro e w1 ⟨rfl, v1, HW1, HK1⟩)
  go_loopg [12] l.length (fun gk s12 wx => ∃ (i : Nat) (v2 : Value), s12 = .int .i64 i ∧ i ≤ l.length ∧ Hid (PSt base wx wb v2 (acc ++ listTo l i)) ∧ Hid (KW wb v w v2 wx) ∧ gk = l.length - i)
  case atStart => exact ⟨0, v1, rfl, by omega, HW1, HK1, rfl⟩
  case round =>
    obtain ⟨i, v2, rfl, hi, HW2, HK2, rfl⟩ := hrel
    by_cases hlt : i < l.length
    · have hbel : Below base w wr := HK2.out.below hbase hwb (ownsRow_base H.out.row)
      obtain ⟨b, o, hA, c1⟩ := (HR.out.base hbel HB.out).at hlt
      subst hA
      have hm : l.getD i 0 ∈ l := by rw [show l.getD i 0 = l[i] by simp [List.getD, hlt]]; exact List.getElem_mem hlt
      have hx := HIN.out _ hm
      have HT := Lib.hid (show listTo l (i + 1) = listTo l i ++ numB (l.getD i 0) from rfl)
      have hll := listTo_len l i
      generalize l.getD i 0 = x at c1 hx HT
      have HCX := Lib.hid (HNX.out wr (Nat.le_trans hbase HK2.out.size) v2 _ HW2.out x hx (by rw [List.length_append]; omega))
      clear hm hx hll hbel
      go_wp2_with (go_at_call 64; refine HCX.out.mono ?_; rintro e w3 ⟨rfl, v3, HW3, HK3⟩)
      go_roundg (l.length - (i + 1))
      case measure => omega
      case rel => exact ⟨i + 1, v3, by go_num, by omega, Lib.hid (by rw [HT.out, ← List.append_assoc]; exact HW3.out), Lib.hid (HK2.out.trans HK3.out), rfl⟩
    · have : i = l.length := by omega
      subst this
      go_wp2
      go_end0
      exact ⟨rfl, v2, HW2, HK2⟩
end Go.Proofs.YtplkchmcojnimaaGreatDoor
/-
  weftref1: ModelBytes.
-/
namespace Go.Proofs.YtplkchmcojnimaaGreatDoor
open Go.RowKit

def lCells (m : MD) (p : MP) : List Value := [.slice p.cuts.A m.cuts.length p.cuts.c, .slice p.embed.A m.embed.length p.embed.c, .slice p.place.A m.place.length p.place.c,
  .slice p.mix.A m.mix.length p.mix.c, .slice p.out.A m.out.length p.out.c, .slice p.soft.A m.soft.length p.soft.c, .slice p.odds.A m.odds.length p.odds.c]
theorem lCells_ith (m : MD) (p : MP) : ∀ i, i < 7 → (lCells m p)[i]? = some (.slice (p.pl i).A (m.lst i).length (p.pl i).c) :=
  seven rfl rfl rfl rfl rfl rfl rfl
set_option maxRecDepth 100000 in
set_option maxHeartbeats 3200000 in
theorem packed_any (m : MD) (p : MP) (hm : m.Ok) (w : World) (h : MAt w m p) : Calls Tryz.prog 38 #[.agg (mCells m p).toArray] w fun e w' => ∃ A c, e = .returned (.slice A m.bytes.length c) ∧ Hid (Below w.heap.size w w') ∧ Hid (w'.ownsRow w.heap.size 5 1 (.slice A m.bytes.length c) m.bytes.length (bys m.bytes)) := by
  obtain ⟨w3, hw3, hb3, hk0, hk1, hk2, hs3⟩ : ∃ w3, ((w.alloc (.cells (mCells m p).toArray 27)).alloc (.cells #[.slice none 0 0] 107)).alloc (.cells #[.int .i64 m.kind, .int .i64 m.vocab, .int .i64 m.width, .int .i64 m.top] 3) = w3 ∧ Below w.heap.size w w3 ∧ Blk w3 w.heap.size (mCells m p) 27 ∧ Blk w3 (w.heap.size + 1) [.slice none 0 0] 107 ∧ Blk w3 (w.heap.size + 1 + 1) (ints [m.kind, m.vocab, m.width, m.top]) 3 ∧ w3.heap.size = w.heap.size + 3 := by
    refine ⟨_, rfl, ?_, ?_, ?_, ?_, ?_⟩
    · exact (((Below.refl _ _).alloc (Nat.le_refl _) _).alloc (by simp only [World.size_alloc]; omega) _).alloc (by simp only [World.size_alloc]; omega) _
    · exact ((news_blk w (mCells m p) 27).alloc _).alloc _
    · have := (news_blk (w.alloc (.cells (mCells m p).toArray 27)) [.slice none 0 0] 107).alloc (.cells #[.int .i64 m.kind, .int .i64 m.vocab, .int .i64 m.width, .int .i64 m.top] 3)
      simp only [World.size_alloc] at this
      exact this
    · have := news_blk ((w.alloc (.cells (mCells m p).toArray 27)).alloc (.cells #[.slice none 0 0] 107)) (ints [m.kind, m.vocab, m.width, m.top]) 3
      simp only [World.size_alloc] at this
      exact this
    · simp only [World.size_alloc]
  have HW3 := Lib.hid hw3
  have HB3 := Lib.hid hb3
  have HK0 := Lib.hid hk0
  have HK1 := Lib.hid hk1
  have HK2 := Lib.hid hk2
  have HS3 := Lib.hid hs3
  have HD := Lib.hid h
  have HM := Lib.hid hm
  clear hb3 hk0 hk1 hk2 hs3 h hm
  simp only [mCells] at hw3 ⊢
  go_enter Tryz.func38, Tryz.ntmps38
  go_upto_region 3 with fail
  have HNX := Lib.hid (fun (wx : World) (hb : w.heap.size ≤ wx.heap.size) (v1 : Value) (acc1 : List Int) (h1 : PSt w.heap.size wx (w.heap.size + 1) v1 acc1) (x : Int) (hx : -1000 ≤ x ∧ x ≤ 1000) (hal : acc1.length ≤ 100000) => pnum_any w.heap.size (w.heap.size + 1) v1 acc1 x hx hal wx h1 hb)
  clear hw3
  go_loopg [20] 4 (fun gk s20 wx => ∃ (k : Nat) (v : Value), s20 = .int .i64 k ∧ k ≤ 4 ∧ Hid (PSt w.heap.size wx (w.heap.size + 1) v (nTo m k)) ∧ Hid (KW (w.heap.size + 1) (.slice none 0 0) w3 v wx) ∧ gk = 4 - k)
  case atStart => exact ⟨0, .slice none 0 0, rfl, by omega, Lib.hid ⟨HK1.out, World.ownsRow_nil _ _ _ _, by simp [Value.ownBlock]⟩, Lib.hid (KW.refl _ _ _), rfl⟩
  case round =>
    obtain ⟨k, v, rfl, hk, HW, HK, rfl⟩ := hrel
    have hsz : w.heap.size ≤ wr.heap.size := by have := HS3.out; have := HK.out.size; omega
    by_cases hlt : k < 4
    · have hl2 := HK2.out.lt
      have c1 : wr.cell? ⟨w.heap.size + 1 + 1, k, none⟩ = some (.int .i64 (m.num k)) := by
        rw [World.cell?_of_block (a := ⟨w.heap.size + 1 + 1, k, none⟩) (w := w3) (HK.out.block (w.heap.size + 1 + 1) hl2 (by omega) (by simp [Value.ownBlock])), HK2.out.cell]
        have : k = 0 ∨ k = 1 ∨ k = 2 ∨ k = 3 := by omega
        rcases this with rfl | rfl | rfl | rfl <;> rfl
      have hx := HM.out.num k
      have HC := Lib.hid (HNX.out wr hsz v _ HW.out (m.num k) hx (by have := nTo_len m k; omega))
      have HT := Lib.hid (show nTo m (k + 1) = nTo m k ++ numB (m.num k) from rfl)
      generalize m.num k = x at c1 HC HT
      clear hx hl2
      go_wp2_with (go_at_call 64; refine HC.out.mono ?_; rintro e w4 ⟨rfl, v4, HW4, HK4⟩)
      go_roundg (4 - (k + 1))
      case measure => omega
      case rel => exact ⟨k + 1, v4, by go_num, by omega, Lib.hid (by rw [HT.out]; exact HW4.out), Lib.hid (HK.out.trans HK4.out), rfl⟩
    · have : k = 4 := by omega
      subst this
      obtain ⟨w4, rfl⟩ : ∃ w4, w4 = wr := ⟨_, rfl⟩
      have HKB := Lib.hid (HK.out.below (base := w.heap.size) (by have := HS3.out; omega) (by omega) (fun g hg => by simp [Value.ownBlock] at hg))
      have hbx : Blk w4 w.heap.size (mCells m p) 27 := by
        have hl := HK0.out.lt
        have h0 := HK0.out
        unfold Blk at h0 ⊢
        rw [HK.out.block w.heap.size hl (by omega) (by simp [Value.ownBlock])]; exact h0
      have HBX := Lib.hid hbx
      clear hbx
      have q4 := HBX.out.cell
      simp only [mCells] at q4
      obtain ⟨w5, hw5, hb5, hp5⟩ : ∃ w5, w4.alloc (.cells (lCells m p).toArray 22) = w5 ∧ Below w4.heap.size w4 w5 ∧ Blk w5 w4.heap.size (lCells m p) 22 := ⟨_, rfl, (Below.refl _ _).alloc (Nat.le_refl _) _, news_blk w4 (lCells m p) 22⟩
      have HB5 := Lib.hid hb5
      have HP5 := Lib.hid hp5
      simp only [lCells] at hw5
      clear hb5 hp5
      go_upto_region 8 with fail
      clear q4 hw5
      have HW5 := Lib.hid (show PSt w.heap.size w5 (w.heap.size + 1) v (nTo m 4) from ⟨HW.out.blk.below HB5.out, ownsRow_below HW.out.row HB5.out, HW.out.ne⟩)
      have HBX5 := Lib.hid (HBX.out.below HB5.out)
      have HVG := Lib.hid (show ∀ g, v.ownBlock = some g → w.heap.size + 1 < g ∧ g < w4.heap.size from fun g hg => ⟨by
        rcases HK.out.new g hg with a | a
        · simp [Value.ownBlock] at a
        · have := HS3.out; omega, (HW.out.row.lt g hg).2⟩)
      go_loopg [44] 7 (fun gk s44 wx => ∃ (k : Nat) (v7 : Value), s44 = .int .i64 k ∧ k ≤ 7 ∧ Hid (PSt w.heap.size wx (w.heap.size + 1) v7 (mTo m k)) ∧ Hid (KW (w.heap.size + 1) v w5 v7 wx) ∧ gk = 7 - k)
      case atStart => exact ⟨0, v, rfl, by omega, HW5, Lib.hid (KW.refl _ _ _), rfl⟩
      case round =>
        obtain ⟨k, v7, rfl, hk, HW7, HK7, rfl⟩ := hrel
        have hsz7 : w.heap.size ≤ wr.heap.size := by have := HK7.out.size; have := HB5.out.size; have := HK.out.size; have := HS3.out; omega
        have HBB := Lib.hid (show Below w.heap.size w wr from HB3.out.trans (HKB.out.trans ((HB5.out.mono (by have := HK.out.size; have := HS3.out; omega)).trans (HK7.out.below (by have := HB5.out.size; have := HK.out.size; have := HS3.out; omega) (by omega) (fun g hg => by have := (HVG.out g hg).1; omega)))))
        by_cases hlt : k < 7
        · have hg5 : w4.heap.size < w5.heap.size := HP5.out.lt
          have c1 : wr.cell? ⟨w4.heap.size, k, none⟩ = some (.slice (p.pl k).A (m.lst k).length (p.pl k).c) := by
            rw [World.cell?_of_block (a := ⟨w4.heap.size, k, none⟩) (w := w5) (HK7.out.block w4.heap.size hg5 (by have := HW.out.blk.lt; omega) (fun e => by have := (HVG.out _ e).2; omega)), HP5.out.cell]
            exact lCells_ith m p k hlt
          have hdk := HD.out.ith k hlt
          have hbnd := HM.out.len k hlt
          have hlt0 := HD.out.lt HM.out k hlt
          have HC := Lib.hid (plist_any w.heap.size (w.heap.size + 1) v7 (mTo m k) (m.lst k) (p.pl k).A (p.pl k).c (m.lst k).length rfl (by omega) (HM.out.elem k hlt) (by have := mTo_len HM.out k (by omega); omega) wr HW7.out hsz7 (by omega) (hdk.base HBB.out hlt0) hlt0)
          have HT := Lib.hid (show mTo m (k + 1) = mTo m k ++ listB (m.lst k) from rfl)
          clear hg5 hdk hbnd hlt0
          go_wp2_with (go_at_call 65; refine HC.out.mono ?_; rintro e w8 ⟨rfl, v8, HW8, HK8⟩)
          go_roundg (7 - (k + 1))
          case measure => omega
          case rel => exact ⟨k + 1, v8, by go_num, by omega, Lib.hid (by rw [HT.out]; exact HW8.out), Lib.hid (HK7.out.trans HK8.out), rfl⟩
        · have : k = 7 := by omega
          subst this
          have cb : wr.cell? ⟨w.heap.size + 1, 0, none⟩ = some v7 := by rw [HW7.out.blk.cell]; rfl
          have hrow := HW7.out.row
          rw [mTo_eq] at hrow
          have HROW := Lib.hid hrow
          clear hrow
          obtain ⟨A, c, hv7⟩ := ownsRow_shape HROW.out
          subst hv7
          go_wp2
          go_ret
          exact ⟨A, c, rfl, HBB, HROW⟩
end Go.Proofs.YtplkchmcojnimaaGreatDoor
