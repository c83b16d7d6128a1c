/-
  num.Code.
  models: bytesOf.
-/
import Derived.Test.YtplkchmcojnimaaGreatDoorSa1
import Derived.Test.YtplkchmcojnimaaGreatDoorSa3
/-
  num.Code.
-/
namespace Go.Proofs.YtplkchmcojnimaaGreatDoor
open Go.RowKit

set_option maxRecDepth 100000 in
set_option maxHeartbeats 800000 in
theorem code_any (l : List Int) (A : Option Addr) (c : Nat) (w : World) (h : RdV w (.slice A l.length c) (bys l)) : Calls Tryz.prog 27 #[.slice A l.length c] w fun e w' => e = .returned (.int .i64 (crcOf l)) ∧ w' = w := by
  have hlm : l.length ≤ maxLen := by
    obtain ⟨A', c', hv, h1, h2, -⟩ := h
    rw [bys_length] at h1
    omega
  unfold maxLen at hlm
  have HLM := Lib.hid hlm
  have H := Lib.hid h
  clear h hlm
  go_enter Tryz.func27, Tryz.ntmps27
  go_wp2
  go_loopg [3, 8] l.length (fun gk s3 s8 wx => ∃ i : Nat, s8 = .int .i64 i ∧ i ≤ l.length ∧ s3 = .int .u32 (crcTo l i) ∧ wx = w ∧ gk = l.length - i)
  case atStart => exact ⟨0, rfl, Nat.zero_le _, rfl, rfl, rfl⟩
  case round =>
    obtain ⟨i, rfl, hil, rfl, rfl, rfl⟩ := hrel
    by_cases hlt : i < l.length
    · obtain ⟨b, o, c', hv, hcell⟩ := H.out.get (i := i) (by rw [bys_length]; exact hlt)
      have hA : A = some ⟨b, o, none⟩ := by injection hv
      subst hA
      have hcell2 : wr.cell? ⟨b, o + i, none⟩ = some (.int .u8 (l.getD i 0)) := by rw [hcell]; simp [bys, List.getD, hlt]
      clear hv hcell
      generalize hli : l.getD i 0 = li at hcell2
      have HLI := Lib.hid hli
      clear hli
      go_wp2
      go_loopg [3, 16] 8 (fun gk s3 s16 wx => ∃ j : Nat, s16 = .int .i64 j ∧ j ≤ 8 ∧ s3 = .int .u32 (crcBits j (bits BinOp.xor IntKind.u32 (crcTo l i) (li % 4294967296))) ∧ wx = wr ∧ gk = 8 - j)
      case atStart => exact ⟨0, rfl, Nat.zero_le _, rfl, rfl, rfl⟩
      case round =>
        obtain ⟨j, rfl, hj, rfl, rfl, rfl⟩ := hrel
        by_cases hj8 : j < 8
        · have tj : ((j : Nat) : Int) < 8 := by omega
          generalize hy : crcBits j (bits BinOp.xor IntKind.u32 (crcTo l i) (li % 4294967296)) = y
          have hy1 : crcBits (j + 1) (bits BinOp.xor IntKind.u32 (crcTo l i) (li % 4294967296)) = crcBit y := by rw [← hy]; rfl
          have HY := Lib.hid hy1
          clear hy hy1
          by_cases hb : (bits BinOp.and IntKind.u32 y 1 == 1) = true
          · have hbit : crcBit y = bits BinOp.xor IntKind.u32 (y / 2) 3988292384 := by unfold crcBit; rw [if_pos hb]
            have HBIT := Lib.hid hbit
            clear hbit
            go_wp2
            go_roundg (8 - (j + 1))
            case measure => omega
            case rel => exact ⟨j + 1, by go_num, by omega, by rw [HY.out, HBIT.out], rfl, rfl⟩
          · have hbit : crcBit y = y / 2 := by unfold crcBit; rw [if_neg hb]
            have HBIT := Lib.hid hbit
            have hb' : (bits BinOp.and IntKind.u32 y 1 == 1) = false := by simpa using hb
            clear hbit hb
            go_wp2
            go_roundg (8 - (j + 1))
            case measure => omega
            case rel => exact ⟨j + 1, by go_num, by omega, by rw [HY.out, HBIT.out], rfl, rfl⟩
        · have : j = 8 := by omega
          subst this
          have hx : crcTo l (i + 1) = crcBits 8 (bits BinOp.xor IntKind.u32 (crcTo l i) (li % 4294967296)) := by rw [← HLI.out]; rfl
          have HX := Lib.hid hx
          clear hx
          go_wp2
          go_roundg (l.length - (i + 1))
          case measure => omega
          case rel => exact ⟨i + 1, by have := HLM.out; have e : wrap64 ((i : Int) + 1) = (i : Int) + 1 := (by unfold wrap64; omega); rw [e]; go_num, by omega, by rw [HX.out], rfl, rfl⟩
    · have hi : i = l.length := by omega
      subst hi
      go_wp2
      go_ret
      exact ⟨rfl, rfl⟩
end Go.Proofs.YtplkchmcojnimaaGreatDoor
/-
  models: bytesOf.
-/
namespace Go.Proofs.YtplkchmcojnimaaGreatDoor
open Go.RowKit

theorem MAt.lt {w : World} {m : MD} {p : MP} (h : MAt w m p) (hm : m.Ok) : ∀ i, i < 7 → ∀ b, (Value.slice (p.pl i).A (m.lst i).length (p.pl i).c).ownBlock = some b → b < w.heap.size :=
  fun i hi => (h.ith i hi).lt (hm.len i hi).1
set_option maxRecDepth 100000 in
set_option maxHeartbeats 3200000 in
theorem bytesOf_any (m : MD) (p : MP) (hm : m.Ok) (w : World) (h : MAt w m p) : Calls Tryz.prog 26 #[.agg (mCells m p).toArray] w fun e w' => ∃ A c, e = .returned (.slice A m.bytes.length c) ∧ Hid (Below w.heap.size w w') ∧ Hid (w'.ownsRow w.heap.size 5 1 (.slice A m.bytes.length c) m.bytes.length (bys m.bytes)) := by
  obtain ⟨w3, hw3, hb3, hk0, hk1, hk2, hs3⟩ : ∃ w3, ((w.alloc (.cells (mCells m p).toArray 27)).alloc (.cells #[.slice none 0 0] 82)).alloc (.cells #[.int .i64 m.kind, .int .i64 m.vocab, .int .i64 m.width, .int .i64 m.top] 3) = w3 ∧ Below w.heap.size w w3 ∧ Blk w3 w.heap.size (mCells m p) 27 ∧ Blk w3 (w.heap.size + 1) [.slice none 0 0] 82 ∧ Blk w3 (w.heap.size + 1 + 1) (ints [m.kind, m.vocab, m.width, m.top]) 3 ∧ w3.heap.size = w.heap.size + 3 := by
    refine ⟨_, rfl, ?_, ?_, ?_, ?_, ?_⟩
    · exact (((Below.refl _ _).alloc (Nat.le_refl _) _).alloc (by simp only [World.size_alloc]; omega) _).alloc (by simp only [World.size_alloc]; omega) _
    · exact ((news_blk w (mCells m p) 27).alloc _).alloc _
    · have := (news_blk (w.alloc (.cells (mCells m p).toArray 27)) [.slice none 0 0] 82).alloc (.cells #[.int .i64 m.kind, .int .i64 m.vocab, .int .i64 m.width, .int .i64 m.top] 3)
      simp only [World.size_alloc] at this
      exact this
    · have := news_blk ((w.alloc (.cells (mCells m p).toArray 27)).alloc (.cells #[.slice none 0 0] 82)) (ints [m.kind, m.vocab, m.width, m.top]) 3
      simp only [World.size_alloc] at this
      exact this
    · simp only [World.size_alloc]
  have HW3 := Lib.hid hw3
  have HB3 := Lib.hid hb3
  have HK0 := Lib.hid hk0
  have HK1 := Lib.hid hk1
  have HK2 := Lib.hid hk2
  have HS3 := Lib.hid hs3
  have HD := Lib.hid h
  have HM := Lib.hid hm
  clear hb3 hk0 hk1 hk2 hs3 h hm
  simp only [mCells] at hw3 ⊢
  go_enter Tryz.func26, Tryz.ntmps26
  go_upto_region 3 with fail
  have HNX := Lib.hid (fun (wx : World) (hb : w.heap.size ≤ wx.heap.size) (v1 : Value) (acc1 : List Int) (h1 : WSt w.heap.size wx (w.heap.size + 1) v1 acc1) (x : Int) (hx : -1000 ≤ x ∧ x ≤ 1000) (hal : acc1.length ≤ 100000) => number_any w.heap.size (w.heap.size + 1) v1 acc1 x hx hal wx h1 hb)
  clear hw3
  go_loopg [18] 4 (fun gk s18 wx => ∃ (k : Nat) (v : Value), s18 = .int .i64 k ∧ k ≤ 4 ∧ Hid (WSt w.heap.size wx (w.heap.size + 1) v (nTo m k)) ∧ Hid (KW (w.heap.size + 1) (.slice none 0 0) w3 v wx) ∧ gk = 4 - k)
  case atStart => exact ⟨0, .slice none 0 0, rfl, by omega, Lib.hid ⟨HK1.out, World.ownsRow_nil _ _ _ _, by simp [Value.ownBlock]⟩, Lib.hid (KW.refl _ _ _), rfl⟩
  case round =>
    obtain ⟨k, v, rfl, hk, HW, HK, rfl⟩ := hrel
    have hsz : w.heap.size ≤ wr.heap.size := by have := HS3.out; have := HK.out.size; omega
    by_cases hlt : k < 4
    · have hl2 := HK2.out.lt
      have c1 : wr.cell? ⟨w.heap.size + 1 + 1, k, none⟩ = some (.int .i64 (m.num k)) := by
        rw [World.cell?_of_block (a := ⟨w.heap.size + 1 + 1, k, none⟩) (w := w3) (HK.out.block (w.heap.size + 1 + 1) hl2 (by omega) (by simp [Value.ownBlock])), HK2.out.cell]
        have : k = 0 ∨ k = 1 ∨ k = 2 ∨ k = 3 := by omega
        rcases this with rfl | rfl | rfl | rfl <;> rfl
      have hx := HM.out.num k
      have HC := Lib.hid (HNX.out wr hsz v _ HW.out (m.num k) hx (by have := nTo_len m k; omega))
      have HT := Lib.hid (show nTo m (k + 1) = nTo m k ++ numB (m.num k) from rfl)
      generalize m.num k = x at c1 HC HT
      clear hx hl2
      go_wp2_with (go_at_call 52; refine HC.out.mono ?_; rintro e w4 ⟨rfl, v4, HW4, HK4⟩)
      go_roundg (4 - (k + 1))
      case measure => omega
      case rel => exact ⟨k + 1, v4, by go_num, by omega, Lib.hid (by rw [HT.out]; exact HW4.out), Lib.hid (HK.out.trans HK4.out), rfl⟩
    · have : k = 4 := by omega
      subst this
      obtain ⟨w4, rfl⟩ : ∃ w4, w4 = wr := ⟨_, rfl⟩
      have HKB := Lib.hid (HK.out.below (base := w.heap.size) (by have := HS3.out; omega) (by omega) (fun g hg => by simp [Value.ownBlock] at hg))
      have HLS : Hid (Calls Tryz.prog 53 #[.pointer (some ⟨w.heap.size, 0, none⟩)] w4 fun e w' => ∃ g, e = .returned (.slice (some ⟨g, 0, none⟩) 7 7) ∧ Hid (Below w4.heap.size w4 w') ∧ Hid (Blk w' g [.pointer (some ⟨w.heap.size, 4, none⟩), .pointer (some ⟨w.heap.size, 5, none⟩), .pointer (some ⟨w.heap.size, 6, none⟩), .pointer (some ⟨w.heap.size, 7, none⟩), .pointer (some ⟨w.heap.size, 8, none⟩), .pointer (some ⟨w.heap.size, 9, none⟩), .pointer (some ⟨w.heap.size, 10, none⟩)] 87 ∧ w4.heap.size ≤ g)) := Lib.hid (lists_any w.heap.size w4)
      have hbx : Blk w4 w.heap.size (mCells m p) 27 := by
        have hl := HK0.out.lt
        have h0 := HK0.out
        unfold Blk at h0 ⊢
        rw [HK.out.block w.heap.size hl (by omega) (by simp [Value.ownBlock])]; exact h0
      have HBX := Lib.hid hbx
      clear hbx
      go_wp2_with (go_at_call 53; refine HLS.out.mono ?_; rintro e w5 ⟨g5, rfl, HB5, HP5⟩)
      have HW5 := Lib.hid (show WSt w.heap.size w5 (w.heap.size + 1) v (nTo m 4) from ⟨HW.out.blk.below HB5.out, ownsRow_below HW.out.row HB5.out, HW.out.ne⟩)
      have HBX5 := Lib.hid (HBX.out.below HB5.out)
      have HVG := Lib.hid (show ∀ g, v.ownBlock = some g → w.heap.size + 1 < g ∧ g < w4.heap.size from fun g hg => ⟨by
        rcases HK.out.new g hg with a | a
        · simp [Value.ownBlock] at a
        · have := HS3.out; omega, (HW.out.row.lt g hg).2⟩)
      go_loopg [27] 7 (fun gk s27 wx => ∃ (k : Nat) (v7 : Value), s27 = .int .i64 k ∧ k ≤ 7 ∧ Hid (WSt w.heap.size wx (w.heap.size + 1) v7 (mTo m k)) ∧ Hid (KW (w.heap.size + 1) v w5 v7 wx) ∧ gk = 7 - k)
      case atStart => exact ⟨0, v, rfl, by omega, HW5, Lib.hid (KW.refl _ _ _), rfl⟩
      case round =>
        obtain ⟨k, v7, rfl, hk, HW7, HK7, rfl⟩ := hrel
        have hsz7 : w.heap.size ≤ wr.heap.size := by have := HK7.out.size; have := HB5.out.size; have := HK.out.size; have := HS3.out; omega
        have HBB := Lib.hid (show Below w.heap.size w wr from HB3.out.trans (HKB.out.trans ((HB5.out.mono (by have := HK.out.size; have := HS3.out; omega)).trans (HK7.out.below (by have := HB5.out.size; have := HK.out.size; have := HS3.out; omega) (by omega) (fun g hg => by have := (HVG.out g hg).1; omega)))))
        by_cases hlt : k < 7
        · have hg5 : g5 < w5.heap.size := HP5.out.1.lt
          have hpt : (([Value.pointer (some ⟨w.heap.size, 4, none⟩), .pointer (some ⟨w.heap.size, 5, none⟩), .pointer (some ⟨w.heap.size, 6, none⟩), .pointer (some ⟨w.heap.size, 7, none⟩), .pointer (some ⟨w.heap.size, 8, none⟩), .pointer (some ⟨w.heap.size, 9, none⟩), .pointer (some ⟨w.heap.size, 10, none⟩)] : List Value)[k]? = some (.pointer (some ⟨w.heap.size, 4 + k, none⟩))) :=
            seven (P := fun k => ([Value.pointer (some ⟨w.heap.size, 4, none⟩), .pointer (some ⟨w.heap.size, 5, none⟩), .pointer (some ⟨w.heap.size, 6, none⟩), .pointer (some ⟨w.heap.size, 7, none⟩), .pointer (some ⟨w.heap.size, 8, none⟩), .pointer (some ⟨w.heap.size, 9, none⟩), .pointer (some ⟨w.heap.size, 10, none⟩)] : List Value)[k]? = some (.pointer (some ⟨w.heap.size, 4 + k, none⟩))) rfl rfl rfl rfl rfl rfl rfl k hlt
          have c1 : wr.cell? ⟨g5, k, none⟩ = some (.pointer (some ⟨w.heap.size, 4 + k, none⟩)) := by
            rw [World.cell?_of_block (a := ⟨g5, k, none⟩) (w := w5) (HK7.out.block g5 hg5 (by have := HP5.out.2; have := HW.out.blk.lt; omega) (fun e => by have := (HVG.out g5 e).2; have := HP5.out.2; omega)), HP5.out.1.cell]
            exact hpt
          have c2 : wr.cell? ⟨w.heap.size, 4 + k, none⟩ = some (.slice (p.pl k).A (m.lst k).length (p.pl k).c) := by
            rw [World.cell?_of_block (a := ⟨w.heap.size, 4 + k, none⟩) (w := w5) (HK7.out.block w.heap.size HBX5.out.lt (by omega) (fun e => by have := (HVG.out _ e).1; omega)), HBX5.out.cell]
            exact mCells_ith m p k hlt
          have hdk := HD.out.ith k hlt
          have hbnd := HM.out.len k hlt
          have hlt0 := HD.out.lt HM.out k hlt
          have HC := Lib.hid (list_any w.heap.size (w.heap.size + 1) v7 (mTo m k) (m.lst k) (p.pl k).A (p.pl k).c (m.lst k).length rfl (by omega) (HM.out.elem k hlt) (by have := mTo_len HM.out k (by omega); omega) wr HW7.out hsz7 (by omega) (hdk.base HBB.out hlt0) hlt0)
          have HT := Lib.hid (show mTo m (k + 1) = mTo m k ++ listB (m.lst k) from rfl)
          clear hg5 hdk hbnd hlt0 hpt
          go_wp2_with (go_at_call 54; refine HC.out.mono ?_; rintro e w8 ⟨rfl, v8, HW8, HK8⟩)
          go_roundg (7 - (k + 1))
          case measure => omega
          case rel => exact ⟨k + 1, v8, by go_num, by omega, Lib.hid (by rw [HT.out]; exact HW8.out), Lib.hid (HK7.out.trans HK8.out), rfl⟩
        · have : k = 7 := by omega
          subst this
          have cb : wr.cell? ⟨w.heap.size + 1, 0, none⟩ = some v7 := by rw [HW7.out.blk.cell]; rfl
          have hrow := HW7.out.row
          rw [mTo_eq] at hrow
          have HROW := Lib.hid hrow
          clear hrow
          obtain ⟨A, c, hv7⟩ := ownsRow_shape HROW.out
          subst hv7
          go_wp2
          go_ret
          exact ⟨A, c, rfl, HBB, HROW⟩
end Go.Proofs.YtplkchmcojnimaaGreatDoor
