/-
  slices.Equal of bytes; weftref1: SameModel.
  models: number4, sealed, read4, intact.
  models: intact; num: Share.
  num: Share.
  append of a part that may be empty.
-/
import Derived.Test.YtplkchmcojnimaaGreatDoorSa4
import Derived.Test.YtplkchmcojnimaaGreatDoorSa7
import Derived.Test.YtplkchmcojnimaaGreatDoorSa8
/-
  slices.Equal of bytes; weftref1: SameModel.
-/
namespace Go.Proofs.YtplkchmcojnimaaGreatDoor
open Go.RowKit

theorem rdv_row1 {w : World} {base : Nat} {t : TypeId} {xs : List Value} {A : Option Addr} {n c : Nat} (h : w.ownsRow base t 1 (.slice A n c) n xs) : RdV w (.slice A n c) xs := by
  have hl : xs.length = n := by have := h.1; omega
  rcases h.2 with ⟨hv, hn⟩ | ⟨g, cap, cur, hv, a3, a4, a5, a6, a7, a8⟩
  · injection hv with e1 e2 e3
    subst e1 e2 e3
    exact ⟨none, 0, by rw [hl], by omega, Nat.zero_le _, fun h0 => by omega⟩
  · injection hv with e1 e2 e3
    subst e1 e3
    refine ⟨_, c, by rw [hl], by omega, a6, fun _ => ⟨g, 0, rfl, fun i hi => ?_⟩⟩
    unfold World.cell?
    simp only [a4, Nat.zero_add]
    simp only [Nat.mul_one] at a8
    have : xs[i]? = cur.toList[i]? := by rw [← a8, List.getElem?_take]; simp; omega
    rw [List.getElem?_eq_getElem hi] at this
    simpa using this.symm
theorem RdV.at {w : World} {A : Option Addr} {n c : Nat} {l : List Int} (h : RdV w (.slice A n c) (bys l)) {i : Nat} (hi : i < l.length) : ∃ b o, A = some ⟨b, o, none⟩ ∧ w.cell? ⟨b, o + i, none⟩ = some (.int .u8 (l.getD i 0)) := by
  obtain ⟨b, o, c', hv, hcell⟩ := h.get (i := i) (by rw [bys_length]; exact hi)
  refine ⟨b, o, by injection hv, ?_⟩
  rw [hcell]; simp [bys, List.getD, hi]
theorem RdV.len {w : World} {A : Option Addr} {n c : Nat} {l : List Int} (h : RdV w (.slice A n c) (bys l)) : n = l.length ∧ n ≤ maxLen := by
  have := h.caps; rw [bys_length] at this; omega
set_option maxRecDepth 100000 in
set_option maxHeartbeats 800000 in
theorem equal_same (l : List Int) (A B : Option Addr) (n c d : Nat) (w : World) (h1 : RdV w (.slice A n c) (bys l)) (h2 : RdV w (.slice B n d) (bys l)) :
    Calls Tryz.prog 37 #[.slice A n c, .slice B n d] w fun e w' => e = .returned (.bool true) ∧ ∃ m, w' = w.drewN m := by
  obtain ⟨hn, hlm⟩ := h1.len
  subst hn
  have H1 := Lib.hid h1
  have H2 := Lib.hid h2
  unfold maxLen at hlm
  have HLM := Lib.hid hlm
  have d0 : ((l.length : Int) != l.length) = false := by simp
  clear h1 h2 hlm
  go_enter Tryz.func37, Tryz.ntmps37
  go_wp2
  go_loopg [13] l.length (fun gk s13 wx => ∃ (i m : Nat), s13 = .int .i64 i ∧ i ≤ l.length ∧ wx = w.drewN m ∧ gk = l.length - i)
  case atStart => exact ⟨0, 0, rfl, Nat.zero_le _, rfl, rfl⟩
  case round =>
    obtain ⟨i, m, rfl, hil, rfl, rfl⟩ := hrel
    by_cases hlt : i < l.length
    · obtain ⟨b1, o1, hA, c1⟩ := H1.out.at hlt
      obtain ⟨b2, o2, hB, c2⟩ := H2.out.at hlt
      subst hA hB
      generalize l.getD i 0 = x at c1 c2
      have hs : (i : Int) + 1 = wrap64 ((i : Int) + 1) := (wrap64_in (by have := HLM.out; omega)).symm
      have HS := Lib.hid hs
      clear hs
      have t1 : (x != x) = false := by simp
      go_wp2
      go_quiet (fail)
      go_wp2
      go_roundg (l.length - (i + 1))
      case measure => omega
      case rel => exact ⟨i + 1, _, by rw [← HS.out]; go_num, by omega, rfl, rfl⟩
    · go_wp2
      go_ret
      exact ⟨rfl, m, rfl⟩
set_option maxRecDepth 100000 in
set_option maxHeartbeats 1600000 in
theorem same_any (m : MD) (p q : MP) (hm : m.Ok) (w : World) (h1 : MAt w m p) (h2 : MAt w m q) :
    Calls Tryz.prog 12 #[.agg (mCells m p).toArray, .agg (mCells m q).toArray] w fun e w' => e = .returned (.bool true) ∧ Hid (Below w.heap.size w w') := by
  obtain ⟨wb, hwb, hbb, hk0, hk1⟩ : ∃ wb, (w.alloc (.cells (mCells m p).toArray 27)).alloc (.cells (mCells m q).toArray 27) = wb ∧ Below w.heap.size w wb ∧ Blk wb w.heap.size (mCells m p) 27 ∧ Blk wb (w.heap.size + 1) (mCells m q) 27 := by
    refine ⟨_, rfl, ((Below.refl _ _).alloc (Nat.le_refl _) _).alloc (by simp only [World.size_alloc]; omega) _, (news_blk w (mCells m p) 27).alloc _, ?_⟩
    have := news_blk (w.alloc (.cells (mCells m p).toArray 27)) (mCells m q) 27
    simp only [World.size_alloc] at this
    exact this
  have HBB := Lib.hid hbb
  have HP := Lib.hid (h1.below hbb)
  have HQ := Lib.hid (h2.below hbb)
  have HK0 := Lib.hid hk0
  have HK1 := Lib.hid hk1
  have HC1 := Lib.hid (fun (wx : World) (h : MAt wx m p) => packed_any m p hm wx h)
  have HC2 := Lib.hid (fun (wx : World) (h : MAt wx m q) => packed_any m q hm wx h)
  clear hbb hk0 hk1 h1 h2
  simp only [mCells] at hwb HC1 HC2 ⊢
  go_enter Tryz.func12, Tryz.ntmps12
  go_upto_region 1 with fail
  clear hwb
  have HS := Lib.hid (fun (wx : World) (hb : Below wb.heap.size wb wx) => show (∀ o, wx.cell? ⟨w.heap.size, o, none⟩ = ([Value.int .i64 m.kind, .int .i64 m.vocab, .int .i64 m.width, .int .i64 m.top, .slice p.cuts.A m.cuts.length p.cuts.c, .slice p.embed.A m.embed.length p.embed.c, .slice p.place.A m.place.length p.place.c, .slice p.mix.A m.mix.length p.mix.c, .slice p.out.A m.out.length p.out.c, .slice p.soft.A m.soft.length p.soft.c, .slice p.odds.A m.odds.length p.odds.c] : List Value)[o]?) ∧ (∀ o, wx.cell? ⟨w.heap.size + 1, o, none⟩ = ([Value.int .i64 m.kind, .int .i64 m.vocab, .int .i64 m.width, .int .i64 m.top, .slice q.cuts.A m.cuts.length q.cuts.c, .slice q.embed.A m.embed.length q.embed.c, .slice q.place.A m.place.length q.place.c, .slice q.mix.A m.mix.length q.mix.c, .slice q.out.A m.out.length q.out.c, .slice q.soft.A m.soft.length q.soft.c, .slice q.odds.A m.odds.length q.odds.c] : List Value)[o]?) from ⟨(HK0.out.below hb).cell, (HK1.out.below hb).cell⟩)
  go_region_held3 (fun wy : World => (∀ o, wy.cell? ⟨w.heap.size, o, none⟩ = ([Value.int .i64 m.kind, .int .i64 m.vocab, .int .i64 m.width, .int .i64 m.top, .slice p.cuts.A m.cuts.length p.cuts.c, .slice p.embed.A m.embed.length p.embed.c, .slice p.place.A m.place.length p.place.c, .slice p.mix.A m.mix.length p.mix.c, .slice p.out.A m.out.length p.out.c, .slice p.soft.A m.soft.length p.soft.c, .slice p.odds.A m.odds.length p.odds.c] : List Value)[o]?) ∧ (∀ o, wy.cell? ⟨w.heap.size + 1, o, none⟩ = ([Value.int .i64 m.kind, .int .i64 m.vocab, .int .i64 m.width, .int .i64 m.top, .slice q.cuts.A m.cuts.length q.cuts.c, .slice q.embed.A m.embed.length q.embed.c, .slice q.place.A m.place.length q.place.c, .slice q.mix.A m.mix.length q.mix.c, .slice q.out.A m.out.length q.out.c, .slice q.soft.A m.soft.length q.soft.c, .slice q.odds.A m.odds.length q.odds.c] : List Value)[o]?)) (first | exact HS.out _ (Below.refl _ _).drew | exact HS.out _ HB1.out | exact HS.out _ (below_drewN HB2.out _) | exact HS.out _ HB2.out | exact HS.out _ (Below.refl _ _)) (first | (go_at_call 38; have _g := HB1; clear _g; refine (HC2.out w1 (HQ.out.below HB1.out)).mono ?_; rintro e w2 ⟨A2, c2, rfl, HB2', HO2⟩; have HB2 : Hid (Below wb.heap.size wb w2) := Lib.hid (HB1.out.trans (HB2'.out.mono HB1.out.size)); have HO3 := Lib.hid (ownsRow_below HO1.out HB2'.out); dsimp only) | (go_at_call 38; refine (HC1.out wb.drew (HP.out.drewN 1)).mono ?_; rintro e w1 ⟨A1, c1, rfl, HB1', HO1⟩; have HB1 : Hid (Below wb.heap.size wb w1) := Lib.hid (below_undrew HB1'.out); dsimp only) | (go_at_call 37; refine (equal_same m.bytes A1 A2 _ c1 c2 w2 (rdv_row1 HO3.out) (rdv_row1 HO2.out)).mono ?_; rintro e w3 ⟨rfl, mm, rfl⟩))
  go_wp2
  go_ret
  exact ⟨rfl, Lib.hid (HBB.out.trans ((below_drewN HB2.out mm).mono HBB.out.size))⟩
end Go.Proofs.YtplkchmcojnimaaGreatDoor
/-
  models: number4, sealed, read4, intact.
-/
namespace Go.Proofs.YtplkchmcojnimaaGreatDoor
open Go.RowKit

theorem ofInt_nat (a : Nat) (ha : a < 9223372036854775808) : (BitVec.ofInt 64 (a : Int)).toNat = a := by
  rw [BitVec.toNat_ofInt]
  show ((a : Int) % 18446744073709551616).toNat = a
  omega
theorem or_at (a x k K : Nat) (hK : 2 ^ k = K) (ha : a < K) (ha2 : a < 1000000000000) (hb : K * x < 1000000000000) : bits BinOp.or IntKind.i64 (a : Int) ((x : Int) * (K : Int)) = ((a + x * K : Nat) : Int) := by
  subst hK
  have e2 : (x : Int) * ((2 ^ k : Nat) : Int) = ((2 ^ k * x : Nat) : Int) := by push_cast; exact Int.mul_comm _ _
  have e3 : x * 2 ^ k = 2 ^ k * x := Nat.mul_comm _ _
  have hor : a ||| 2 ^ k * x = 2 ^ k * x + a := by
    rw [Nat.or_comm]; exact (Nat.two_pow_add_eq_or_of_lt ha x).symm
  rw [e2, e3]
  show IntKind.i64.wrap ((BitVec.ofInt 64 (a : Int) ||| BitVec.ofInt 64 ((2 ^ k * x : Nat) : Int)).toNat : Int) = _
  generalize 2 ^ k * x = y at hb hor
  rw [BitVec.toNat_or, ofInt_nat a (by omega), ofInt_nat _ (by omega), hor, IntWalk.i64_in _ (by omega)]
  omega
theorem rd4_or (x0 x1 x2 x3 : Nat) (l0 : x0 < 256) (l1 : x1 < 256) (l2 : x2 < 256) (l3 : x3 < 256) :
    bits BinOp.or IntKind.i64 (bits BinOp.or IntKind.i64 (bits BinOp.or IntKind.i64 (x0 : Int) ((x1 : Int) * 256)) ((x2 : Int) * 65536)) ((x3 : Int) * 16777216) = (x0 : Int) + 256 * x1 + 65536 * x2 + 16777216 * x3 := by
  have q1 : bits .or .i64 (x0 : Int) ((x1 : Int) * 256) = ((x0 + x1 * 256 : Nat) : Int) := or_at x0 x1 8 256 rfl (by omega) (by omega) (by omega)
  have q2 : bits .or .i64 ((x0 + x1 * 256 : Nat) : Int) ((x2 : Int) * 65536) = ((x0 + x1 * 256 + x2 * 65536 : Nat) : Int) := or_at _ x2 16 65536 rfl (by omega) (by omega) (by omega)
  have q3 : bits .or .i64 ((x0 + x1 * 256 + x2 * 65536 : Nat) : Int) ((x3 : Int) * 16777216) = ((x0 + x1 * 256 + x2 * 65536 + x3 * 16777216 : Nat) : Int) := or_at _ x3 24 16777216 rfl (by omega) (by omega) (by omega)
  rw [q1, q2, q3]
  show ((x0 + x1 * 256 + x2 * 65536 + x3 * 16777216 : Nat) : Int) = _
  omega
set_option maxRecDepth 100000 in
set_option maxHeartbeats 800000 in
theorem number4_any (n : Int) (_hn : 0 ≤ n ∧ n < 4294967296) (w : World) : Calls Tryz.prog 29 #[.int .i64 n] w fun e w' => e = .returned (.slice (some ⟨w.heap.size, 0, none⟩) 4 4) ∧ w' = w.alloc (.cells (bys (low4 n)).toArray 5) := by
  have h0 : IntKind.u8.wrap n = n % 256 := rfl
  have h1 : IntKind.u8.wrap (n / 256) = n / 256 % 256 := rfl
  have h2 : IntKind.u8.wrap (n / 65536) = n / 65536 % 256 := rfl
  have h3 : IntKind.u8.wrap (n / 16777216) = n / 16777216 % 256 := rfl
  go_enter Tryz.func29, Tryz.ntmps29
  go_wp2
  go_ret
  exact ⟨rfl, rfl⟩
set_option maxRecDepth 100000 in
set_option maxHeartbeats 800000 in
theorem read4_any (l : List Int) (hl : Bytes l) (h4 : 4 ≤ l.length) (A : Option Addr) (n c : Nat) (w : World) (h : RdV w (.slice A n c) (bys l)) : Calls Tryz.prog 41 #[.slice A n c] w fun e w' => e = .returned (.int .i64 (rd4 l)) ∧ ∃ m, w' = w.drewN m := by
  obtain ⟨hn, hlm⟩ := h.len
  obtain ⟨b, o, rfl, c0⟩ := h.at (i := 0) (by omega)
  obtain ⟨_, _, e1, c1⟩ := h.at (i := 1) (by omega)
  injection e1 with e1; injection e1 with e2 e3; subst e2 e3
  obtain ⟨_, _, e1, c2⟩ := h.at (i := 2) (by omega)
  injection e1 with e1; injection e1 with e2 e3; subst e2 e3
  obtain ⟨_, _, e1, c3⟩ := h.at (i := 3) (by omega)
  injection e1 with e1; injection e1 with e2 e3; subst e2 e3
  obtain ⟨x0, e0, l0⟩ := hl.getD 0
  obtain ⟨x1, e1, l1⟩ := hl.getD 1
  obtain ⟨x2, e2, l2⟩ := hl.getD 2
  obtain ⟨x3, e3, l3⟩ := hl.getD 3
  rw [e0] at c0; rw [e1] at c1; rw [e2] at c2; rw [e3] at c3
  have t0 : 0 < n := by omega
  have t1 : 1 < n := by omega
  have t2 : 2 < n := by omega
  have t3 : 3 < n := by omega
  rw [Nat.add_zero] at c0
  have HR := Lib.hid (show rd4 l = (x0 : Int) + 256 * x1 + 65536 * x2 + 16777216 * x3 by unfold rd4; rw [e0, e1, e2, e3])
  clear h hl h4 hn hlm e0 e1 e2 e3
  go_enter Tryz.func41, Tryz.ntmps41
  go_upto_region 1 with fail
  go_quiet (fail)
  go_wp2
  go_ret
  exact ⟨ret_int (by rw [HR.out]; exact rd4_or x0 x1 x2 x3 l0 l1 l2 l3), nq, rfl⟩
set_option maxRecDepth 100000 in
set_option maxHeartbeats 1600000 in
theorem sealed_any (l : List Int) (hl : Bytes l) (h0 : 0 < l.length) (hb : l.length ≤ 1000000) (A : Option Addr) (n c : Nat) (w : World) (h : RdV w (.slice A n c) (bys l)) :
    Calls Tryz.prog 30 #[.slice A n c] w fun e w' => ∃ g c', e = .returned (.slice (some ⟨g, 0, none⟩) (sealB l).length c') ∧ Hid (Below w.heap.size w w') ∧ Hid (w'.ownsRow w.heap.size 5 1 (.slice (some ⟨g, 0, none⟩) (sealB l).length c') (sealB l).length (bys (sealB l))) := by
  obtain ⟨hn, hlm⟩ := h.len
  subst hn
  obtain ⟨b, o, rfl, -⟩ := h.at (i := 0) h0
  have HC := Lib.hid (code_any l (some ⟨b, o, none⟩) c w h)
  have hin := crcOf_in hl
  have HN4 := Lib.hid (fun wx => number4_any (crcOf l) hin wx)
  obtain ⟨w1, hw1, hb1, hown⟩ : ∃ w1, w.alloc (.cells (bys (low4 (crcOf l))).toArray 5) = w1 ∧ Below w.heap.size w w1 ∧ w1.ownsRow w.heap.size 5 1 (.slice (some ⟨w.heap.size, 0, none⟩) 4 4) 4 (bys (low4 (crcOf l))) :=
    ⟨_, rfl, (Below.refl _ _).alloc (Nat.le_refl _) _, rfl, .inr ⟨w.heap.size, 4, _, rfl, Nat.le_refl _, heap_alloc_new w _, Nat.le_refl _, by decide, rfl, rfl⟩⟩
  have hcells := rdv_cells (h.below hb1) rfl
  have HNEWS := Lib.hid (show ∀ (j : Nat) u, (bys l)[j]? = some u → w1.cell? ((⟨b, o, none⟩ : Addr).add j) = some u from fun j u hj => by
    have hjl : j < l.length := by
      have := (List.getElem?_eq_some_iff.1 hj).1
      rw [bys_length] at this; exact this
    rw [hcells j hjl, ← hj]
    simp [bys, List.getD, hjl])
  have HOWN := Lib.hid hown
  have HB1 := Lib.hid hb1
  have HIL := Lib.hid (show (bys l).length = l.length * 1 by rw [bys_length]; omega)
  have H0 := Lib.hid h0
  have HBB := Lib.hid hb
  have HE := Lib.hid (show bys (sealB l) = bys (low4 (crcOf l)) ++ bys l by simp [sealB, bys])
  have HLE := Lib.hid (show (sealB l).length = 4 + l.length by simp [sealB, low4]; omega)
  obtain ⟨i0, hi, hz0, hz1, hz2⟩ := info_parts info5
  clear h hl h0 hb hlm hin hcells hb1 hown
  go_enter Tryz.func30, Tryz.ntmps30
  go_wp2_with (first | (go_at_call 27; refine HC.out.mono ?_; rintro e w2 ⟨rfl, hz⟩; subst w2) | (go_at_call 29; refine (HN4.out _).mono ?_; rintro e w2 ⟨rfl, hz⟩; rw [hw1] at hz; subst w2) | (at_builtin; refine wpList_append_lies _ rfl _ _ 34 rfl w.heap.size 5 i0 (.int .u8 0) 1 1 Tryz.underlying34 hi hz0 hz1 hz2 rfl (by decide) _ 4 _ rfl HOWN.out ⟨b, o, none⟩ l.length c (bys l) rfl HIL.out HNEWS.out (one_bys _) H0.out (by have := HBB.out; unfold maxLen; omega) (by have := HBB.out; omega) HB1.out.size _ rfl ?_; intro g cap w3 hown3 hgrow hat hlt3; have HO := Lib.hid hown3; have HG := Lib.hid hgrow; clear hown3 hgrow hat hlt3))
  go_ret
  rw [HLE.out, HE.out]
  exact ⟨g, cap, rfl, Lib.hid (HB1.out.trans (Below.ofGrown HG.out HB1.out.size (ownsRow_base HOWN.out))), HO⟩
end Go.Proofs.YtplkchmcojnimaaGreatDoor
/-
  models: intact; num: Share.
-/
namespace Go.Proofs.YtplkchmcojnimaaGreatDoor
open Go.RowKit

set_option maxRecDepth 100000 in
set_option maxHeartbeats 1600000 in
theorem intact_any (l : List Int) (hl : Bytes l) (h4 : 4 < l.length) (A : Option Addr) (n c : Nat) (w : World) (h : RdV w (.slice A n c) (bys l)) :
    Calls Tryz.prog 34 #[.slice A n c] w fun e w' => e = .returned (.bool (intactB l)) ∧ ∃ m, w' = w.drewN m := by
  obtain ⟨hn, hlm⟩ := h.len
  subst hn
  have hcap := h.caps
  have hcm := hcap.2.2
  have hcn := hcap.2.1
  unfold maxLen at hcm hlm
  obtain ⟨b, o, rfl, -⟩ := h.at (i := 0) (by omega)
  have u1 : (4 : Int) ≤ (c : Int) := by omega
  have u2 : (4 : Int) ≤ (l.length : Int) := by omega
  have u3 : (l.length : Int) ≤ (c : Int) := by omega
  have v1 : ¬ c = 4 := by omega
  obtain ⟨x, y, HR, HC, HE⟩ : ∃ x y : Int, Hid (∀ m, Calls Tryz.prog 41 #[.slice (some ⟨b, o, none⟩) l.length c] (w.drewN m) fun e w' => e = .returned (.int .i64 x) ∧ ∃ k, w' = (w.drewN m).drewN k) ∧ Hid (∀ m, Calls Tryz.prog 27 #[.slice (some ⟨b, o + 4, none⟩) (l.length - 4) (c - 4)] (w.drewN m) fun e w' => e = .returned (.int .i64 y) ∧ w' = w.drewN m) ∧ Hid ((x == y) = intactB l) :=
    ⟨rd4 l, crcOf (l.drop 4), Lib.hid fun m => read4_any l hl (by omega) _ _ _ _ (show RdV (w.drewN m) _ _ from h), Lib.hid fun m => by
      have := code_any (l.drop 4) (some ⟨b, o + 4, none⟩) (c - 4) (w.drewN m) (by
        have hr := rdv_rest (show RdV (w.drewN m) _ _ from h) rfl 4 (by omega) (some ⟨b, o + 4, none⟩) (fun _ => rfl)
        rwa [← List.length_drop] at hr)
      rwa [List.length_drop] at this, Lib.hid rfl⟩
  clear h hl hcap hcm hcn hlm h4
  generalize intactB l = z at HE ⊢
  go_enter Tryz.func34, Tryz.ntmps34
  go_upto_region 1 with fail
  go_quiet (first | (go_at_call 41; with_reducible exact Calls.quiet_of (HR.out _)) | (go_at_call 27; with_reducible exact Calls.quiet_of_same (HC.out _)))
  go_wp2
  go_ret
  exact ⟨ret_bool HE.out, _, rfl⟩
end Go.Proofs.YtplkchmcojnimaaGreatDoor
/-
  num: Share.
-/
namespace Go.Proofs.YtplkchmcojnimaaGreatDoor
open Go.RowKit

theorem wrap_small {q : Nat} (h : q ≤ 100000) : wrap64 (q : Int) = (q : Int) ∧ wrap64 ((q : Int) + 1) = (q : Int) + 1 := ⟨wrap64_in (by omega), wrap64_in (by omega)⟩
theorem own_blk {w : World} {base g n : Nat} {e : TypeId} {xs : List Value} (h : w.ownsRow base e 1 (.slice (some ⟨g, 0, none⟩) n n) n xs) : Blk w g xs e := by
  rcases h.2 with ⟨hv, -⟩ | ⟨g', cap, cur, hv, a3, a4, a5, a6, a7, a8⟩
  · cases hv
  · injection hv with e1 e2 e3
    injection e1 with e1
    injection e1 with e1
    subst e1 e3
    unfold Blk
    rw [a4]
    have : cur.toList = xs := by
      rw [← a8, Nat.mul_one, List.take_of_length_le (by simp; omega)]
    rw [← this]
def shV (N p i : Nat) : List Value := (List.range p).map fun j => .int .i64 (if j < i then (shSize N p j : Int) else 0)
theorem shV_len (N p i : Nat) : (shV N p i).length = p := by simp [shV]
theorem shV_set (N p i : Nat) (hi : i < p) : (shV N p i).set i (.int .i64 (shSize N p i)) = shV N p (i + 1) := by
  apply List.ext_getElem?
  intro j
  rw [List.getElem?_set]
  by_cases hj : j < p
  · by_cases e : i = j
    · subst e; simp [shV, hi]
    · simp only [shV, List.getElem?_map, List.getElem?_range hj, e, if_false, Option.map_some]
      by_cases h : j < i
      · rw [if_pos h, if_pos (by omega)]
      · rw [if_neg h, if_neg (by omega)]
  · have h1 : (shV N p i)[j]? = none := List.getElem?_eq_none (by rw [shV_len]; omega)
    have h2 : (shV N p (i + 1))[j]? = none := List.getElem?_eq_none (by rw [shV_len]; omega)
    rw [h1, h2]
    split
    · split
      · omega
      · rfl
    · rfl
theorem made_shV (N p : Nat) : (madeCells (Value.int .i64 0).cells (p * 1)).toList = shV N p 0 := by
  have h1 : (Value.int IntKind.i64 0).cells = #[.int .i64 0] := rfl
  rw [h1]
  simp only [madeCells, shV, Nat.mul_one, Array.toList_map, Array.toList_range]
  apply List.map_congr_left
  intro a _
  simp [Nat.mod_one]
set_option maxRecDepth 100000 in
set_option maxHeartbeats 1600000 in
theorem share_any (N p : Nat) (hN : N ≤ 100000) (hp : 1 ≤ p ∧ p ≤ 64) (w : World) :
    Calls Tryz.prog 28 #[.int .i64 N, .int .i64 p] w fun e w' => e = .returned (.tuple #[.slice (some ⟨w.heap.size, 0, none⟩) p p, .int .i64 0]) ∧ Hid (Below w.heap.size w w') ∧ Hid (Blk w' w.heap.size (shV N p p) 3) := by
  obtain ⟨i0, hi, hz0, hz1, hz2⟩ := info_parts info3
  have d1 : decide ((N : Int) < 0) = false := decide_eq_false (by omega)
  have d2 : decide ((2147483647 : Int) < N) = false := decide_eq_false (by omega)
  have d3 : decide ((p : Int) < 1) = false := decide_eq_false (by omega)
  have d4 : decide ((1024 : Int) < p) = false := decide_eq_false (by omega)
  have t0 : (p : Int) ≠ 0 := by omega
  have t1 : Int.tmod (N : Int) p = ((N % p : Nat) : Int) := by rw [Int.tmod_eq_emod_of_nonneg (by omega)]; rfl
  have t2 : Int.tdiv (N : Int) p = ((N / p : Nat) : Int) := by rw [Int.tdiv_eq_ediv_of_nonneg (by omega)]; rfl
  have hq : N / p ≤ N := Nat.div_le_self _ _
  have hsv : ∀ i, shSize N p i = N / p + (if i < N % p then 1 else 0) := fun i => rfl
  generalize hQ : N / p = q at t2 hq hsv
  generalize hR : N % p = r at t1 hsv
  have hq2 : q ≤ 100000 := Nat.le_trans hq hN
  obtain ⟨t3, t4⟩ := wrap_small hq2
  have HP := Lib.hid hp
  have hp64 := hp.2
  have HSV := Lib.hid hsv
  clear hq hq2 hQ hR hp hsv
  go_enter Tryz.func28, Tryz.ntmps28
  go_wp2_with (at_make; refine wpList_make_full _ rfl _ _ 22 rfl w.heap.size 3 i0 (.int .i64 0) 1 Tryz.underlying22 hi hz0 hz1 .i64 .i64 p p p rfl rfl rfl rfl (by rw [hz2]; omega) (by unfold maxLen; omega) (Nat.le_refl _) ?_; intro w1 hown1 hgrow1; have HB1 := Lib.hid (Below.ofGrown hgrow1 (Nat.le_refl _) (fun k hk => by cases hk)); have HK1 := Lib.hid (own_blk hown1); clear hown1 hgrow1)
  go_loopg [26] p (fun gk s26 wx => ∃ i : Nat, s26 = .int .i64 i ∧ i ≤ p ∧ Hid (Below w.heap.size w wx) ∧ Hid (Blk wx w.heap.size (shV N p i) 3) ∧ gk = p - i)
  case atStart => exact ⟨0, rfl, Nat.zero_le _, HB1, Lib.hid (by rw [← made_shV]; exact HK1.out), rfl⟩
  case round =>
    obtain ⟨i, rfl, hil, HB, HK, rfl⟩ := hrel
    by_cases hlt : i < p
    · have f0 := HK.out.frozen i
      have c0 := HK.out.cell i
      rw [show (shV N p i)[i]? = some (.int .i64 0) by simp [shV, hlt]] at c0
      have hset := shV_set N p i hlt
      rw [HSV.out i] at hset
      obtain ⟨w1, hw1, hb1, hk1⟩ : ∃ w1, wr.setCell ⟨w.heap.size, i, none⟩ (.int .i64 q) = w1 ∧ Below w.heap.size w w1 ∧ Blk w1 w.heap.size ((shV N p i).set i (.int .i64 q)) 3 := ⟨_, rfl, HB.out.setCell (Nat.le_refl _) _, HK.out.set i _⟩
      have c1 := hk1.cell i
      rw [show ((shV N p i).set i (Value.int .i64 q))[i]? = some (.int .i64 q) by simp [shV_len, hlt]] at c1
      have f1 := hk1.frozen i
      have HB1 := Lib.hid hb1
      by_cases hr : i < r
      · rw [if_pos hr] at hset
        have hk2 := hk1.set i (.int .i64 ((q : Int) + 1))
        rw [List.set_set] at hk2
        rw [show (((q + 1 : Nat) : Nat) : Int) = (q : Int) + 1 by omega] at hset
        rw [hset] at hk2
        have HK2 := Lib.hid hk2
        clear hk1 hk2 hset hb1
        go_wp2
        go_roundg (p - (i + 1))
        case measure => omega
        case rel => exact ⟨i + 1, by go_num, by omega, Lib.hid (HB1.out.setCell (Nat.le_refl _) _), HK2, rfl⟩
      · rw [if_neg hr, Nat.add_zero] at hset
        rw [hset] at hk1
        have HK2 := Lib.hid hk1
        clear hk1 hset hb1
        go_wp2
        go_roundg (p - (i + 1))
        case measure => omega
        case rel => exact ⟨i + 1, by go_num, by omega, HB1, HK2, rfl⟩
    · have : i = p := by omega
      subst this
      go_wp2
      go_ret2
      exact ⟨rfl, HB, HK⟩
end Go.Proofs.YtplkchmcojnimaaGreatDoor
/-
  append of a part that may be empty.
-/
namespace Go.Proofs.YtplkchmcojnimaaGreatDoor
open Go.RowKit

theorem run_append_none_of {P : Program} {w : World} {base : Nat} (t ty e : TypeId) (i : TypeInfo) (size : Nat) (ht : P.underlying t = some (.slice e)) (hi : P.info? e = some i)
    (v : Value) (n : Nat) (xs : List Value) (hown : w.ownsRow base e size v n xs) (A : Option Addr) (c : Nat) :
    (Builtin.append_ #[t, t] ty #[v, .slice A 0 c]).run P w = .ok v w := by
  rcases hown.2 with ⟨rfl, rfl⟩ | ⟨g, cap, cur, rfl, _, _, hnc, _⟩
  · cases A <;> simp [Builtin.append_, run_underlying ht, sizeOf, typeInfo, hi, Builtin.lenOf, Builtin.firstCells, loadCells, loadCellsFrom]
  · cases A <;> simp [Builtin.append_, run_underlying ht, sizeOf, typeInfo, hi, Builtin.lenOf, Builtin.firstCells, hnc, storeCells, loadCells, loadCellsFrom]
theorem grown_refl (w : World) (row : Option Nat) : w.grownBy w row := ⟨rfl, rfl, rfl, Nat.le_refl _, fun _ _ _ => rfl⟩
/-- An append of bytes that can be read, none of them too, to a row of the call's own that holds some. -/
theorem wpList_append_part {P : Program} {w : World} {ops : Array Oper} {rest : List Oper} {o : Oper} {a : Act} {Q : Exit → Act → World → Prop} (hgd : o.guard = none) (s x : Operand) (t : TypeId)
    (ho : o.op = .call { callee := .builtin .append, args := #[s, x], argTypes := #[t, t] })
    (base : Nat) (i : TypeInfo) (ht : P.underlying t = some (.slice 5)) (hi : P.info? 5 = some i) (hz : i.zero = some (.int .u8 0)) (hsize : i.size = 1) (hby : i.bytes = 1)
    (v : Value) (n : Nat) (xs : List Value) (hs : a.eval s = v) (hown : w.ownsRow base 5 1 v n xs) (hn : 0 < n)
    (A : Option Addr) (m c : Nat) (l : List Int) (hx : a.eval x = .slice A m c) (hr : RdV w (.slice A m c) (bys l)) (hlen : n + m ≤ 1000000) (hbase : base ≤ w.heap.size)
    (h : ∀ g cap w', w'.ownsRow base 5 1 (.slice (some ⟨g, 0, none⟩) (n + m) cap) (n + m) (xs ++ bys l) → w.grownBy w' v.ownBlock → wpList P ops Q rest (a.put o.dst (.slice (some ⟨g, 0, none⟩) (n + m) cap)) w') : wpList P ops Q (o :: rest) a w := by
  obtain ⟨hm, -⟩ := hr.len
  by_cases h0 : 0 < m
  · obtain ⟨b, of, rfl, -⟩ := hr.at (i := 0) (by omega)
    have hcells := rdv_cells hr hm
    refine wpList_append_lies _ hgd s x t ho base 5 i (.int .u8 0) 1 1 ht hi hz hsize hby rfl (by decide) v n xs hs hown ⟨b, of, none⟩ m c (bys l) hx (by rw [bys_length]; omega) (fun j u hj => ?_) (one_bys _) h0 (by unfold maxLen; omega) (by omega) hbase _ rfl (fun g cap w' h1 h2 _ _ => h g cap w' h1 h2)
    have hjl : j < l.length := by
      have := (List.getElem?_eq_some_iff.1 hj).1
      rw [bys_length] at this; exact this
    rw [hcells j (by omega), ← hj]
    simp [bys, List.getD, hjl]
  · have hm0 : m = 0 := by omega
    subst hm0
    have hl : l = [] := List.eq_nil_of_length_eq_zero hm.symm
    subst hl
    have hrun := run_append_none_of (P := P) (w := w) t o.type 5 i 1 ht hi v n xs hown A c
    obtain ⟨g, cap, hv, _, _⟩ := hown.form hn
    refine wpList_plain hgd fun K hK => ?_
    unfold Oper.wp
    simp [execOp, ho, resolve, invoke, builtin, hs, hx, hrun, Result.andThen]
    refine hK _ _ ?_
    have := h g cap w (by simpa [bys, hv] using hown) (grown_refl _ _)
    rw [hv]
    simpa using this
end Go.Proofs.YtplkchmcojnimaaGreatDoor
