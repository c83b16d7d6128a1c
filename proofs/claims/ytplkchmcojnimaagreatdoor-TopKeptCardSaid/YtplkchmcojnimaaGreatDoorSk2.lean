/-
  The stream: Order.
  The stream: Model: what is written.
-/
import Derived.Laws.OwnMore
import Derived.Test.YtplkchmcojnimaaGreatDoorSa12
import Derived.Test.YtplkchmcojnimaaGreatDoorSk1
/-
  The stream: Order.
-/
namespace Go.Proofs.YtplkchmcojnimaaGreatDoor
open Go.RowKit

/-- Some numbers below a bound. -/
def Ord (l : List Int) (n N : Nat) : Prop := l.length = n ∧ ∀ x, x ∈ l → 0 ≤ x ∧ x < (N : Int)
theorem Ord.more {l : List Int} {n N : Nat} (h : Ord l n N) {x : Int} (hx : 0 ≤ x ∧ x < (N : Int)) : Ord (l ++ [x]) (n + 1) N :=
  ⟨by rw [List.length_append, h.1]; rfl, fun y hy => by
    rcases List.mem_append.1 hy with h1 | h1
    · exact h.2 y h1
    · rw [List.mem_singleton.1 h1]; exact hx⟩
theorem Ord.get {l : List Int} {n N : Nat} (h : Ord l n N) {i : Nat} (hi : i < n) : 0 ≤ l.getD i 0 ∧ l.getD i 0 < (N : Int) := by
  have hl : i < l.length := by rw [h.1]; exact hi
  rw [show l.getD i 0 = l[i] by simp [List.getD, hl]]
  exact h.2 _ (List.getElem_mem hl)
theorem Ord.set {l : List Int} {n N : Nat} (h : Ord l n N) (i : Nat) {x : Int} (hx : 0 ≤ x ∧ x < (N : Int)) : Ord (l.set i x) n N :=
  ⟨by rw [List.length_set]; exact h.1, fun y hy => by
    rcases List.mem_or_eq_of_mem_set hy with h1 | h1
    · exact h.2 y h1
    · rw [h1]; exact hx⟩
theorem ints_at {l : List Int} {i : Nat} (h : i < l.length) : (ints l)[i]? = some (.int .i64 (l.getD i 0)) := by simp [ints, List.getD, h]
theorem ints_set (l : List Int) (i : Nat) (x : Int) : ints (l.set i x) = (ints l).set i (.int .i64 x) := by simp [ints, List.map_set]
theorem set_at1 {l : List Value} {i J : Nat} {v : Value} (h : l[J]? = some v) : (l.set i v)[J]? = some v := by
  rw [List.getElem?_set]
  by_cases e : i = J
  · subst e
    have := (List.getElem?_eq_some_iff.1 h).1
    simp [this]
  · rw [if_neg e]; exact h
set_option maxRecDepth 100000 in
set_option maxHeartbeats 1600000 in
theorem order_st (xb : Nat) (V : Value) (L : List Int) (K : Nat) (n : Nat) (hn : 1 ≤ n ∧ n ≤ 64) (hK : K ≤ 100000) (w : World) (h : St w xb V L K) :
    Calls Tryz.prog 10 #[.pointer (some ⟨xb, 0, none⟩), .int .i64 n] w fun e w' => ∃ g c l, e = .returned (.slice (some ⟨g, 0, none⟩) n c) ∧ Hid (Ord l n n) ∧ Hid (w'.ownsRow w.heap.size 3 1 (.slice (some ⟨g, 0, none⟩) n c) n (ints l)) ∧ Hid (Asks xb V L (K + n) w w') := by
  have H := Lib.hid h
  have HF := Lib.hid h.far
  have HN := Lib.hid hn
  have HNX := Lib.hid (fun (k : Nat) (wx : World) (m : Int) (hk : k ≤ 200000) (hm : 1 ≤ m ∧ m ≤ 64) (hx : St wx xb V L k) => Next_st xb V L k (by omega) m (by omega) wx hx)
  clear h hn
  go_enter Tryz.func10, Tryz.ntmps10
  go_wp2
  go_loopg [5, 10] n (fun gk s5 s10 wx => ∃ (i : Nat) (l : List Int), s10 = .int .i64 i ∧ i ≤ n ∧ gk = n - i ∧ Hid (Ord l i n) ∧ Hid (wx.ownsRow w.heap.size 3 1 s5 i (ints l)) ∧ Hid (Below w.heap.size w wx))
  case atStart => exact ⟨0, [], rfl, Nat.zero_le _, rfl, Lib.hid ⟨rfl, fun x hx => absurd hx (by simp)⟩, Lib.hid (World.ownsRow_nil _ _ _ _), Lib.hid (Below.refl _ _)⟩
  case round =>
    obtain ⟨i, l, rfl, hil, rfl, HB, HO, HA⟩ := hrel
    obtain ⟨A5, c5, hv5⟩ := ownsRow_shape HO.out
    subst hv5
    by_cases hlt : i < n
    · have HI := Lib.hid (show i ≤ 1000 by have := HN.out; omega)
      go_wp2_with (at_builtin; refine wpList_app1 rfl _ _ rfl w.heap.size _ i l rfl (ownsRow_below HO.out ((Below.refl _ _).alloc (Nat.le_refl _) _)) i wr.heap.size rfl ((news_blk wr [_] _).cell 0) HI.out (Nat.le_trans HA.out.size (alloc_le _ _)) ?_; intro g cap w3 hown hb; have HO3 := Lib.hid hown; have HB3 := Lib.hid hb; clear hown hb)
      go_roundg (n - (i + 1))
      case measure => omega
      case rel =>
        have hn64 := HN.out
        exact ⟨i + 1, l ++ [(i : Int)], congrArg (Value.int .i64) (show wrap64 ((i : Int) + 1) = ((i + 1 : Nat) : Int) by rw [wrap64_in (by omega)]; rfl), by omega, rfl, Lib.hid (HB.out.more (by omega)), HO3, Lib.hid ((HA.out.alloc HA.out.size _).trans HB3.out)⟩
    · have : i = n := by omega
      subst this
      obtain ⟨g, hg⟩ := row_some2 HO.out (j := 0) (by have := HN.out; omega)
      subst hg
      have e1 : IntKind.i64.wrap ((i : Int) - 1) = ((i - 1 : Nat) : Int) := by rw [IntWalk.i64_in _ (by have := HN.out; omega)]; have := HN.out; omega
      have HS := Lib.hid (Asks.base (Asks.refl H.out) HF.out HA.out)
      go_wp2
      go_loopg [7] (i - 1) (fun gk s7 wx => ∃ (j : Nat) (l : List Int), s7 = .int .i64 j ∧ j < i ∧ j = gk ∧ Hid (Ord l i i) ∧ Hid (wx.ownsRow w.heap.size 3 1 (.slice (some ⟨g, 0, none⟩) i c5) i (ints l)) ∧ Hid (Asks xb V L (K + (i - 1 - j)) w wx))
      case atStart => exact ⟨i - 1, l, by first | rfl | (rw [e1]), by have := HN.out; omega, rfl, HB, HO, Lib.hid (by rw [Nat.sub_self]; exact HS.out)⟩
      case round =>
        obtain ⟨j, l2, rfl, hji, rfl, HB2, HO2, HA2⟩ := hrel
        by_cases hpos : 0 < j
        · have e2 : IntKind.i64.wrap ((j : Int) + 1) = (j : Int) + 1 := IntWalk.i64_in _ (by have := HN.out; omega)
          have HJ := Lib.hid (show K + (i - 1 - j) ≤ 200000 ∧ (1 : Int) ≤ (j : Int) + 1 ∧ (j : Int) + 1 ≤ 64 by have := HN.out; omega)
          go_upto_region 11 with (go_at_call 14; refine (HNX.out (K + (i - 1 - j)) wr ((j : Int) + 1) HJ.out.1 HJ.out.2 HA2.out.2).mono ?_; rintro e w4 ⟨r, rfl, HR, HA4⟩)
          obtain ⟨J, rfl⟩ : ∃ J : Nat, r = J := ⟨r.toNat, by have := HR.out; omega⟩
          have hJ : J < i := by have := HR.out; omega
          have HO4 := Lib.hid (HA4.out.1.own HO2.out HF.out.1)
          have hl := HB2.out.1
          have ci := HO4.out.cellAt j (by omega)
          have cJ := HO4.out.cellAt J (by omega)
          rw [ints_at (by omega)] at ci cJ
          have fi := HO4.out.frozenAt j
          have fJ := HO4.out.frozenAt J
          have cK : (w4.setCell ⟨g, j, none⟩ (.int .i64 (l2.getD J 0))).cell? ⟨g, J, none⟩ = some (.int .i64 (l2.getD J 0)) := by
            rw [(HO4.out.stored j _).1.cellAt J (by omega)]
            exact set_at1 (ints_at (by omega))
          have HX := Lib.hid (HB2.out.get (show j < i by omega))
          have HY := Lib.hid (HB2.out.get hJ)
          have HQ := Lib.hid (show Ord ((l2.set j (l2.getD J 0)).set J (l2.getD j 0)) i i from (HB2.out.set j HY.out).set J HX.out)
          have HW := Lib.hid (show ((w4.setCell ⟨g, j, none⟩ (.int .i64 (l2.getD J 0))).setCell ⟨g, J, none⟩ (.int .i64 (l2.getD j 0))).ownsRow w.heap.size 3 1 (.slice (some ⟨g, 0, none⟩) i c5) i (ints ((l2.set j (l2.getD J 0)).set J (l2.getD j 0))) by
            rw [ints_set, ints_set]
            exact ((HO4.out.stored j _).1.stored J _).1)
          have hg : w.heap.size ≤ g := ownsRow_base HO4.out g rfl
          have HBW := Lib.hid (show Below w.heap.size w4 ((w4.setCell ⟨g, j, none⟩ (.int .i64 (l2.getD J 0))).setCell ⟨g, J, none⟩ (.int .i64 (l2.getD j 0))) from ((Below.refl _ _).setCell hg _).setCell hg _)
          have e3 : IntKind.i64.wrap ((j : Int) - 1) = ((j - 1 : Nat) : Int) := by rw [IntWalk.i64_in _ (by have := HN.out; omega)]; omega
          generalize l2.getD j 0 = xj at ci HQ HW HBW
          generalize l2.getD J 0 = xJ at cJ cK HQ HW HBW
          clear e2 HJ hl HX HY
          go_region
          all_goals
            go_wp2
            go_roundg (j - 1)
          case measure => omega
          all_goals
            have hz := HA2.out.trans HA4.out
            exact ⟨j - 1, _, rfl, by omega, rfl, HQ, HW, Lib.hid ((hz.base HF.out HBW.out.drew).up (by omega))⟩
        · have : j = 0 := by omega
          subst this
          go_wp2
          go_ret
          exact ⟨_, _, _, rfl, HB2, HO2, Lib.hid (HA2.out.up (by omega))⟩
end Go.Proofs.YtplkchmcojnimaaGreatDoor
/-
  The stream: Model: what is written.
-/
namespace Go.Proofs.YtplkchmcojnimaaGreatDoor
open Go.RowKit

/-- Nothing above a block is changed. -/
structure Over (b3 : Nat) (w w' : World) : Prop where
  size : w.heap.size ≤ w'.heap.size
  block : ∀ b, b3 < b → b < w.heap.size → w'.heap[b]? = w.heap[b]?
theorem Over.refl (b3 : Nat) (w : World) : Over b3 w w := ⟨Nat.le_refl _, fun _ _ _ => rfl⟩
theorem Over.trans {b3 : Nat} {a b c : World} (h : Over b3 a b) (k : Over b3 b c) : Over b3 a c :=
  ⟨Nat.le_trans h.size k.size, fun x h1 h2 => (k.block x h1 (Nat.lt_of_lt_of_le h2 h.size)).trans (h.block x h1 h2)⟩
theorem Over.keep {b3 xb : Nat} {w w' : World} (h : Keep xb w w') (hx : xb ≤ b3) : Over b3 w w' := ⟨h.size, fun b h1 h2 => h.block b h2 (by omega)⟩
theorem Over.set (b3 o : Nat) (w : World) (v : Value) : Over b3 w (w.setCell ⟨b3, o, none⟩ v) :=
  ⟨by simp [World.setCell], fun b h1 _ => Below.heap_setCell _ _ _ _ (show b ≠ b3 by omega)⟩
theorem Over.app {b3 : Nat} {a b c : World} (h : Over b3 a b) (k : Below a.heap.size b c) : Over b3 a c :=
  ⟨Nat.le_trans h.size k.size, fun x h1 h2 => (k.block x h2).trans (h.block x h1 h2)⟩
theorem Over.of_below {b3 : Nat} {a b : World} (k : Below a.heap.size a b) : Over b3 a b := (Over.refl b3 a).app k
/-- A list that is made. -/
def Fin3 (b3 : Nat) (w : World) (v : Value) (l : List Int) : Prop := Rd w v l ∧ ∀ b, v.ownBlock = some b → b3 < b
theorem Fin3.over {b3 : Nat} {w w' : World} {v : Value} {l : List Int} (h : Fin3 b3 w v l) (k : Over b3 w w') : Fin3 b3 w' v l :=
  ⟨h.1.block fun b hlt hv _ => k.block b (h.2 b hv) hlt, h.2⟩
theorem Fin3.own {b3 base : Nat} {w : World} {v : Value} {n : Nat} {l : List Int} (h : w.ownsRow base 3 1 v n (ints l)) (hb : b3 < base) : Fin3 b3 w v l :=
  ⟨rd_owned h, fun b hv => by have := ownsRow_base h b hv; omega⟩
/-- What a model in the making leaves: the stream was asked, its cells stand. -/
structure MS (xb : Nat) (V : Value) (L : List Int) (K : Nat) (w : World) (b3 : Nat) (wx : World) (l : List Value) : Prop where
  asks : Asks xb V L K w wx
  blk : Blk wx b3 l 27
  far : Far xb V L w.heap.size
  lt : w.heap.size < b3
  res : Blk wx w.heap.size zero27 27
theorem MS.ask {xb : Nat} {V : Value} {L : List Int} {K K' : Nat} {w : World} {b3 : Nat} {wx wy : World} {l : List Value} (h : MS xb V L K w b3 wx l) (k : Asks xb V L K' wx wy) : MS xb V L K' w b3 wy l :=
  ⟨h.asks.trans k, k.1.blk h.blk (by have := h.far.1; have := h.lt; omega), h.far, h.lt, k.1.blk h.res (by have := h.far.1; omega)⟩
theorem MS.set {xb : Nat} {V : Value} {L : List Int} {K : Nat} {w : World} {b3 : Nat} {wx : World} {l : List Value} (h : MS xb V L K w b3 wx l) (o : Nat) (v : Value) : MS xb V L K w b3 (wx.setCell ⟨b3, o, none⟩ v) (l.set o v) :=
  ⟨h.asks.base h.far ((Below.refl _ _).setCell (Nat.le_of_lt h.lt) _), h.blk.set o v, h.far, h.lt, h.res.far (show w.heap.size ≠ b3 from Nat.ne_of_lt h.lt) v⟩
theorem MS.base {xb : Nat} {V : Value} {L : List Int} {K B : Nat} {w : World} {b3 : Nat} {wx wy : World} {l : List Value} (h : MS xb V L K w b3 wx l) (hb : Below B wx wy) (hB : b3 < B) : MS xb V L K w b3 wy l :=
  ⟨h.asks.base h.far (hb.mono (by have := h.lt; omega)), by have := h.blk; unfold Blk at this ⊢; rw [hb.block b3 hB]; exact this, h.far, h.lt, by have := h.res; unfold Blk at this ⊢; rw [hb.block w.heap.size (Nat.lt_trans h.lt hB)]; exact this⟩
theorem MS.up {xb : Nat} {V : Value} {L : List Int} {K K' : Nat} {w : World} {b3 : Nat} {wx : World} {l : List Value} (h : MS xb V L K w b3 wx l) (hk : K ≤ K') : MS xb V L K' w b3 wx l := ⟨h.asks.up hk, h.blk, h.far, h.lt, h.res⟩
theorem MS.over {xb : Nat} {V : Value} {L : List Int} {K K' : Nat} {w : World} {b3 : Nat} {wx wy : World} {l : List Value} (h : MS xb V L K w b3 wx l) (k : Asks xb V L K' wx wy) : Over b3 wx wy := Over.keep k.1 (by have := h.far.1; have := h.lt; omega)
theorem MS.blt {xb : Nat} {V : Value} {L : List Int} {K : Nat} {w : World} {b3 : Nat} {wx : World} {l : List Value} (h : MS xb V L K w b3 wx l) : b3 < wx.heap.size := h.blk.lt
theorem Asks.drew {xb : Nat} {V : Value} {L : List Int} {K : Nat} {w w' : World} (h : Asks xb V L K w w') : Asks xb V L K w w'.drew := ⟨⟨h.1.os, h.1.tape, h.1.output, h.1.size, h.1.block⟩, h.2⟩
theorem Asks.undrew {xb : Nat} {V : Value} {L : List Int} {K : Nat} {w w' : World} (h : Asks xb V L K w.drew w') : Asks xb V L K w w' := ⟨⟨h.1.os, h.1.tape, h.1.output, h.1.size, h.1.block⟩, h.2⟩
theorem MS.drew {xb : Nat} {V : Value} {L : List Int} {K : Nat} {w : World} {b3 : Nat} {wx : World} {l : List Value} (h : MS xb V L K w b3 wx l) : MS xb V L K w b3 wx.drew l := ⟨h.asks.drew, h.blk, h.far, h.lt, h.res⟩
theorem place_len {rp r3 : Int} (h : rp ∈ [(1 : Int), 2, 4, 16]) (h3 : 1 ≤ r3 ∧ r3 ≤ 5) : ∃ N2 : Nat, IntKind.i64.wrap (rp * r3) = (N2 : Int) ∧ Hid (rp * r3 = N2 ∧ N2 ≤ 80 ∧ 1 ≤ rp ∧ rp ≤ 16) := by
  simp only [List.mem_cons, List.mem_nil_iff, or_false] at h
  have h1 : 0 ≤ rp * r3 ∧ rp * r3 ≤ 80 := by
    rcases (show r3 = 1 ∨ r3 = 2 ∨ r3 = 3 ∨ r3 = 4 ∨ r3 = 5 by omega) with e | e | e | e | e <;> subst e <;> omega
  refine ⟨(rp * r3).toNat, ?_, Lib.hid ⟨by omega, by omega, by omega, by omega⟩⟩
  rw [IntWalk.i64_in _ (by omega)]; omega
theorem own_one (w : World) (x : Int) : (w.alloc (.cells #[.int .i64 x] 3)).ownsRow w.heap.size 3 1 (.slice (some ⟨w.heap.size, 0, none⟩) 1 1) 1 (ints [x]) :=
  ⟨rfl, .inr ⟨w.heap.size, 1, #[.int .i64 x], rfl, Nat.le_refl _, heap_alloc_new w _, Nat.le_refl _, by unfold maxLen; decide, rfl, rfl⟩⟩
theorem made_ok {r1 r2 r3 top mn rp : Int} {N1 N2 N3 ns no : Nat} {l l5 l6 l7 l8 l9 l10 : List Int} (h1 : 1 ≤ r1 ∧ r1 ≤ 3) (h2 : 2 ≤ r2 ∧ r2 ≤ 16) (h3 : 1 ≤ r3 ∧ r3 ≤ 5) (ht : 1 ≤ top ∧ top ≤ r2)
    (hm : 1 ≤ mn ∧ mn ≤ 4 ∧ (r1 = 1 → mn = 3) ∧ (r1 = 2 → mn = 2)) (hc : l.length = 4 ∧ ∀ x, x ∈ l → 1 ≤ x ∧ x ≤ 15) (b5 : Byt l5 N1) (e1 : r2 * r3 = N1) (b6 : Byt l6 N2) (e2 : rp * r3 = N2 ∧ N2 ≤ 80 ∧ 1 ≤ rp ∧ rp ≤ 16) (b7 : Byt l7 N3) (e3 : mn * r3 * r3 = N3) (b8 : Byt l8 N1)
    (hs : l9.length = ns ∧ ∀ x, x ∈ l9 → 0 ≤ x ∧ x ≤ 1000) (hns : 1 ≤ ns ∧ ns ≤ 64) (ho : l10.length = no + 1 ∧ (∀ x, x ∈ l10 → 0 ≤ x ∧ x ≤ 1000) ∧ l10.getD 0 0 ≠ 0) (hno : no ≤ 63) :
    MD.Ok ⟨r1, r2, r3, top, l, l5, l6, l7, l8, l9, l10⟩ := by
  have q2 : ((l6.length : Nat) : Int) = rp * r3 := by rw [b6.1]; exact e2.1.symm
  have q3 : ((l7.length : Nat) : Int) = mn * (r3 * r3) := by rw [b7.1, ← Int.mul_assoc]; exact e3.symm
  have k0 : 0 < r3 * r3 := Int.mul_pos (by omega) (by omega)
  have d2 : rp * r3 / r3 = rp := Int.mul_ediv_cancel _ (by omega)
  have d3 : mn * (r3 * r3) / (r3 * r3) = mn := Int.mul_ediv_cancel _ (by omega)
  exact {
    kind := h1, vocab := h2, width := h3, top := ht, cuts := hc.1
    embed := by show ((l5.length : Nat) : Int) = r2 * r3; rw [b5.1]; exact e1.symm
    out := by show ((l8.length : Nat) : Int) = r2 * r3; rw [b8.1]; exact e1.symm
    place := by
      show ((l6.length : Nat) : Int) % r3 = 0 ∧ 1 ≤ ((l6.length : Nat) : Int) / r3 ∧ ((l6.length : Nat) : Int) / r3 ≤ 16
      rw [q2, d2]; exact ⟨Int.mul_emod_left _ _, e2.2.2⟩
    mix := by
      show ((l7.length : Nat) : Int) % (r3 * r3) = 0 ∧ (r1 = 1 → ((l7.length : Nat) : Int) / (r3 * r3) = 3) ∧ (r1 = 2 → ((l7.length : Nat) : Int) / (r3 * r3) = 2) ∧ 1 ≤ ((l7.length : Nat) : Int) / (r3 * r3) ∧ ((l7.length : Nat) : Int) / (r3 * r3) ≤ 4
      rw [q3, d3]; exact ⟨Int.mul_emod_left _ _, hm.2.2.1, hm.2.2.2, hm.1, hm.2.1⟩
    soft := by show 1 ≤ l9.length ∧ l9.length ≤ 64; rw [hs.1]; exact hns
    odds := by show 1 ≤ l10.length ∧ l10.length ≤ 64; rw [ho.1]; omega
    cuts' := hc.2, embed' := b5.2, place' := b6.2, mix' := b7.2, out' := b8.2, soft' := hs.2, odds' := ho.2.1, odds0 := ho.2.2 }
end Go.Proofs.YtplkchmcojnimaaGreatDoor
