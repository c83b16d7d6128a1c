/-
  sealed, body.
  body.
-/
import Derived.Test.YtllpoaoboieijaaGreatSa9
/-
  sealed, body.
-/
namespace Go.Proofs.YtllpoaoboieijaaGreat
open Go.RowKit

def OwnBys (base : Nat) (w : World) (v : Value) (l : List Int) : Prop := w.ownsRow base 5 1 v l.length (bys l)
theorem OwnBys.below {base : Nat} {w w' : World} {v : Value} {l : List Int} (h : OwnBys base w v l) (hb : Below w.heap.size w w') : OwnBys base w' v l := by
  refine ⟨h.1, ?_⟩
  rcases h.2 with h | ⟨g, cap, cur, hv, h3, h4, h5, h6, h7, h8⟩
  · exact .inl h
  · exact .inr ⟨g, cap, cur, hv, h3, by rw [hb.block g (lt_of_heap h4)]; exact h4, h5, h6, h7, h8⟩
theorem OwnBys.shape {base : Nat} {w : World} {v : Value} {l : List Int} (h : OwnBys base w v l) : ∃ A c, v = .slice A l.length c ∧ RdV w v (bys l) := by
  have h2 := Owns.rdv (own := fun _ => .other) (lb := .other) (w := w) (v := v) (e := 5) (xs := bys l) ⟨by rw [bys_length]; exact (show w.ownsRow 0 5 1 v l.length (bys l) from ⟨h.1, by
    rcases h.2 with h | ⟨g, cap, cur, hv, h3, h4⟩
    · exact .inl h
    · exact .inr ⟨g, cap, cur, hv, Nat.zero_le _, h4⟩⟩), fun _ _ => rfl⟩
  have h3 := h2
  obtain ⟨A, c, hv, -⟩ := h3
  exact ⟨A, c, by rw [hv, bys_length], h2⟩
/-- .. as what is to be appended. -/
theorem OwnBys.news {base : Nat} {w : World} {v : Value} {l : List Int} (h : OwnBys base w v l) (h0 : 0 < l.length) :
    ∃ g c, v = .slice (some ⟨g, 0, none⟩) l.length c ∧ base ≤ g ∧ ∀ (j : Nat) u, (bys l)[j]? = some u → w.cell? ((⟨g, 0, none⟩ : Addr).add j) = some u := by
  rcases h.2 with ⟨hv, hn⟩ | ⟨g, cap, cur, hv, h3, h4, h5, h6, h7, h8⟩
  · omega
  · exact ⟨g, cap, hv, h3, fun j u hj => World.ownsRow.cells h (g := g) (by rw [hv]; rfl) j u hj⟩
theorem bys_cells (l : List Int) : ∀ u ∈ bys l, u.oneCell' = true := by
  intro u hu
  obtain ⟨x, -, rfl⟩ := List.mem_map.1 hu
  rfl

theorem low_any' (n : Int) (k : Nat) (hk : k ≤ 100) (h0 : 0 < k) (w : World) : Calls Tryz.prog 57 #[.int .i64 n, .int .i64 k] w fun e w' => ∃ g c, e = .returned (.slice (some ⟨g, 0, none⟩) k c) ∧ Hid (Below w.heap.size w w') ∧ Hid (∀ (j : Nat) u, (bys (lowL n k))[j]? = some u → w'.cell? ((⟨g, 0, none⟩ : Addr).add j) = some u) ∧ Hid (OwnBys w.heap.size w' (.slice (some ⟨g, 0, none⟩) k c) (lowL n k)) := by
  refine (low_any n k hk w).mono ?_
  rintro e w1 ⟨v, rfl, hb, ho⟩
  obtain ⟨g, c, rfl, hg, hn⟩ := OwnBys.news (l := lowL n k) ho (by rw [lowL_length]; exact h0)
  rw [lowL_length] at ho ⊢
  exact ⟨g, c, rfl, hb, hn, by unfold OwnBys; rw [lowL_length]; exact ho⟩

set_option maxRecDepth 100000 in
set_option maxHeartbeats 800000 in
theorem sealed_any (base : Nat) (l : List Int) (v : Value) (w : World) (h : OwnBys base w v l) (hbase : base ≤ w.heap.size) (hl : l.length + 4 ≤ 1000000) :
    Calls Tryz.prog 58 #[v] w fun e w' => ∃ v', e = .returned v' ∧ Below base w w' ∧ OwnBys base w' v' (l ++ lowL (crcOf l) 4) := by
  obtain ⟨A, c, rfl, hr⟩ := h.shape
  have H := Lib.hid h
  have HR := Lib.hid hr
  have HBASE := Lib.hid hbase
  have HL := Lib.hid hl
  clear h hr hbase hl
  obtain ⟨i0, hi, hz0, hz1, hz2⟩ := info_parts info5
  go_enter Tryz.func58, Tryz.ntmps58
  go_wp2_with (first | (go_at_call 49; refine (code_any l A c _ HR.out).mono ?_; rintro e w1 ⟨rfl, rfl⟩) | (go_at_call 57; refine (low_any' (crcOf l) 4 (by omega) (by omega) _).mono ?_; rintro e w1 ⟨g1, c1, rfl, HB1, HN1, -⟩) | (at_builtin; refine wpList_append_lies _ rfl _ _ 56 rfl base 5 i0 (.int .u8 0) 1 1 Tryz.underlying56 hi hz0 hz1 hz2 rfl (by decide) _ l.length _ rfl (H.out.below HB1.out) ⟨g1, 0, none⟩ 4 c1 (bys (lowL (crcOf l) 4)) rfl (by simp [bys, lowL_length]) HN1.out (bys_cells _) (by decide) (by have := HL.out; unfold maxLen; omega) (by have := HL.out; omega) (Nat.le_trans HBASE.out HB1.out.size) _ rfl ?_; intro g cap w3 hown3 hgrow hat hlt3; have HO := Lib.hid hown3; have HG := Lib.hid hgrow; clear hown3 hgrow hat hlt3))
  go_ret
  refine ⟨_, rfl, ?_, ?_⟩
  · exact (HB1.out.mono HBASE.out).trans (Below.ofGrown HG.out (Nat.le_trans HBASE.out HB1.out.size) (ownsRow_base H.out))
  · have := HO.out
    unfold OwnBys
    rw [List.length_append, lowL_length, bys, List.map_append]
    exact this
end Go.Proofs.YtllpoaoboieijaaGreat
/-
  body.
-/
namespace Go.Proofs.YtllpoaoboieijaaGreat
open Go.RowKit

theorem RdV.below {w w' : World} {v : Value} {xs : List Value} (h : RdV w v xs) (hb : Below w.heap.size w w') : RdV w' v xs := by
  by_cases h0 : 0 < xs.length
  · have hlt := h.lt h0
    obtain ⟨A, c, rfl, a1, a2, a3⟩ := h
    obtain ⟨b, o, rfl, hr⟩ := a3 h0
    exact ⟨_, c, rfl, a1, a2, fun _ => ⟨b, o, rfl, fun i hi => by
      rw [World.cell?_of_block (a := ⟨b, o + i, none⟩) (hb.block b (hlt b rfl))]; exact hr i hi⟩⟩
  · obtain ⟨A, c, rfl, a1, a2, a3⟩ := h
    exact ⟨A, c, rfl, a1, a2, fun h => absurd h h0⟩

/-- The bytes of a record: its kind, then four bytes of each number. -/
def bodyTo (k : Int) (l : List Int) : Nat → List Int
  | 0 => [k % 256]
  | i + 1 => bodyTo k l i ++ lowL (l.getD i 0) 4
def bodyL (k : Int) (l : List Int) : List Int := bodyTo k l l.length
theorem bodyTo_length (k : Int) (l : List Int) (i : Nat) : (bodyTo k l i).length = 1 + 4 * i := by
  induction i with
  | zero => rfl
  | succ i ih => simp only [bodyTo, List.length_append, ih, lowL_length]; omega

theorem own_one (w : World) (x : Int) : OwnBys w.heap.size (w.alloc (.cells #[.int .u8 x] 5)) (.slice (some ⟨w.heap.size, 0, none⟩) 1 1) [x] :=
  ⟨rfl, .inr ⟨w.heap.size, 1, #[.int .u8 x], rfl, Nat.le_refl _, heap_alloc_new w _, Nat.le_refl _, by unfold maxLen; omega, rfl, rfl⟩⟩

set_option maxRecDepth 100000 in
set_option maxHeartbeats 800000 in
theorem body_any (k : Int) (l : List Int) (A : Option Addr) (c : Nat) (w : World) (h : RdV w (.slice A l.length c) (ints l)) (hl : l.length ≤ 100000) :
    Calls Tryz.prog 64 #[.int .i64 k, .slice A l.length c] w fun e w' => ∃ v', e = .returned v' ∧ Below w.heap.size w w' ∧ OwnBys w.heap.size w' v' (bodyL k l) := by
  have H := Lib.hid h
  clear h
  obtain ⟨i0, hi, hz0, hz1, hz2⟩ := info_parts info5
  have hk8 : IntKind.u8.wrap k = k % 256 := rfl
  go_enter Tryz.func64, Tryz.ntmps64
  go_wp2
  go_loopg [5, 13] l.length (fun gk s5 s13 wx => ∃ i : Nat, s13 = .int .i64 i ∧ i ≤ l.length ∧ Below w.heap.size w wx ∧ OwnBys w.heap.size wx s5 (bodyTo k l i) ∧ gk = l.length - i)
  case atStart => exact ⟨0, rfl, Nat.zero_le _, (Below.refl _ _).alloc (Nat.le_refl _) _, own_one w _, rfl⟩
  case round =>
    obtain ⟨i, rfl, hil, hbel, ho, rfl⟩ := hrel
    have HB := Lib.hid hbel
    have HO := Lib.hid ho
    clear hbel ho
    by_cases hlt : i < l.length
    · obtain ⟨b, o, c', hv, hcell⟩ := (H.out.below HB.out).get (i := i) (by simpa [ints] using hlt)
      have hA : A = some ⟨b, o, none⟩ := by injection hv
      subst hA
      have hcell2 : wr.cell? ⟨b, o + i, none⟩ = some (.int .i64 (l.getD i 0)) := by rw [hcell]; simp [ints, List.getD, hlt]
      clear hv hcell
      generalize hli : l.getD i 0 = li at hcell2
      have hbt : bodyTo k l (i + 1) = bodyTo k l i ++ lowL li 4 := by rw [← hli]; rfl
      have HBT := Lib.hid hbt
      have hln := bodyTo_length k l i
      generalize hbl : bodyTo k l i = bl at HO HBT hln
      clear hli hbt hbl
      obtain ⟨A5, c5, hv5, -⟩ := HO.out.shape
      subst hv5
      have HLN := Lib.hid hln
      clear hln
      go_wp2_with (first | (go_at_call 57; refine (low_any' li 4 (by omega) (by omega) _).mono ?_; rintro e w1 ⟨g1, c1, rfl, HB1, HN1, -⟩) | (at_builtin; refine wpList_append_lies _ rfl _ _ 56 rfl w.heap.size 5 i0 (.int .u8 0) 1 1 Tryz.underlying56 hi hz0 hz1 hz2 rfl (by decide) _ bl.length _ rfl (HO.out.below HB1.out) ⟨g1, 0, none⟩ 4 c1 (bys (lowL li 4)) rfl (by simp [bys, lowL_length]) HN1.out (bys_cells _) (by decide) (by have := HLN.out; unfold maxLen; omega) (by have := HLN.out; omega) (Nat.le_trans HB.out.size HB1.out.size) _ rfl ?_; intro g cap w3 hown3 hgrow hat hlt3; have HO3 := Lib.hid hown3; have HG := Lib.hid hgrow; clear hown3 hgrow hat hlt3))
      go_roundg (l.length - (i + 1))
      case measure => omega
      case rel =>
        refine ⟨i + 1, by go_num, by omega, (HB.out.trans (HB1.out.mono HB.out.size)).trans (Below.ofGrown HG.out (Nat.le_trans HB.out.size HB1.out.size) (ownsRow_base HO.out)), ?_, rfl⟩
        have := HO3.out
        rw [HBT.out]
        unfold OwnBys
        rw [List.length_append, lowL_length, bys, List.map_append]
        exact this
    · have hi : i = l.length := by omega
      subst hi
      go_wp2
      go_ret
      exact ⟨_, rfl, HB.out, HO.out⟩
end Go.Proofs.YtllpoaoboieijaaGreat
