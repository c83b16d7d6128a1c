/-
  wefttop: h10kept, for lists of shards.
  TopAnyKept: a list of shards without one, with one more, with another one.
-/
import Derived.Test.YtplkchmcojnimaaGreatDoorSa21
/-
  wefttop: h10kept, for lists of shards.
-/
namespace Go.Proofs.YtplkchmcojnimaaGreatDoor
open Go.RowKit

theorem kept_case (m : MD) (p : MP) (B : List Int) (hB : Bytes B) (n : Nat) (hn : 1 ≤ n ∧ n ≤ 64) (ls : List (List Int)) (js : Nat → Nat) (t : Nat) (k : Int) (hk : k ≠ 0) (hS : SCase B n ls js t k) (h0 : 0 < ls.length) (V : List Value) (b0 o0 N c0 : Nat) (w : World) (hV : RdV w (.slice (some ⟨b0, o0, none⟩) N c0) V) (hL : ShR w V ls) :
    Calls Tryz.prog 13 #[.agg (mCells m p).toArray, .slice (some ⟨b0, o0, none⟩) N c0, .int .i64 k] w fun e w' => e = .returned (.bool true) ∧ Hid (Below w.heap.size w w') := by
  refine kept_bad m p _ k hk w fun w0 hb0 => ?_
  refine gather_bad _ k hk w0 fun w1 hb1 => ?_
  have hb := hb0.trans (hb1.mono hb0.size)
  refine (single_any B hB n hn ls js t k hS h0 V b0 o0 N c0 w1 (hV.below hb) (hL.below hb)).mono ?_
  rintro e w2 ⟨mp, rfl, -, h2⟩
  exact ⟨mp, rfl, h2⟩
theorem kept_empty (m : MD) (p : MP) (A : Option Addr) (c : Nat) (w : World) :
    Calls Tryz.prog 13 #[.agg (mCells m p).toArray, .slice A 0 c, .int .i64 13] w fun e w' => e = .returned (.bool true) ∧ Hid (Below w.heap.size w w') := by
  refine kept_bad m p _ 13 (by decide) w fun w0 hb0 => ?_
  refine gather_bad _ 13 (by decide) w0 fun w1 hb1 => ?_
  refine (single_empty A c w1).mono ?_
  rintro e w2 ⟨rfl, hz⟩
  subst hz
  exact ⟨none, rfl, Lib.hid (Below.refl _ _)⟩
theorem kept_full (m : MD) (hm : m.Ok) (p : MP) (n : Nat) (hn : 1 ≤ n ∧ n ≤ 64) (js : Nat → Nat) (hp : Perm n js) (V : List Value) (b0 o0 N c0 : Nat) (w : World) (hd : MAt w m p) (hV : RdV w (.slice (some ⟨b0, o0, none⟩) N c0) V) (hL : ShR w V (permL m.bytes n js)) :
    Calls Tryz.prog 13 #[.agg (mCells m p).toArray, .slice (some ⟨b0, o0, none⟩) N c0, .int .i64 0] w fun e w' => e = .returned (.bool true) ∧ Hid (Below w.heap.size w w') := by
  refine kept_ok m hm p _ w hd fun w0 hb0 => ?_
  have hl := permL_len m.bytes n js
  have hS : SCase m.bytes n (permL m.bytes n js) js (permL m.bytes n js).length 0 := by
    rw [hl]
    exact ⟨fun i hi => ⟨permL_get _ js hi, hp.lt i hi⟩, hp.ne, by rw [hl]; exact Nat.le_refl _, .inl ⟨rfl, hl.symm⟩⟩
  refine (gather_any m hm n hn (permL m.bytes n js) js hS (by rw [hl]; omega) n (Nat.le_refl _) (fun j hj => by rw [hl]; exact hp.all j hj) (fun h => absurd h (Nat.lt_irrefl _)) V b0 o0 N c0 w0 (hV.below hb0) (hL.below hb0)).mono ?_
  rintro e w1 ⟨h1, h2⟩
  obtain ⟨q, he, hq⟩ := h1.out.1 rfl
  exact ⟨q, he, Lib.hid hq.1, h2⟩
/-- The model that is gathered of all shards. -/
theorem gather_full (m : MD) (hm : m.Ok) (n : Nat) (hn : 1 ≤ n ∧ n ≤ 64) (js : Nat → Nat) (hp : Perm n js) (V : List Value) (b0 o0 N c0 : Nat) (w : World) (hV : RdV w (.slice (some ⟨b0, o0, none⟩) N c0) V) (hL : ShR w V (permL m.bytes n js)) :
    Calls Tryz.prog 17 #[.slice (some ⟨b0, o0, none⟩) N c0] w fun e w' => ∃ q, e = .returned (.tuple #[.agg (mCells m q).toArray, .int .i64 0]) ∧ Hid (MAt w' m q ∧ MNew w.heap.size m q) ∧ Hid (Below w.heap.size w w') := by
  have hl := permL_len m.bytes n js
  have hS : SCase m.bytes n (permL m.bytes n js) js (permL m.bytes n js).length 0 := by
    rw [hl]
    exact ⟨fun i hi => ⟨permL_get _ js hi, hp.lt i hi⟩, hp.ne, by rw [hl]; exact Nat.le_refl _, .inl ⟨rfl, hl.symm⟩⟩
  refine (gather_any m hm n hn (permL m.bytes n js) js hS (by rw [hl]; omega) n (Nat.le_refl _) (fun j hj => by rw [hl]; exact hp.all j hj) (fun h => absurd h (Nat.lt_irrefl _)) V b0 o0 N c0 w hV hL).mono ?_
  rintro e w1 ⟨h1, h2⟩
  obtain ⟨q, he, hq⟩ := h1.out.1 rfl
  exact ⟨q, he, Lib.hid hq, h2⟩
/-- The order without one. -/
def dropJ (js : Nat → Nat) (i : Nat) : Nat → Nat := fun t => if t < i then js t else js (t + 1)
theorem kept_missing (m : MD) (hm : m.Ok) (p : MP) (n : Nat) (hn : 1 ≤ n ∧ n ≤ 64) (js : Nat → Nat) (hp : Perm n js) (i : Nat) (hi : i < n) (V : List Value) (A0 : Option Addr) (N c0 : Nat) (w : World) (hV : RdV w (.slice A0 N c0) V) (hL : ShR w V ((permL m.bytes n js).eraseIdx i)) :
    Calls Tryz.prog 13 #[.agg (mCells m p).toArray, .slice A0 N c0, .int .i64 13] w fun e w' => e = .returned (.bool true) ∧ Hid (Below w.heap.size w w') := by
  have hl : ((permL m.bytes n js).eraseIdx i).length = n - 1 := by rw [List.length_eraseIdx, permL_len, if_pos hi]
  have hN : N = n - 1 := by have := hV.caps.1; rw [hL.len, hl] at this; exact this
  by_cases h1 : n = 1
  · have : N = 0 := by omega
    subst this
    exact kept_empty m p A0 c0 w
  · obtain ⟨b0, o0, c', hv, -⟩ := hV.get (i := 0) (by rw [hL.len, hl]; omega)
    injection hv with hA _ _
    subst hA
    have hg : ∀ t, t < n - 1 → ((permL m.bytes n js).eraseIdx i).getD t [] = shard m.bytes n (dropJ js i t) := fun t ht => by
      rw [List.getD, List.getElem?_eraseIdx]
      unfold dropJ
      by_cases c : t < i
      · rw [if_pos c, if_pos c]
        have := permL_get m.bytes js (n := n) (i := t) (by omega)
        rw [List.getD] at this; exact this
      · rw [if_neg c, if_neg c]
        have := permL_get m.bytes js (n := n) (i := t + 1) (by omega)
        rw [List.getD] at this; exact this
    have hlt : ∀ t, t < n - 1 → dropJ js i t < n := fun t ht => by
      unfold dropJ
      by_cases c : t < i
      · rw [if_pos c]; exact hp.lt t (by omega)
      · rw [if_neg c]; exact hp.lt (t + 1) (by omega)
    have hx : ∀ t, t < n - 1 → ∃ s, s < n ∧ s ≠ i ∧ dropJ js i t = js s ∧ s = if t < i then t else t + 1 := fun t ht => by
      unfold dropJ
      by_cases c : t < i
      · exact ⟨t, by omega, by omega, by rw [if_pos c], by rw [if_pos c]⟩
      · exact ⟨t + 1, by omega, by omega, by rw [if_neg c], by rw [if_neg c]⟩
    have hne : ∀ t, t < n - 1 → ∀ u, u < t → dropJ js i u ≠ dropJ js i t := fun t ht u hu e => by
      obtain ⟨s, h2, -, h3, h4⟩ := hx t ht
      obtain ⟨s', h2', -, h3', h4'⟩ := hx u (by omega)
      rw [h3, h3'] at e
      have := hp.inj h2' h2 e
      rw [h4, h4'] at this
      split at this <;> split at this <;> omega
    have hS : SCase m.bytes n ((permL m.bytes n js).eraseIdx i) (dropJ js i) ((permL m.bytes n js).eraseIdx i).length 0 := by
      rw [hl]
      exact ⟨fun t ht => ⟨hg t ht, hlt t ht⟩, hne, by rw [hl]; exact Nat.le_refl _, .inl ⟨rfl, hl.symm⟩⟩
    refine kept_bad m p _ 13 (by decide) w fun w0 hb0 => ?_
    refine (gather_any m hm n hn _ (dropJ js i) hS (by rw [hl]; omega) (js i) (Nat.le_of_lt (hp.lt i hi)) (fun j hj => ?_) (fun _ k hk e => ?_) V b0 o0 N c0 w0 (hV.below hb0) (hL.below hb0)).mono ?_
    · obtain ⟨s, hs, e⟩ := hp.all j (Nat.lt_trans hj (hp.lt i hi))
      have hsi : s ≠ i := fun h => by subst h; omega
      rw [hl]
      by_cases c : s < i
      · exact ⟨s, by omega, by unfold dropJ; rw [if_pos c]; exact e⟩
      · exact ⟨s - 1, by omega, by unfold dropJ; rw [if_neg (by omega), show s - 1 + 1 = s by omega]; exact e⟩
    · rw [hl] at hk
      obtain ⟨s, h2, h5, h3, -⟩ := hx k hk
      rw [h3] at e
      exact h5 (hp.inj h2 hi e)
    · rintro e w1 ⟨h1, h2⟩
      exact ⟨h1.out.2 (hp.lt i hi), h2⟩
theorem case_twice {B : List Int} {n : Nat} {js : Nat → Nat} (hp : Perm n js) {i : Nat} (hi : i < n) : SCase B n (permL B n js ++ [shard B n (js i)]) (fun t => if t < n then js t else js i) n 6 := by
  have hl := permL_len B n js
  refine ⟨fun t ht => ?_, fun t ht u hu => ?_, by rw [List.length_append, hl]; omega, .inr (.inl ⟨rfl, by rw [List.length_append, hl]; simp, ?_, ?_, i, hi, ?_⟩)⟩
  · rw [if_pos ht]
    refine ⟨?_, hp.lt t ht⟩
    rw [List.getD, List.getElem?_append_left (by rw [hl]; exact ht), ← List.getD]
    exact permL_get B js ht
  · rw [if_pos ht, if_pos (show u < n by omega)]
    exact hp.ne t ht u hu
  · show _ = shard B n (if n < n then js n else js i)
    rw [if_neg (Nat.lt_irrefl _)]
    rw [List.getD, List.getElem?_append_right (by rw [hl]; exact Nat.le_refl _), hl]
    simp
  · show (if n < n then js n else js i) < n
    rw [if_neg (Nat.lt_irrefl _)]; exact hp.lt i hi
  · show (if i < n then js i else js i) = (if n < n then js n else js i)
    rw [if_pos hi, if_neg (Nat.lt_irrefl _)]
theorem case_sum {B : List Int} {n : Nat} {js : Nat → Nat} (hp : Perm n js) {i : Nat} (hi : i < n) {s : List Int} (hs : Bytes s) (h12 : 12 ≤ s.length) (hbad : intactB s = false) : SCase B n ((permL B n js).set i s) js i 12 := by
  have hl := permL_len B n js
  have hg : ((permL B n js).set i s).getD i [] = s := by rw [List.getD, List.getElem?_set]; simp [hl, hi]
  refine ⟨fun t ht => ⟨?_, hp.lt t (by omega)⟩, fun t ht => hp.ne t (by omega), by rw [List.length_set, hl]; omega, .inr (.inr ⟨rfl, by rw [List.length_set, hl]; exact hi, by rw [hg]; exact hs, by rw [hg]; exact h12, by rw [hg]; exact hbad⟩)⟩
  rw [List.getD, List.getElem?_set_ne (by omega), ← List.getD]
  exact permL_get B js (by omega)
end Go.Proofs.YtplkchmcojnimaaGreatDoor
/-
  TopAnyKept: a list of shards without one, with one more, with another one.
-/
namespace Go.Proofs.YtplkchmcojnimaaGreatDoor
open Go.RowKit

theorem rdv_take {w : World} {b o n c : Nat} {V : List Value} (h : RdV w (.slice (some ⟨b, o, none⟩) n c) V) (m : Nat) (hm : m ≤ n) : RdV w (.slice (some ⟨b, o, none⟩) m c) (V.take m) := by
  have ha := rdv_all h
  obtain ⟨h1, h2, h3⟩ := h.caps
  have hl : (V.take m).length = m := by rw [List.length_take]; omega
  refine ⟨some ⟨b, o, none⟩, c, by rw [hl], by rw [hl]; omega, h3, fun _ => ⟨b, o, rfl, fun i hi => ?_⟩⟩
  have := ha i _ (List.getElem?_eq_getElem (show i < V.length by omega))
  rw [add_plain] at this
  rw [this, List.getElem_take]
theorem rdv_drop {w : World} {b o n c : Nat} {V : List Value} (h : RdV w (.slice (some ⟨b, o, none⟩) n c) V) (m : Nat) (hm : m ≤ n) (A : Option Addr) (hA : c ≠ m → A = some ⟨b, o + m, none⟩) : RdV w (.slice A (n - m) (c - m)) (V.drop m) := by
  have ha := rdv_all h
  obtain ⟨h1, h2, h3⟩ := h.caps
  have hl : (V.drop m).length = n - m := by rw [List.length_drop]; omega
  refine ⟨A, c - m, by rw [hl], by rw [hl]; omega, by omega, fun h0 => ⟨b, o + m, hA (by omega), fun i hi => ?_⟩⟩
  have := ha (m + i) _ (List.getElem?_eq_getElem (show m + i < V.length by omega))
  rw [add_plain] at this
  rw [Nat.add_assoc, this, List.getElem_drop]
theorem concat_drop {g n c i : Nat} {V : List Value} (hone : ∀ u ∈ V, u.oneCell' = true) (hi : i < n) (hn : n ≤ 64) (A1 : Option Addr) (hA : c ≠ i + 1 → A1 = some ⟨g, i + 1, none⟩) (pb : Nat) (wx : World) (h0 : wx.cell? ⟨pb, 0, none⟩ = some (.slice (some ⟨g, 0, none⟩) i c)) (h1 : wx.cell? ⟨pb, 1, none⟩ = some (.slice A1 (n - (i + 1)) (c - (i + 1)))) (hV : RdV wx (.slice (some ⟨g, 0, none⟩) n c) V) :
    Calls Tryz.prog 15 #[.slice (some ⟨pb, 0, none⟩) 2 2] wx fun e w' => ∃ A c', e = .returned (.slice A (n - 1) c') ∧ Hid (Below wx.heap.size wx w') ∧ Hid (w'.ownsRow wx.heap.size 34 1 (.slice A (n - 1) c') (n - 1) (V.eraseIdx i)) := by
  have hl := hV.caps.1
  let U : Nat → List Value := fun j => if j = 0 then V.take i else V.drop (i + 1)
  let P : Nat → SP := fun j => if j = 0 then ⟨some ⟨g, 0, none⟩, c⟩ else ⟨A1, c - (i + 1)⟩
  have u0 : U 0 = V.take i := rfl
  have u1 : U 1 = V.drop (i + 1) := rfl
  have l0 : (U 0).length = i := by rw [u0, List.length_take]; omega
  have l1 : (U 1).length = n - (i + 1) := by rw [u1, List.length_drop]; omega
  have hc : catV U 2 = V.eraseIdx i := by
    rw [catV, catV, catV, u0, u1, List.nil_append, List.eraseIdx_eq_take_drop_succ]
  have hcl : (catV U 2).length = n - 1 := by rw [hc, List.length_eraseIdx, if_pos (by omega)]; omega
  have := vconcat_any U P (fun j u hu => by
      by_cases e : j = 0
      · subst e; rw [u0] at hu; exact hone u (List.mem_of_mem_take hu)
      · have e2 : U j = V.drop (i + 1) := if_neg e
        rw [e2] at hu; exact hone u (List.mem_of_mem_drop hu)) pb wx (fun j hj => by
      have : j = 0 ∨ j = 1 := by omega
      rcases this with rfl | rfl
      · rw [l0]; exact h0
      · rw [l1]; exact h1) (fun j hj => by
      have : j = 0 ∨ j = 1 := by omega
      rcases this with rfl | rfl
      · rw [l0]; exact rdv_take hV i (by omega)
      · rw [l1]; exact rdv_drop hV (i + 1) (by omega) A1 (fun h => by rw [Nat.zero_add]; exact hA h)) (by omega)
  rw [hcl, hc] at this
  exact this
theorem ShR.drop {w : World} {V : List Value} {ls : List (List Int)} (h : ShR w V ls) (i : Nat) : ShR w (V.eraseIdx i) (ls.eraseIdx i) := by
  have hl := h.len
  refine ⟨by rw [List.length_eraseIdx, List.length_eraseIdx, hl], fun k hk => ?_⟩
  rw [List.length_eraseIdx] at hk
  have e1 : ∀ {α : Type} (l : List α) (d : α), (l.eraseIdx i).getD k d = l.getD (if k < i then k else k + 1) d := fun l d => by
    rw [List.getD, List.getElem?_eraseIdx, List.getD]
    split <;> rfl
  rw [e1 V, e1 ls]
  refine h.rd _ ?_
  split at hk <;> split <;> omega
theorem ShR.put {w : World} {V : List Value} {ls : List (List Int)} (h : ShR w V ls) (i : Nat) {l : List Int} {A : Option Addr} {c : Nat} (hr : RdV w (.slice A l.length c) (bys l)) : ShR w (V.set i (.slice A l.length c)) (ls.set i l) := by
  refine ⟨by rw [List.length_set, List.length_set, h.len], fun k hk => ?_⟩
  rw [List.length_set] at hk
  by_cases e : i = k
  · subst e
    have e1 : (V.set i (.slice A l.length c)).getD i (.slice none 0 0) = .slice A l.length c := by rw [List.getD, List.getElem?_set]; simp [show i < V.length by rw [h.len]; exact hk]
    have e2 : (ls.set i l).getD i [] = l := by rw [List.getD, List.getElem?_set]; simp [hk]
    rw [e1, e2]
    exact ⟨A, c, rfl, hr⟩
  · have e1 : (V.set i (.slice A l.length c)).getD k (.slice none 0 0) = V.getD k (.slice none 0 0) := by rw [List.getD, List.getElem?_set_ne e, ← List.getD]
    have e2 : (ls.set i l).getD k [] = ls.getD k [] := by rw [List.getD, List.getElem?_set_ne e, ← List.getD]
    rw [e1, e2]
    exact h.rd k hk
theorem ShR.more {w : World} {V : List Value} {ls : List (List Int)} (h : ShR w V ls) {l : List Int} {A : Option Addr} {c : Nat} (hr : RdV w (.slice A l.length c) (bys l)) : ShR w (V ++ [.slice A l.length c]) (ls ++ [l]) := by
  have hl := h.len
  refine ⟨by rw [List.length_append, List.length_append, hl]; rfl, fun k hk => ?_⟩
  rw [List.length_append, List.length_cons, List.length_nil] at hk
  by_cases e : k < ls.length
  · have e1 : (V ++ [Value.slice A l.length c]).getD k (.slice none 0 0) = V.getD k (.slice none 0 0) := by rw [List.getD, List.getElem?_append_left (by omega), ← List.getD]
    have e2 : (ls ++ [l]).getD k [] = ls.getD k [] := by rw [List.getD, List.getElem?_append_left e, ← List.getD]
    rw [e1, e2]
    exact h.rd k e
  · have ek : k = ls.length := by omega
    subst ek
    have e1 : (V ++ [Value.slice A l.length c]).getD ls.length (.slice none 0 0) = .slice A l.length c := by rw [List.getD, List.getElem?_append_right (by omega), hl]; simp
    have e2 : (ls ++ [l]).getD ls.length [] = l := by rw [List.getD, List.getElem?_append_right (Nat.le_refl _)]; simp
    rw [e1, e2]
    exact ⟨A, c, rfl, hr⟩
/-- An append at a step of a region that draws its order, behind a guard that is open. -/
theorem step_append_vals {w : World} {ops : Array Oper} {o : Oper} {a : Act} {K : Act → World → Prop} {Q : Exit → Act → World → Prop} {E : Prop} (hw : Region.wanted o (yielded ops a.tmps) = true) (s x : Operand)
    (ho : o.op = .call { callee := .builtin .append, args := #[s, x], argTypes := #[30, 30] })
    (base : Nat) (v : Value) (n : Nat) (xs : List Value) (hs : a.eval s = v) (hown : w.ownsRow base 34 1 v n xs)
    (u : Value) (h1 : u.oneCell' = true) (b : Nat) (hx : a.eval x = .slice (some ⟨b, 0, none⟩) 1 1) (hc : w.cell? ⟨b, 0, none⟩ = some u) (hlen : n ≤ 1000) (hbase : base ≤ w.heap.size)
    (h : ∀ g cap w', w'.ownsRow base 34 1 (.slice (some ⟨g, 0, none⟩) (n + 1) cap) (n + 1) (xs ++ [u]) → w.grownBy w' v.ownBlock → K (a.put o.dst (.slice (some ⟨g, 0, none⟩) (n + 1) cap)) w') :
    if Region.wanted o (yielded ops a.tmps) = true then Oper.wp Tryz.prog o a w K Q else E := by
  obtain ⟨i0, hi, hz0, hz1, hz2⟩ := info_parts info34
  rw [if_pos hw]
  exact wp_append_lies w s x 30 ho base 34 i0 (.slice none 0 0) 1 24 Tryz.underlying30 hi hz0 hz1 hz2 rfl (by decide) v n xs hs hown ⟨b, 0, none⟩ 1 1 [u] hx rfl (fun j y hj => by
    have : j = 0 := by
      have := (List.getElem?_eq_some_iff.1 hj).1
      simp at this; exact this
    subst this
    have e : y = u := by simpa using hj.symm
    rw [e]; exact hc) (fun y hy => by
    have : y = u := by simpa using hy
    rw [this]; exact h1) Nat.one_pos (by unfold maxLen; omega) (by omega) hbase _ rfl (fun g cap w' h2 h3 _ _ => h g cap w' h2 h3)
theorem set27_ks (w : World) (r : Nat) (m : MD) (p : MP) : KS r w (setAll27 w r m p) := by
  unfold setAll27
  exact ((((((((((KS.set r 0 w _).trans (KS.set r 1 _ _)).trans (KS.set r 2 _ _)).trans (KS.set r 3 _ _)).trans (KS.set r 4 _ _)).trans (KS.set r 5 _ _)).trans (KS.set r 6 _ _)).trans (KS.set r 7 _ _)).trans (KS.set r 8 _ _)).trans (KS.set r 9 _ _)).trans (KS.set r 10 _ _)
end Go.Proofs.YtplkchmcojnimaaGreatDoor
