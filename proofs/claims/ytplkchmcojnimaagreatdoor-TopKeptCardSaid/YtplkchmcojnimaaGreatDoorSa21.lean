/-
  num: Add of one half and one half.
  wefttop: h10one.
  TopAnyKept: the order of shards; a changed byte: plain.
-/
import Derived.Laws.OwnMore
import Derived.Test.YtplkchmcojnimaaGreatDoorSa16
import Derived.Test.YtplkchmcojnimaaGreatDoorSa20
/-
  num: Add of one half and one half.
-/
namespace Go.Proofs.YtplkchmcojnimaaGreatDoor
open Go.RowKit

theorem rat11_back {w : World} {v : Value} (h : FD w v 1 1) : Calls Tryz.prog 56 #[v] w fun e w' => e = .returned (.agg #[.string ⟨#[49]⟩, .string ⟨#[49]⟩]) ∧ Hid (Below w.heap.size w w') := rat_11 v w h
set_option maxRecDepth 100000 in
set_option maxHeartbeats 1600000 in
theorem two_12 (w : World) : Calls Tryz.prog 57 #[ratV 49 50, ratV 49 50, .func (.func 58) #[] #[]] w fun e w' => e = .returned (.tuple #[ratV 49 49, .int .i64 0]) ∧ Hid (Below w.heap.size w w') := by
  obtain ⟨w0, hw0, hb0, hk0, hk1, hk2⟩ : ∃ w0, ((w.alloc (.cells #[.string ⟨#[49]⟩, .string ⟨#[50]⟩] 62)).alloc (.cells #[.string ⟨#[49]⟩, .string ⟨#[50]⟩] 62)).alloc (.cells #[.string ⟨#[]⟩, .string ⟨#[]⟩] 62) = w0 ∧ Below w.heap.size w w0 ∧ Blk w0 w.heap.size [.string ⟨#[49]⟩, .string ⟨#[50]⟩] 62 ∧ Blk w0 (w.heap.size + 1) [.string ⟨#[49]⟩, .string ⟨#[50]⟩] 62 ∧ Blk w0 (w.heap.size + 1 + 1) [.string ⟨#[]⟩, .string ⟨#[]⟩] 62 := by
    refine ⟨_, rfl, (((Below.refl _ _).alloc (Nat.le_refl _) _).alloc (by simp only [World.size_alloc]; omega) _).alloc (by simp only [World.size_alloc]; omega) _, ((news_blk w [.string ⟨#[49]⟩, .string ⟨#[50]⟩] 62).alloc _).alloc _, ?_, ?_⟩
    · have := (news_blk (w.alloc (.cells #[.string ⟨#[49]⟩, .string ⟨#[50]⟩] 62)) [.string ⟨#[49]⟩, .string ⟨#[50]⟩] 62).alloc (.cells #[.string ⟨#[]⟩, .string ⟨#[]⟩] 62)
      simp only [World.size_alloc] at this
      exact this
    · have := news_blk ((w.alloc (.cells #[.string ⟨#[49]⟩, .string ⟨#[50]⟩] 62)).alloc (.cells #[.string ⟨#[49]⟩, .string ⟨#[50]⟩] 62)) [.string ⟨#[]⟩, .string ⟨#[]⟩] 62
      simp only [World.size_alloc] at this
      exact this
  have HB0 := Lib.hid hb0
  have HK2 := Lib.hid hk2
  have HS := Lib.hid (fun (wx : World) (hb : Below w0.heap.size w0 wx) => show (∀ o, wx.cell? ⟨w.heap.size, o, none⟩ = ([Value.string ⟨#[49]⟩, .string ⟨#[50]⟩] : List Value)[o]?) ∧ (∀ o, wx.cell? ⟨w.heap.size + 1, o, none⟩ = ([Value.string ⟨#[49]⟩, .string ⟨#[50]⟩] : List Value)[o]?) from ⟨(hk0.below hb).cell, (hk1.below hb).cell⟩)
  have HT := Lib.hid (fun (wx : World) (hb : Below w0.heap.size w0 wx) (x y : Value) => show (∀ o, (set62 wx (w.heap.size + 1 + 1) x y).cell? ⟨w.heap.size, o, none⟩ = ([Value.string ⟨#[49]⟩, .string ⟨#[50]⟩] : List Value)[o]?) ∧ (∀ o, (set62 wx (w.heap.size + 1 + 1) x y).cell? ⟨w.heap.size + 1, o, none⟩ = ([Value.string ⟨#[49]⟩, .string ⟨#[50]⟩] : List Value)[o]?) from ⟨(((hk0.below hb).far (by simp; omega) _).far (by simp; omega) _).cell, (((hk1.below hb).far (by simp) _).far (by simp) _).cell⟩)
  have s0 := hk0.cell
  have HC := Lib.hid (fun wx => check_12 wx)
  have HO := Lib.hid (fun wx => fof_12 wx)
  have HA := Lib.hid (fun a b wx (ha : FD wx a 1 2) (hb : FD wx b 1 2) => fadd_12 a b wx ha hb)
  have HR := Lib.hid (fun v wx (h : FD wx v 1 1) => rat11_back (w := wx) (v := v) h)
  clear hb0 hk0 hk1 hk2
  simp only [ratV] at HC HO ⊢
  go_enter Tryz.func57, Tryz.ntmps57
  go_upto_region 7 with (first | (go_at_call 72; have _g := HB1; clear _g; refine (HC.out w1).mono ?_; rintro e w2 ⟨rfl, HB2'⟩; have HB2 := Lib.hid (HB1.out.trans (HB2'.out.mono HB1.out.size))) | (go_at_call 72; refine (HC.out w0).mono ?_; rintro e w1 ⟨rfl, HB1⟩; obtain ⟨s0, s1⟩ := HS.out w1 HB1.out))
  clear hw0 s0 s1
  go_region_held3 (fun wy : World => (∀ o, wy.cell? ⟨w.heap.size, o, none⟩ = ([Value.string ⟨#[49]⟩, .string ⟨#[50]⟩] : List Value)[o]?) ∧ (∀ o, wy.cell? ⟨w.heap.size + 1, o, none⟩ = ([Value.string ⟨#[49]⟩, .string ⟨#[50]⟩] : List Value)[o]?)) (first | exact HT.out _ HB6.out _ _ | exact HS.out _ HB6.out | exact HS.out _ HB5.out | exact HS.out _ HB4.out | exact HS.out _ HB3.out | exact HS.out _ HB2.out.drew | exact HS.out _ HB2.out) (first | (go_at_call 56; refine (HR.out _ w5 HF5.out).mono ?_; rintro e w6 ⟨rfl, HB6'⟩; have HB6 := Lib.hid (HB5.out.trans (HB6'.out.mono HB5.out.size)); have q6 := (HK2.out.below HB6.out).cell; have r6 := (HK2.out.below HB6.out).frozen; dsimp only) | (go_at_call 58; refine (HA.out _ _ w4 HF3.out HF4.out).mono ?_; rintro e w5 ⟨v5, rfl, HF5, HB5'⟩; have HB5 := Lib.hid (HB4.out.trans (HB5'.out.mono HB4.out.size)); dsimp only) | (go_at_call 73; have _g := HB3; clear _g; refine (HO.out w3).mono ?_; rintro e w4 ⟨v4, rfl, HF4, HB4'⟩; have HB4 := Lib.hid (HB3.out.trans (HB4'.out.mono HB3.out.size)); have HF3 := Lib.hid (HF3'.out.below HB4'.out); dsimp only) | (go_at_call 73; refine (HO.out w2.drew).mono ?_; rintro e w3 ⟨v3, rfl, HF3', HB3'⟩; have HB3 : Hid (Below w0.heap.size w0 w3) := Lib.hid (HB2.out.trans ((below_undrew HB3'.out).mono HB2.out.size)); dsimp only))
  go_wp2
  have HK6 := HK2.out.below HB6.out
  refine bodyPost_ret (results_rat2 rfl _ _ (w.heap.size + 1 + 1) _ _ rfl (blk62 w6 _ _ _ _ _ HK6)) rfl ?_
  exact ⟨rfl, Lib.hid ((HB0.out.trans (HB6.out.mono HB0.out.size)).trans ((below62 _ _ _ _).mono (by omega)))⟩
set_option maxRecDepth 100000 in
set_option maxHeartbeats 1600000 in
theorem add_12 (w : World) : Calls Tryz.prog 32 #[ratV 49 50, ratV 49 50] w fun e w' => e = .returned (.tuple #[ratV 49 49, .int .i64 0]) ∧ Hid (Below w.heap.size w w') := by
  obtain ⟨w0, hw0, hb0, hk0, hk1, hk2⟩ : ∃ w0, ((w.alloc (.cells #[.string ⟨#[49]⟩, .string ⟨#[50]⟩] 62)).alloc (.cells #[.string ⟨#[49]⟩, .string ⟨#[50]⟩] 62)).alloc (.cells #[.string ⟨#[]⟩, .string ⟨#[]⟩] 62) = w0 ∧ Below w.heap.size w w0 ∧ Blk w0 w.heap.size [.string ⟨#[49]⟩, .string ⟨#[50]⟩] 62 ∧ Blk w0 (w.heap.size + 1) [.string ⟨#[49]⟩, .string ⟨#[50]⟩] 62 ∧ Blk w0 (w.heap.size + 1 + 1) [.string ⟨#[]⟩, .string ⟨#[]⟩] 62 := by
    refine ⟨_, rfl, (((Below.refl _ _).alloc (Nat.le_refl _) _).alloc (by simp only [World.size_alloc]; omega) _).alloc (by simp only [World.size_alloc]; omega) _, ((news_blk w [.string ⟨#[49]⟩, .string ⟨#[50]⟩] 62).alloc _).alloc _, ?_, ?_⟩
    · have := (news_blk (w.alloc (.cells #[.string ⟨#[49]⟩, .string ⟨#[50]⟩] 62)) [.string ⟨#[49]⟩, .string ⟨#[50]⟩] 62).alloc (.cells #[.string ⟨#[]⟩, .string ⟨#[]⟩] 62)
      simp only [World.size_alloc] at this
      exact this
    · have := news_blk ((w.alloc (.cells #[.string ⟨#[49]⟩, .string ⟨#[50]⟩] 62)).alloc (.cells #[.string ⟨#[49]⟩, .string ⟨#[50]⟩] 62)) [.string ⟨#[]⟩, .string ⟨#[]⟩] 62
      simp only [World.size_alloc] at this
      exact this
  have HB0 := Lib.hid hb0
  have HK2 := Lib.hid hk2
  have s0 := hk0.cell
  have s1 := hk1.cell
  have HC := Lib.hid (two_12 w0)
  clear hb0 hk0 hk1 hk2
  simp only [ratV] at HC ⊢
  go_enter Tryz.func32, Tryz.ntmps32
  go_wp2_with (go_at_call 57; refine HC.out.mono ?_; rintro e w1 ⟨rfl, HB1⟩; have q6 := (HK2.out.below HB1.out).cell; have r6 := (HK2.out.below HB1.out).frozen)
  refine bodyPost_ret (results_rat2 rfl _ _ (w.heap.size + 1 + 1) _ _ rfl (blk62 w1 _ _ _ _ _ (HK2.out.below HB1.out))) rfl ?_
  exact ⟨rfl, Lib.hid ((HB0.out.trans (HB1.out.mono HB0.out.size)).trans ((below62 _ _ _ _).mono (by omega)))⟩
end Go.Proofs.YtplkchmcojnimaaGreatDoor
/-
  wefttop: h10one.
-/
namespace Go.Proofs.YtplkchmcojnimaaGreatDoor
open Go.RowKit

set_option maxRecDepth 100000 in
set_option maxHeartbeats 1600000 in
theorem h10one_any (w : World) : Calls Tryz.prog 9 #[] w fun e w' => e = .returned (.bool true) ∧ Hid (Below w.heap.size w w') := by
  have HM := Lib.hid (make_12 w)
  have HA := Lib.hid (fun wx => add_12 wx)
  have HW1 := Lib.hid (fun wx => whole_1 wx)
  have HW2 := Lib.hid (fun wx => whole_2 wx)
  have c1 : ((⟨#[49]⟩ : ByteArray).toList == (⟨#[49]⟩ : ByteArray).toList) = true := by kernel_rfl
  have c2 : ((⟨#[49]⟩ : ByteArray).toList == (⟨#[50]⟩ : ByteArray).toList) = false := by kernel_rfl
  simp only [ratV] at HM HA HW1 HW2
  go_enter Tryz.func9, Tryz.ntmps9
  go_upto_region 2 with (go_at_call 31; refine HM.out.mono ?_; rintro e w1 ⟨rfl, HB1⟩)
  obtain ⟨w2, hw2, hb2, hk2⟩ : ∃ w2, w1.alloc (.cells #[.string ⟨#[49]⟩, .string ⟨#[50]⟩] 62) = w2 ∧ Below w.heap.size w w2 ∧ Blk w2 w1.heap.size [.string ⟨#[49]⟩, .string ⟨#[50]⟩] 62 := ⟨_, rfl, HB1.out.alloc HB1.out.size _, heap_alloc_new w1 _⟩
  have HB2 := Lib.hid hb2
  have q2 := hk2.cell
  clear hb2 hk2
  go_upto_region 3 with (go_at_call 32; refine (HA.out w2).mono ?_; rintro e w3 ⟨rfl, HB3'⟩; have HB3 := Lib.hid (HB2.out.trans (HB3'.out.mono HB2.out.size)))
  clear hw2 q2
  obtain ⟨w4, hw4, hb4, hk4⟩ : ∃ w4, w3.alloc (.cells #[.string ⟨#[49]⟩, .string ⟨#[49]⟩] 62) = w4 ∧ Below w.heap.size w w4 ∧ Blk w4 w3.heap.size [.string ⟨#[49]⟩, .string ⟨#[49]⟩] 62 := ⟨_, rfl, HB3.out.alloc HB3.out.size _, heap_alloc_new w3 _⟩
  rw [hw4]
  have HB4 := Lib.hid hb4
  have HQ := Lib.hid (fun (wx : World) (hb : Below w4.heap.size w4 wx) => (hk4.below hb).cell)
  clear hb4 hk4 hw4
  go_region_held3 (fun wy : World => ∀ o, wy.cell? ⟨w3.heap.size, o, none⟩ = ([Value.string ⟨#[49]⟩, .string ⟨#[49]⟩] : List Value)[o]?) (first | exact HQ.out _ HB6.out | exact HQ.out _ HB5.out | exact HQ.out _ (Below.refl _ _).drew | exact HQ.out _ (Below.refl _ _)) (first | (go_at_call 33; have _g := HB5; clear _g; refine (HW2.out w5).mono ?_; rintro e w6 ⟨rfl, HB6'⟩; have HB6 := Lib.hid (HB5.out.trans (HB6'.out.mono HB5.out.size)); dsimp only) | (go_at_call 33; refine (HW1.out w4.drew).mono ?_; rintro e w5 ⟨rfl, HB5'⟩; have HB5 : Hid (Below w4.heap.size w4 w5) := Lib.hid (below_undrew HB5'.out); dsimp only))
  go_wp2
  go_ret
  exact ⟨rfl, Lib.hid (HB4.out.trans (HB6.out.mono HB4.out.size))⟩
end Go.Proofs.YtplkchmcojnimaaGreatDoor
/-
  TopAnyKept: the order of shards; a changed byte: plain.
-/
namespace Go.Proofs.YtplkchmcojnimaaGreatDoor
open Go.RowKit

/-- An order of the first n numbers. -/
structure Perm (n : Nat) (js : Nat → Nat) : Prop where
  lt : ∀ i, i < n → js i < n
  ne : ∀ i, i < n → ∀ j, j < i → js j ≠ js i
  all : ∀ j, j < n → ∃ i, i < n ∧ js i = j
theorem Perm.id (n : Nat) : Perm n (fun i => i) := ⟨fun _ h => h, fun i _ j h => by omega, fun j h => ⟨j, h, rfl⟩⟩
def swapJ (js : Nat → Nat) (a b : Nat) : Nat → Nat := fun i => if i = a then js b else if i = b then js a else js i
theorem Perm.inj {n : Nat} {js : Nat → Nat} (h : Perm n js) {i j : Nat} (hi : i < n) (hj : j < n) (e : js i = js j) : i = j := by
  rcases Nat.lt_trichotomy i j with c | c | c
  · exact absurd e (h.ne j hj i c)
  · exact c
  · exact absurd e.symm (h.ne i hi j c)
def swapI (a b i : Nat) : Nat := if i = a then b else if i = b then a else i
theorem swapI_lt {n a b : Nat} (ha : a < n) (hb : b < n) (i : Nat) (hi : i < n) : swapI a b i < n := by
  unfold swapI
  by_cases h1 : i = a
  · rw [if_pos h1]; exact hb
  · by_cases h2 : i = b
    · rw [if_neg h1, if_pos h2]; exact ha
    · rw [if_neg h1, if_neg h2]; exact hi
theorem swapI_back (a b i : Nat) : swapI a b (swapI a b i) = i := by
  unfold swapI
  by_cases h1 : i = a
  · subst h1
    by_cases h2 : b = i
    · simp [h2]
    · simp [h2]
  · by_cases h2 : i = b
    · subst h2; simp [h1]
    · simp [h1, h2]
theorem swapJ_eq (js : Nat → Nat) (a b i : Nat) : swapJ js a b i = js (swapI a b i) := by
  unfold swapJ swapI
  by_cases h1 : i = a
  · simp [h1]
  · by_cases h2 : i = b
    · subst h2; simp [h1]
    · simp [h1, h2]
theorem Perm.swap {n : Nat} {js : Nat → Nat} (h : Perm n js) {a b : Nat} (ha : a < n) (hb : b < n) : Perm n (swapJ js a b) := by
  refine ⟨fun i hi => by rw [swapJ_eq]; exact h.lt _ (swapI_lt ha hb i hi), fun i hi j hj e => ?_, fun j hj => ?_⟩
  · rw [swapJ_eq, swapJ_eq] at e
    have := h.inj (swapI_lt ha hb j (by omega)) (swapI_lt ha hb i hi) e
    have e2 := congrArg (swapI a b) this
    rw [swapI_back, swapI_back] at e2
    omega
  · obtain ⟨i, hi, e⟩ := h.all j hj
    exact ⟨swapI a b i, swapI_lt ha hb i hi, by rw [swapJ_eq, swapI_back]; exact e⟩
def permV (vs : List Value) (n : Nat) (js : Nat → Nat) : List Value := (List.range n).map fun i => vs.getD (js i) (.slice none 0 0)
theorem permV_len (vs : List Value) (n : Nat) (js : Nat → Nat) : (permV vs n js).length = n := by simp [permV]
theorem permV_get (vs : List Value) {n : Nat} (js : Nat → Nat) {i : Nat} (hi : i < n) : (permV vs n js)[i]? = some (vs.getD (js i) (.slice none 0 0)) := by simp [permV, hi]
theorem permV_swap (vs : List Value) {n : Nat} (js : Nat → Nat) {a b : Nat} (ha : a < n) (hb : b < n) : ((permV vs n js).set a (vs.getD (js b) (.slice none 0 0))).set b (vs.getD (js a) (.slice none 0 0)) = permV vs n (swapJ js a b) := by
  apply List.ext_getElem?
  intro i
  by_cases hi : i < n
  · rw [permV_get vs _ hi]
    simp only [List.getElem?_set, permV_get vs js hi, List.length_set, permV_len]
    unfold swapJ
    by_cases h1 : b = i
    · subst h1
      by_cases h2 : b = a
      · subst h2; simp [hb]
      · simp [h2, hb]
    · by_cases h2 : a = i
      · subst h2; simp [h1, ha]
      · simp [h1, h2, Ne.symm h1, Ne.symm h2]
  · rw [List.getElem?_eq_none (by simp only [List.length_set, permV_len]; omega), List.getElem?_eq_none (by rw [permV_len]; omega)]
theorem set_at {l : List Value} {i J : Nat} {v : Value} (h : l[J]? = some v) : (l.set i v)[J]? = some v := by
  rw [List.getElem?_set]
  by_cases e : i = J
  · subst e
    have := (List.getElem?_eq_some_iff.1 h).1
    simp [this]
  · rw [if_neg e]; exact h
theorem permV_id {vs : List Value} {n : Nat} (h : vs.length = n) : permV vs n (fun i => i) = vs := by
  subst h
  apply List.ext_getElem?
  intro i
  by_cases hi : i < vs.length
  · rw [permV_get vs _ hi, List.getElem?_eq_getElem hi]; simp [List.getD, hi]
  · rw [List.getElem?_eq_none (by rw [permV_len]; omega), List.getElem?_eq_none (by omega)]
/-- The rest of a number by another one, as Go has it. -/
theorem rest_of (x : Int) {n : Nat} (hn : 1 ≤ n ∧ n ≤ 1000000) : ∃ J : Nat, Int.tmod (IntKind.u64.wrap x) (n : Int) = J ∧ J < n ∧ IntKind.u64.wrap (n : Int) = n ∧ IntKind.i64.wrap (J : Int) = J := by
  have hw : ∀ y : Int, IntKind.u64.wrap y = y % 18446744073709551616 := fun y => by simp [IntKind.wrap, IntKind.signed, IntKind.bits]
  have h0 : 0 ≤ IntKind.u64.wrap x := by rw [hw]; omega
  have h1 := Int.emod_nonneg (IntKind.u64.wrap x) (show (n : Int) ≠ 0 by omega)
  have h2 := Int.emod_lt_of_pos (IntKind.u64.wrap x) (show (0 : Int) < n by omega)
  refine ⟨((IntKind.u64.wrap x) % n).toNat, by rw [Int.tmod_eq_emod_of_nonneg h0]; omega, by omega, by rw [hw]; omega, ?_⟩
  exact IntWalk.i64_in _ (by omega)
theorem plus_one {r : Nat} (h : r < 255) : IntKind.u64.wrap (1 + (r : Int)) = 1 + (r : Int) ∧ IntKind.u8.wrap (1 + (r : Int)) = 1 + (r : Int) := by
  have hw : ∀ y : Int, IntKind.u64.wrap y = y % 18446744073709551616 := fun y => by simp [IntKind.wrap, IntKind.signed, IntKind.bits]
  have hw8 : ∀ x : Int, IntKind.u8.wrap x = x % 256 := fun x => by simp [IntKind.wrap, IntKind.signed, IntKind.bits]
  rw [hw, hw8]; omega
/-- The shards in an order. -/
def permL (B : List Int) (n : Nat) (js : Nat → Nat) : List (List Int) := (List.range n).map fun i => shard B n (js i)
theorem permL_len (B : List Int) (n : Nat) (js : Nat → Nat) : (permL B n js).length = n := by simp [permL]
theorem permL_get (B : List Int) {n : Nat} (js : Nat → Nat) {i : Nat} (hi : i < n) : (permL B n js).getD i [] = shard B n (js i) := by simp [permL, List.getD, hi]
theorem shs_perm {w : World} {base : Nat} {vs : List Value} {B : List Int} {n : Nat} (h : Shs w base vs (shardsTo B n n)) {js : Nat → Nat} (hp : Perm n js) : ShR w (permV vs n js) (permL B n js) := by
  refine ⟨by rw [permV_len, permL_len], fun k hk => ?_⟩
  rw [permL_len] at hk
  have hj := hp.lt k hk
  have h2 := h.2 (js k) (by rw [shardsTo_len]; exact hj)
  have e1 : (shardsTo B n n).getD (js k) [] = shard B n (js k) := by simp [shardsTo, List.getD, hj]
  rw [e1] at h2
  have e2 : (permV vs n js).getD k (.slice none 0 0) = vs.getD (js k) (.slice none 0 0) := by rw [List.getD, permV_get vs js hk]; rfl
  rw [permL_get B js hk, e2]
  obtain ⟨A, c, e3⟩ := ownsRow_shape h2
  rw [e3] at h2 ⊢
  exact ⟨A, c, rfl, rdv_row1 h2⟩
theorem own_ne {w : World} {base base' : Nat} {e e' : TypeId} {v : Value} {n n' c' g k : Nat} {xs ys : List Value} (hne : e ≠ e') (h : w.ownsRow base e 1 v n xs) (hr : w.ownsRow base' e' 1 (.slice (some ⟨g, 0, none⟩) n' c') n' ys) (hk : v.ownBlock = some k) : k ≠ g := by
  rcases h.2 with ⟨h1, -⟩ | ⟨g1, cap, cur, h1, -, h2, -⟩
  · rw [h1] at hk; simp [Value.ownBlock] at hk
  · rcases hr.2 with ⟨k1, -⟩ | ⟨g2, cap2, cur2, k1, -, k2, -⟩
    · cases k1
    · injection k1 with k1; injection k1 with k1; injection k1 with k1
      subst k1
      rw [h1] at hk
      have e1 : g1 = k := by simpa [Value.ownBlock] using hk
      subst e1
      intro e1
      subst e1
      rw [h2] at k2
      injection k2 with k2
      injection k2 with _ k2
      exact hne k2
theorem shs_ks {w w' : World} {base base' : Nat} {vs : List Value} {ls : List (List Int)} {g n c : Nat} {ys : List Value} (h : Shs w base vs ls) (hr : w.ownsRow base' 34 1 (.slice (some ⟨g, 0, none⟩) n c) n ys) (hk : KS g w w') : Shs w' base vs ls :=
  ⟨h.1, fun j hj => ownsRow_block (h.2 j hj) fun b _ hv => hk.block b (own_ne (by decide) (h.2 j hj) hr hv)⟩
theorem shs_block {w w' : World} {base : Nat} {vs : List Value} {ls : List (List Int)} (h : Shs w base vs ls) (hb : ∀ j, j < ls.length → ∀ b, b < w.heap.size → (vs.getD j (.slice none 0 0)).ownBlock = some b → w'.heap[b]? = w.heap[b]?) : Shs w' base vs ls :=
  ⟨h.1, fun j hj => ownsRow_block (h.2 j hj) (hb j hj)⟩
theorem KS.drew {sb : Nat} {w w' : World} (h : KS sb w w') : KS sb w w'.drew := ⟨h.os, h.tape, h.output, h.size, h.block⟩
/-- A byte that is changed. -/
theorem xor_u8 {x y : Int} (hx : 0 ≤ x ∧ x ≤ 255) (hy : 1 ≤ y ∧ y ≤ 255) : 0 ≤ bits BinOp.xor IntKind.u8 x y ∧ bits BinOp.xor IntKind.u8 x y ≤ 255 ∧ bits BinOp.xor IntKind.u8 x y ≠ x := by
  obtain ⟨a, rfl⟩ : ∃ a : Nat, x = a := ⟨x.toNat, by omega⟩
  obtain ⟨b, rfl⟩ : ∃ b : Nat, y = b := ⟨y.toNat, by omega⟩
  have h8 : ∀ x : Nat, x < 256 → (BitVec.ofInt 8 (x : Int)).toNat = x := fun x hx => by
    rw [BitVec.toNat_ofInt]
    show ((x : Int) % 256).toNat = x
    omega
  have hw : ∀ x : Int, IntKind.u8.wrap x = x % 256 := fun x => by simp [IntKind.wrap, IntKind.signed, IntKind.bits]
  have e : bits BinOp.xor IntKind.u8 (a : Int) (b : Int) = ((a ^^^ b : Nat) : Int) := by
    show IntKind.u8.wrap ((BitVec.ofInt 8 (a : Int) ^^^ BitVec.ofInt 8 (b : Int)).toNat : Int) = _
    rw [BitVec.toNat_xor, h8 a (by omega), h8 b (by omega), hw]
    have : a ^^^ b < 2 ^ 8 := Nat.xor_lt_two_pow (by omega) (by omega)
    omega
  rw [e]
  have hlt : a ^^^ b < 2 ^ 8 := Nat.xor_lt_two_pow (by omega) (by omega)
  refine ⟨by omega, by omega, fun h => ?_⟩
  have h1 : a ^^^ b = a := by omega
  have h2 : a ^^^ (a ^^^ b) = a ^^^ a := by rw [h1]
  rw [← Nat.xor_assoc, Nat.xor_self, Nat.zero_xor] at h2
  omega
theorem Bytes.set {l : List Int} (h : Bytes l) (i : Nat) {y : Int} (hy : 0 ≤ y ∧ y ≤ 255) : Bytes (l.set i y) := fun x hx => by
  rcases List.mem_or_eq_of_mem_set hx with h1 | h1
  · exact h x h1
  · subst h1; exact hy
theorem bys_set (l : List Int) (i : Nat) (y : Int) : bys (l.set i y) = (bys l).set i (.int .u8 y) := by simp [bys, List.map_set]
end Go.Proofs.YtplkchmcojnimaaGreatDoor
