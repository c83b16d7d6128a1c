/-
  codec: Source: what else is as it was.
  codec: Source: Number.
  codec: Source: count; Listed.
-/
import Derived.Test.YtplkchmcojnimaaGreatDoorSa3
import Derived.Test.YtplkchmcojnimaaGreatDoorSa9
import Derived.Test.YtplkchmcojnimaaGreatDoorSa10
/-
  codec: Source: what else is as it was.
-/
namespace Go.Proofs.YtplkchmcojnimaaGreatDoor
open Go.RowKit

/-- Nothing but a source's cell is written. -/
structure KS (sb : Nat) (w w' : World) : Prop where
  os : w'.os = w.os
  tape : w'.tape = w.tape
  output : w'.output = w.output
  size : w'.heap.size = w.heap.size
  block : ∀ b, b ≠ sb → w'.heap[b]? = w.heap[b]?
theorem KS.refl (sb : Nat) (w : World) : KS sb w w := ⟨rfl, rfl, rfl, rfl, fun _ _ => rfl⟩
theorem KS.trans {sb : Nat} {w w1 w2 : World} (h : KS sb w w1) (k : KS sb w1 w2) : KS sb w w2 :=
  ⟨k.os.trans h.os, k.tape.trans h.tape, k.output.trans h.output, k.size.trans h.size, fun b hb => (k.block b hb).trans (h.block b hb)⟩
theorem KS.set (sb o : Nat) (w : World) (v : Value) : KS sb w (w.setCell ⟨sb, o, none⟩ v) :=
  ⟨rfl, rfl, rfl, by simp [World.setCell], fun b hb => Below.heap_setCell _ _ _ _ hb⟩
theorem KS.below {sb B : Nat} {w w' : World} (h : KS sb w w') (hB : B ≤ sb) (_hs : B ≤ w.heap.size) : Below B w w' :=
  ⟨h.os, h.tape, h.output, Nat.le_of_eq h.size.symm, fun b hb => h.block b (by omega)⟩
theorem byte_ks (sb b o n c : Nat) (x : Int) (l : List Int) (w : World) (h : SSt w sb (some ⟨b, o, none⟩) n c (x :: l)) :
    Calls Tryz.prog 83 #[.pointer (some ⟨sb, 0, none⟩)] w fun e w' => e = .returned (.int .u8 x) ∧ ∃ o', Hid (SSt w' sb (some ⟨b, o', none⟩) (n - 1) (c - 1) l) ∧ Hid (KS sb w w') :=
  (byte_any sb b o n c x l w h).mono fun e w' ⟨he, o', h1, h2⟩ => ⟨he, o', h1, Lib.hid (by rw [h2.out]; exact KS.set _ _ _ _)⟩
end Go.Proofs.YtplkchmcojnimaaGreatDoor
/-
  codec: Source: Number.
-/
namespace Go.Proofs.YtplkchmcojnimaaGreatDoor
open Go.RowKit

theorem and127 (u : Nat) (hu : u < 256) : bits BinOp.and IntKind.u8 (u : Int) 127 = ((u % 128 : Nat) : Int) := by
  have h8 : ∀ x : Nat, x < 256 → (BitVec.ofInt 8 (x : Int)).toNat = x := fun x hx => by
    rw [BitVec.toNat_ofInt]
    show ((x : Int) % 256).toNat = x
    omega
  have hw : ∀ x : Int, IntKind.u8.wrap x = x % 256 := fun x => by simp [IntKind.wrap, IntKind.signed, IntKind.bits]
  show IntKind.u8.wrap ((BitVec.ofInt 8 (u : Int) &&& BitVec.ofInt 8 (127 : Int)).toNat : Int) = _
  rw [BitVec.toNat_and, h8 u hu, show (127 : Int) = ((127 : Nat) : Int) from rfl, h8 127 (by decide), hw]
  have : u &&& 127 = u % 128 := Nat.and_two_pow_sub_one_eq_mod u 7
  rw [this]
  omega
theorem or0 (u : Nat) (hu : u < 1000) : bits BinOp.or IntKind.i64 0 (u : Int) = (u : Int) := by
  have := or_at 0 u 0 1 rfl (by omega) (by omega) (by omega)
  simpa using this
theorem half_a {u : Int} (h : 0 ≤ u) : Int.tdiv u 2 = u / 2 := Int.tdiv_eq_ediv_of_nonneg h
theorem half_b {u : Int} (h : 0 ≤ u) : Int.tmod u 2 = u % 2 := Int.tmod_eq_emod_of_nonneg h
/-- What a number comes of. -/
theorem snum_fin {x : Int} (hx : -1000 ≤ x ∧ x ≤ 1000) : ∃ u q r : Nat, numU x = u ∧ u ≤ 2000 ∧ q ≤ 1000 ∧ Int.tdiv (u : Int) 2 = q ∧ Int.tmod (u : Int) 2 = r ∧ (r = 1 ∧ -(q : Int) - 1 = x ∨ r = 0 ∧ (q : Int) = x) := by
  have h1 := numU_in hx
  have h2 := numU_back (n := x)
  generalize numU x = y at h1 h2
  refine ⟨y.toNat, (y / 2).toNat, (y % 2).toNat, by omega, by omega, by omega, ?_, ?_, ?_⟩
  · rw [Int.toNat_of_nonneg h1.1, half_a h1.1]; omega
  · rw [Int.toNat_of_nonneg h1.1, half_b h1.1]; omega
  · by_cases h : y % 2 = 1
    · rw [if_pos h] at h2; left; omega
    · rw [if_neg h] at h2; right; omega
theorem wrap_neg {q : Nat} (h : q ≤ 1000) : wrap64 (q : Int) = q ∧ wrap64 (-(q : Int)) = -(q : Int) ∧ wrap64 (-(q : Int) - 1) = -(q : Int) - 1 := ⟨wrap64_in (by omega), wrap64_in (by omega), wrap64_in (by omega)⟩
set_option maxRecDepth 100000 in
set_option maxHeartbeats 1600000 in
theorem snum_one (sb b o n c : Nat) (x : Int) (hx : -1000 ≤ x ∧ x ≤ 1000) (h1 : numU x < 128) (l : List Int) (w : World) (h : SSt w sb (some ⟨b, o, none⟩) n c (numB x ++ l)) :
    Calls Tryz.prog 62 #[.pointer (some ⟨sb, 0, none⟩)] w fun e w' => e = .returned (.int .i64 x) ∧ ∃ o' n' c', Hid (SSt w' sb (some ⟨b, o', none⟩) n' c' l) ∧ Hid (KS sb w w') := by
  rw [numB_one hx h1, List.singleton_append] at h
  have HC := Lib.hid (byte_ks sb b o n c (numU x) l w h)
  obtain ⟨u, q, r, hU, hu, hq, e3, e4, hb⟩ := snum_fin hx
  rw [hU] at h1 HC
  have hu2 : u < 128 := by omega
  have e0 : bits BinOp.and IntKind.u8 (u : Int) 127 = (u : Int) := by rw [and127 u (by omega), Nat.mod_eq_of_lt hu2]
  have e1 : wrap64 (u : Int) = (u : Int) := wrap64_in (by omega)
  have e2 : bits BinOp.or IntKind.i64 0 (u : Int) = (u : Int) := or0 u (by omega)
  obtain ⟨e5, e6, e7⟩ := wrap_neg hq
  clear h hU hx
  rcases hb with ⟨rfl, rfl⟩ | ⟨rfl, rfl⟩
  all_goals
    by_cases hz : u = 0
    · have z : ((u : Int) == 0) = true := by simp [hz]
      clear hz
      go_enter Tryz.func62, Tryz.ntmps62
      go_wp2
      go_loopg [3, 4] 0 (fun gk s3 s4 wx => s3 = .int .i64 0 ∧ s4 = .int .i64 0 ∧ wx = w ∧ gk = 0)
      case atStart => exact ⟨rfl, rfl, rfl, rfl⟩
      case round =>
        obtain ⟨rfl, rfl, rfl, rfl⟩ := hrel
        go_wp2_with (go_at_call 83; refine HC.out.mono ?_; rintro e w1 ⟨rfl, o1, HS1, HK1⟩)
        go_ret
        exact ⟨rfl, o1, _, _, HS1, HK1⟩
    · have z : ((u : Int) == 0) = false := by simp [hz]
      clear hz
      go_enter Tryz.func62, Tryz.ntmps62
      go_wp2
      go_loopg [3, 4] 0 (fun gk s3 s4 wx => s3 = .int .i64 0 ∧ s4 = .int .i64 0 ∧ wx = w ∧ gk = 0)
      case atStart => exact ⟨rfl, rfl, rfl, rfl⟩
      case round =>
        obtain ⟨rfl, rfl, rfl, rfl⟩ := hrel
        go_wp2_with (go_at_call 83; refine HC.out.mono ?_; rintro e w1 ⟨rfl, o1, HS1, HK1⟩)
        go_ret
        exact ⟨rfl, o1, _, _, HS1, HK1⟩
theorem snum_b2 {u : Nat} : bits BinOp.and IntKind.u8 ((u : Int) % 128 + 128) 127 = ((u % 128 : Nat) : Int) ∧ ¬ ((u : Int) % 128 + 128 < 128) ∧ wrap64 ((u % 128 : Nat) : Int) = ((u % 128 : Nat) : Int) ∧ bits BinOp.or IntKind.i64 0 ((u % 128 : Nat) : Int) = ((u % 128 : Nat) : Int) := by
  refine ⟨?_, by omega, wrap64_in (by omega), or0 _ (by omega)⟩
  have := and127 (u % 128 + 128) (by omega)
  rw [show (u % 128 + 128) % 128 = u % 128 by omega] at this
  rw [← this]; rfl
theorem snum_b3 {u : Nat} (h1 : 128 ≤ u) (hu : u ≤ 2000) : bits BinOp.and IntKind.u8 ((u : Int) / 128) 127 = ((u / 128 : Nat) : Int) ∧ wrap64 ((u / 128 : Nat) : Int) = ((u / 128 : Nat) : Int) ∧ (u : Int) / 128 < 128 ∧ ¬ (u : Int) / 128 = 0 := by
  refine ⟨?_, wrap64_in (by omega), by omega, by omega⟩
  have := and127 (u / 128) (by omega)
  rw [show u / 128 % 128 = u / 128 by omega] at this
  rw [← this]; rfl
theorem snum_b5 {u : Nat} (hu : u ≤ 2000) : wrap64 (((u / 128 : Nat) : Int) * 128) = ((u / 128 : Nat) : Int) * 128 := wrap64_in (by omega)
theorem snum_b4 {u : Nat} (hu : u ≤ 2000) : bits BinOp.or IntKind.i64 ((u % 128 : Nat) : Int) (((u / 128 : Nat) : Int) * 128) = (u : Int) := by
  have h := or_at (u % 128) (u / 128) 7 128 rfl (by omega) (by omega) (by omega)
  have e : u % 128 + u / 128 * 128 = u := by omega
  rw [e] at h
  exact h
set_option maxRecDepth 100000 in
set_option maxHeartbeats 1600000 in
theorem snum_two (sb b o n c : Nat) (x : Int) (hx : -1000 ≤ x ∧ x ≤ 1000) (h1 : 128 ≤ numU x) (l : List Int) (w : World) (h : SSt w sb (some ⟨b, o, none⟩) n c (numB x ++ l)) :
    Calls Tryz.prog 62 #[.pointer (some ⟨sb, 0, none⟩)] w fun e w' => e = .returned (.int .i64 x) ∧ ∃ o' n' c', Hid (SSt w' sb (some ⟨b, o', none⟩) n' c' l) ∧ Hid (KS sb w w') := by
  rw [numB_two hx h1, List.cons_append, List.singleton_append] at h
  have HC := Lib.hid (byte_ks sb b o n c _ _ w h)
  have HN := Lib.hid (fun o' n' c' (wx : World) (y : Int) (hS : SSt wx sb (some ⟨b, o', none⟩) n' c' (y :: l)) => byte_ks sb b o' n' c' y l wx hS)
  obtain ⟨u, q, r, hU, hu, hq, e3, e4, hb⟩ := snum_fin hx
  rw [hU] at h1 HC
  have h1 : 128 ≤ u := Int.ofNat_le.1 h1
  obtain ⟨f1, f2, f3, f4⟩ := snum_b2 (u := u)
  obtain ⟨g1, g2, g3, g4⟩ := snum_b3 h1 hu
  have g5 := snum_b4 hu
  have g6 := snum_b5 hu
  obtain ⟨e5, e6, e7⟩ := wrap_neg hq
  clear h hU hx
  have H1 := Lib.hid h1
  clear h1
  generalize hY : (u : Int) % 128 + 128 = y at HC f1 f2
  generalize hZ : (u : Int) / 128 = z at HC g1 g3 g4
  generalize hV : ((u % 128 : Nat) : Int) = v at f1 f3 f4 g5
  generalize hT : ((u / 128 : Nat) : Int) = t at g1 g2 g5 g6
  have hz : (z == 0) = false := by simp [g4]
  clear hY hZ hV hT g4
  rcases hb with ⟨rfl, rfl⟩ | ⟨rfl, rfl⟩
  all_goals
    go_enter Tryz.func62, Tryz.ntmps62
    go_wp2
    go_loopg [3, 4] 1 (fun gk s3 s4 wx => (s3 = .int .i64 0 ∧ s4 = .int .i64 0 ∧ wx = w ∧ gk = 1) ∨ (s3 = .int .i64 v ∧ s4 = .int .i64 1 ∧ gk = 0 ∧ ∃ o', Hid (SSt wx sb (some ⟨b, o', none⟩) (n - 1) (c - 1) (z :: l)) ∧ Hid (KS sb w wx)))
    case atStart => exact .inl ⟨rfl, rfl, rfl, rfl⟩
    case round =>
      rcases hrel with ⟨rfl, rfl, rfl, rfl⟩ | ⟨rfl, rfl, rfl, o1, HS1, HK1⟩
      · go_wp2_with (go_at_call 83; refine HC.out.mono ?_; rintro e w1 ⟨rfl, o1, HS1, HK1⟩)
        go_roundg 0
        case measure => omega
        case rel => exact .inr ⟨by go_num, rfl, rfl, o1, HS1, HK1⟩
      · have HC2 := Lib.hid (HN.out o1 _ _ wr z HS1.out)
        go_wp2_with (go_at_call 83; refine HC2.out.mono ?_; rintro e w2 ⟨rfl, o2, HS2, HK2⟩)
        go_ret
        exact ⟨rfl, o2, _, _, HS2, Lib.hid (HK1.out.trans HK2.out)⟩
theorem snum_any (sb b o n c : Nat) (x : Int) (hx : -1000 ≤ x ∧ x ≤ 1000) (l : List Int) (w : World) (h : SSt w sb (some ⟨b, o, none⟩) n c (numB x ++ l)) :
    Calls Tryz.prog 62 #[.pointer (some ⟨sb, 0, none⟩)] w fun e w' => e = .returned (.int .i64 x) ∧ ∃ o' n' c', Hid (SSt w' sb (some ⟨b, o', none⟩) n' c' l) ∧ Hid (KS sb w w') := by
  by_cases h1 : numU x < 128
  · exact snum_one sb b o n c x hx h1 l w h
  · exact snum_two sb b o n c x hx (by omega) l w h
end Go.Proofs.YtplkchmcojnimaaGreatDoor
/-
  codec: Source: count; Listed.
-/
namespace Go.Proofs.YtplkchmcojnimaaGreatDoor
open Go.RowKit

set_option maxRecDepth 100000 in
set_option maxHeartbeats 800000 in
theorem count_any (sb b o n c : Nat) (k : Nat) (hk : k ≤ 1000) (l : List Int) (w : World) (h : SSt w sb (some ⟨b, o, none⟩) n c (numB k ++ l)) :
    Calls Tryz.prog 84 #[.pointer (some ⟨sb, 0, none⟩)] w fun e w' => e = .returned (.int .i64 k) ∧ ∃ o' n' c', Hid (SSt w' sb (some ⟨b, o', none⟩) n' c' l) ∧ Hid (KS sb w w') := by
  have HC := Lib.hid (snum_any sb b o n c k (by omega) l w h)
  have t : ¬ (k : Int) < 0 := by omega
  clear h hk
  go_enter Tryz.func84, Tryz.ntmps84
  go_wp2_with (go_at_call 62; refine HC.out.mono ?_; rintro e w1 ⟨rfl, o1, n1, c1, HS1, HK1⟩)
  go_ret
  exact ⟨rfl, o1, n1, c1, HS1, HK1⟩
theorem SSt.grown {w w' : World} {sb b o n c : Nat} {l : List Int} {row : Option Nat} (h : SSt w sb (some ⟨b, o, none⟩) n c l) (hg : w.grownBy w' row) (hs : some sb ≠ row) (hb : some b ≠ row) : SSt w' sb (some ⟨b, o, none⟩) n c l :=
  ⟨h.blk.grown hg hs, h.rd.block fun k hk hv => hg.block k hk (by have e : b = k := by simpa [Value.ownBlock] using hv
                                                                  rw [← e]; exact hb), h.ne⟩
theorem SSt.below {w w' : World} {sb b o n c : Nat} {l : List Int} (h : SSt w sb (some ⟨b, o, none⟩) n c l) (hb : Below w.heap.size w w') : SSt w' sb (some ⟨b, o, none⟩) n c l :=
  ⟨h.blk.below hb, h.rd.below hb, h.ne⟩
theorem SSt.lt {w : World} {sb b o n c : Nat} {l : List Int} (h : SSt w sb (some ⟨b, o, none⟩) n c l) (hl : 0 < l.length) : b < w.heap.size := h.rd.lt (by rw [bys_length]; exact hl) b rfl
/-- Below a bound nothing but a source's cell is written. -/
structure KN (sb base : Nat) (w w' : World) : Prop where
  os : w'.os = w.os
  tape : w'.tape = w.tape
  output : w'.output = w.output
  size : w.heap.size ≤ w'.heap.size
  block : ∀ b, b < base → b ≠ sb → w'.heap[b]? = w.heap[b]?
theorem KN.refl (sb base : Nat) (w : World) : KN sb base w w := ⟨rfl, rfl, rfl, Nat.le_refl _, fun _ _ _ => rfl⟩
theorem KN.trans {sb base : Nat} {w w1 w2 : World} (h : KN sb base w w1) (k : KN sb base w1 w2) : KN sb base w w2 :=
  ⟨k.os.trans h.os, k.tape.trans h.tape, k.output.trans h.output, Nat.le_trans h.size k.size, fun b hb hn => (k.block b hb hn).trans (h.block b hb hn)⟩
theorem KN.of_ks {sb base : Nat} {w w' : World} (h : KS sb w w') : KN sb base w w' := ⟨h.os, h.tape, h.output, Nat.le_of_eq h.size.symm, fun b _ hn => h.block b hn⟩
theorem KN.of_below {sb base : Nat} {w w' : World} (h : Below base w w') : KN sb base w w' := ⟨h.os, h.tape, h.output, h.size, fun b hb _ => h.block b hb⟩
theorem KN.mono {sb base base' : Nat} {w w' : World} (h : KN sb base w w') (hb : base' ≤ base) : KN sb base' w w' := ⟨h.os, h.tape, h.output, h.size, fun b hlt hn => h.block b (by omega) hn⟩
theorem KN.below {sb base : Nat} {w w' : World} (h : KN sb base w w') {B : Nat} (hB : B ≤ base) (hs : B ≤ sb) : Below B w w' :=
  ⟨h.os, h.tape, h.output, h.size, fun b hb => h.block b (by omega) (by omega)⟩
/-- A row of one's own beside a source. -/
theorem own_ks {w w' : World} {sb base : Nat} {e : TypeId} {size : Nat} {v : Value} {n : Nat} {xs : List Value} (h : w.ownsRow base e size v n xs) (hk : KS sb w w') (hs : sb < base) : w'.ownsRow base e size v n xs :=
  ownsRow_block h fun k _ hv => hk.block k (by have := ownsRow_base h k hv; omega)
def restOf (xs : List Int) (l : List Int) (i : Nat) : List Int := (xs.drop i).flatMap numB ++ l
theorem restOf_succ (xs l : List Int) (i : Nat) (hi : i < xs.length) : restOf xs l i = numB (xs.getD i 0) ++ restOf xs l (i + 1) := by
  unfold restOf
  rw [List.drop_eq_getElem_cons hi, List.flatMap_cons, List.append_assoc]
  simp [List.getD, hi]
theorem restOf_zero (xs l : List Int) : listB xs ++ l = numB xs.length ++ restOf xs l 0 := by rw [listB_eq]; simp [encL, restOf]
theorem restOf_end (xs l : List Int) : restOf xs l xs.length = l := by simp [restOf]
theorem take_ints (xs : List Int) (i : Nat) (hi : i < xs.length) : ints (xs.take (i + 1)) = ints (xs.take i) ++ [.int .i64 (xs.getD i 0)] := by
  rw [List.take_add_one, ints, List.map_append]; simp [ints, List.getD, hi]
set_option maxRecDepth 100000 in
set_option maxHeartbeats 1600000 in
theorem listed_any (sb b o n c : Nat) (xs : List Int) (hlen : xs.length ≤ 1000) (hin : ∀ x, x ∈ xs → -1000 ≤ x ∧ x ≤ 1000) (l : List Int) (w : World) (h : SSt w sb (some ⟨b, o, none⟩) n c (listB xs ++ l)) :
    Calls Tryz.prog 63 #[.pointer (some ⟨sb, 0, none⟩), .func (.func 62) #[.pointer (some ⟨sb, 0, none⟩)] #[]] w fun e w' => ∃ A c5, e = .returned (.slice A xs.length c5) ∧ Hid (w'.ownsRow w.heap.size 3 1 (.slice A xs.length c5) xs.length (ints xs)) ∧ ∃ o' n' c', Hid (SSt w' sb (some ⟨b, o', none⟩) n' c' l) ∧ Hid (KN sb w.heap.size w w') := by
  rw [restOf_zero] at h
  have hsb := h.blk.lt
  have hbb := h.lt (by rw [List.length_append]; have := numB_ne (n := (xs.length : Int)) (by omega); omega)
  have HC := Lib.hid (count_any sb b o n c xs.length hlen _ w h)
  have HN := Lib.hid (fun o' n' c' (wx : World) (y : Int) (hy : -1000 ≤ y ∧ y ≤ 1000) (l' : List Int) (hS : SSt wx sb (some ⟨b, o', none⟩) n' c' (numB y ++ l')) => snum_any sb b o' n' c' y hy l' wx hS)
  have HB := Lib.hid (And.intro hsb hbb)
  have HIN := Lib.hid (fun i (hi : i < xs.length) => hin (xs.getD i 0) (by rw [show xs.getD i 0 = xs[i] by simp [List.getD, hi]]; exact List.getElem_mem hi))
  have HE := Lib.hid (restOf_end xs l)
  obtain ⟨i0, hi0, hz0, hz1, hz2⟩ := info_parts info3
  clear h hsb hbb hin
  go_enter Tryz.func63, Tryz.ntmps63
  go_wp2_with (go_at_call 84; refine HC.out.mono ?_; rintro e w1 ⟨rfl, o1, n1, c1, HS1, HK1⟩)
  go_loopg [5, 8] xs.length (fun gk s5 s8 wx => ∃ i : Nat, s8 = .int .i64 i ∧ i ≤ xs.length ∧ gk = xs.length - i ∧ Hid (wx.ownsRow w.heap.size 3 1 s5 i (ints (xs.take i))) ∧ ∃ o' n' c', Hid (SSt wx sb (some ⟨b, o', none⟩) n' c' (restOf xs l i)) ∧ Hid (KN sb w.heap.size w wx))
  case atStart => exact ⟨0, rfl, by omega, rfl, Lib.hid (World.ownsRow_nil _ _ _ _), o1, n1, c1, HS1, Lib.hid (KN.of_ks HK1.out)⟩
  case round =>
    obtain ⟨i, rfl, hi, rfl, HO, o2, n2, c2, HS2, HK2⟩ := hrel
    obtain ⟨A5, c5, hv5⟩ := ownsRow_shape HO.out
    subst hv5
    by_cases hlt : i < xs.length
    · have HT := Lib.hid (take_ints xs i hlt)
      have hx := HIN.out i hlt
      have hS := HS2.out
      rw [restOf_succ xs l i hlt] at hS
      generalize xs.getD i 0 = x at hS hx HT
      have HCX := Lib.hid (HN.out o2 n2 c2 wr x hx _ hS)
      clear hx hS
      have hmx : i + 1 ≤ maxLen := by unfold maxLen; omega
      have hmb : (i + 1) * 8 ≤ 140737488355328 := by omega
      go_wp2_with (first | (go_at_call 62; refine HCX.out.mono ?_; rintro e w3 ⟨rfl, o3, n3, c3, HS3, HK3⟩; have HO3 := Lib.hid (own_ks HO.out HK3.out HB.out.1)) | (at_builtin; refine wpList_append_lies _ rfl _ _ 22 rfl w.heap.size 3 i0 (.int .i64 0) 1 8 Tryz.underlying22 hi0 hz0 hz1 hz2 rfl (by decide) _ i _ rfl (ownsRow_below HO3.out ((Below.refl _ _).alloc (Nat.le_refl _) _)) ⟨w3.heap.size, 0, none⟩ 1 1 [.int .i64 x] rfl rfl (news1' _ _ _) (one_int _ _) Nat.one_pos hmx hmb (Nat.le_trans (Nat.le_trans HK2.out.size (Nat.le_of_eq HK3.out.size.symm)) (alloc_le _ _)) _ rfl ?_; intro g4 c4 w4 ho4 hg4 hat4 hlt4; have HO4 := Lib.hid ho4; have HG4 := Lib.hid hg4; clear ho4 hg4 hat4 hlt4))
      have HR4 := Lib.hid (ownsRow_base HO3.out)
      go_roundg (xs.length - (i + 1))
      case measure => omega
      case rel => exact ⟨i + 1, by go_num, by omega, rfl, Lib.hid (by rw [HT.out]; exact HO4.out), o3, n3, c3, Lib.hid ((HS3.out.below ((Below.refl _ _).alloc (Nat.le_refl _) _)).grown HG4.out (fun e => by have := HR4.out sb e.symm; have := HB.out.1; omega) (fun e => by have := HR4.out b e.symm; have := HB.out.2; omega)), Lib.hid (HK2.out.trans ((KN.of_ks HK3.out).trans (KN.of_below (((Below.refl _ w3).alloc (by have := HK2.out.size; have := HK3.out.size; omega) _).trans (Below.ofGrown HG4.out (Nat.le_trans (Nat.le_trans HK2.out.size (Nat.le_of_eq HK3.out.size.symm)) (alloc_le _ _)) HR4.out)))))⟩
    · have : i = xs.length := by omega
      subst this
      have HO2 := HO
      rw [List.take_length] at HO2
      rw [HE.out] at HS2
      go_wp2
      go_ret
      exact ⟨A5, c5, rfl, HO2, o2, n2, c2, HS2, HK2⟩
end Go.Proofs.YtplkchmcojnimaaGreatDoor
