/-
  The code of bytes: one changed byte changes it; what is sealed.
  How bytes are divided into parts; numbers as bytes; models.
-/
import Derived.Test.YtplkchmcojnimaaGreatDoorSa1
/-
  The code of bytes: one changed byte changes it; what is sealed.
-/
namespace Go.Proofs.YtplkchmcojnimaaGreatDoor
open Go.RowKit

theorem ofInt32 (a : Nat) (ha : a < 4294967296) : (BitVec.ofInt 32 (a : Int)).toNat = a := by
  rw [BitVec.toNat_ofInt]
  show ((a : Int) % 4294967296).toNat = a
  omega
theorem u32_wrap (x : Int) : IntKind.u32.wrap x = x % 4294967296 := by simp [IntKind.wrap, IntKind.signed, IntKind.bits]
theorem u32_xor (a b : Nat) (ha : a < 4294967296) (hb : b < 4294967296) : bits .xor .u32 (a : Int) (b : Int) = ((a ^^^ b : Nat) : Int) := by
  have hx : a ^^^ b < 2 ^ 32 := Nat.xor_lt_two_pow (by omega) (by omega)
  show IntKind.u32.wrap ((BitVec.ofInt 32 (a : Int) ^^^ BitVec.ofInt 32 (b : Int)).toNat : Int) = _
  rw [BitVec.toNat_xor, ofInt32 a ha, ofInt32 b hb, u32_wrap]
  omega
theorem u32_and (a b : Nat) (ha : a < 4294967296) (hb : b < 4294967296) : bits .and .u32 (a : Int) (b : Int) = ((a &&& b : Nat) : Int) := by
  have hx : a &&& b < 2 ^ 32 := Nat.and_lt_two_pow _ (by omega)
  show IntKind.u32.wrap ((BitVec.ofInt 32 (a : Int) &&& BitVec.ofInt 32 (b : Int)).toNat : Int) = _
  rw [BitVec.toNat_and, ofInt32 a ha, ofInt32 b hb, u32_wrap]
  omega
/-- One bit of the code, on natural numbers. -/
def bitN (y : Nat) : Nat := if y % 2 = 1 then y / 2 ^^^ 3988292384 else y / 2
theorem bit_nat (y : Nat) (hy : y < 4294967296) : crcBit (y : Int) = ((bitN y : Nat) : Int) ∧ bitN y < 4294967296 := by
  have h1 : bits .and .u32 (y : Int) 1 = ((y % 2 : Nat) : Int) := by
    have := u32_and y 1 hy (by decide)
    rw [show ((1 : Nat) : Int) = 1 from rfl] at this
    rw [this, Nat.and_one_is_mod]
  have hd : (y : Int) / 2 = ((y / 2 : Nat) : Int) := by omega
  have hx : bits .xor .u32 ((y / 2 : Nat) : Int) 3988292384 = ((y / 2 ^^^ 3988292384 : Nat) : Int) := u32_xor (y / 2) 3988292384 (by omega) (by decide)
  have hlt : y / 2 ^^^ 3988292384 < 2 ^ 32 := Nat.xor_lt_two_pow (by omega) (by decide)
  unfold crcBit bitN
  rw [h1, hd, hx]
  by_cases e : y % 2 = 1
  · rw [if_pos (by rw [e]; rfl), if_pos e]
    exact ⟨rfl, by omega⟩
  · have e0 : y % 2 = 0 := by omega
    rw [if_neg (by rw [e0]; decide), if_neg e]
    exact ⟨rfl, by omega⟩
theorem high_bit (a : Nat) (ha : a < 2147483648) : 2147483648 ≤ a ^^^ 3988292384 := by
  have h : (a ^^^ 3988292384).testBit 31 = true := by
    rw [Nat.testBit_xor, Nat.testBit_lt_two_pow (by omega : a < 2 ^ 31)]
    decide
  have := Nat.ge_two_pow_of_testBit h
  omega
theorem bitN_inj {x y : Nat} (hx : x < 4294967296) (hy : y < 4294967296) (h : bitN x = bitN y) : x = y := by
  unfold bitN at h
  have h1 := high_bit (x / 2) (by omega)
  have h2 := high_bit (y / 2) (by omega)
  by_cases e : x % 2 = 1
  · rw [if_pos e] at h
    by_cases e' : y % 2 = 1
    · rw [if_pos e'] at h
      have := congrArg (· ^^^ 3988292384) h
      simp only [Nat.xor_assoc, Nat.xor_self, Nat.xor_zero] at this
      omega
    · rw [if_neg e'] at h; omega
  · rw [if_neg e] at h
    by_cases e' : y % 2 = 1
    · rw [if_pos e'] at h; omega
    · rw [if_neg e'] at h; omega
theorem bits_nat : ∀ (j : Nat) (y : Nat), y < 4294967296 → ∃ z : Nat, crcBits j (y : Int) = (z : Int) ∧ z < 4294967296
  | 0, y, h => ⟨y, rfl, h⟩
  | j + 1, y, h => by
    obtain ⟨z, e, hz⟩ := bits_nat j y h
    have := bit_nat z hz
    exact ⟨bitN z, by rw [crcBits, e, this.1], this.2⟩
theorem bits_inj : ∀ (j : Nat) (x y : Nat), x < 4294967296 → y < 4294967296 → crcBits j (x : Int) = crcBits j (y : Int) → x = y
  | 0, x, y, _, _, h => Int.ofNat_inj.1 h
  | j + 1, x, y, hx, hy, h => by
    obtain ⟨a, ea, ha⟩ := bits_nat j x hx
    obtain ⟨b, eb, hb⟩ := bits_nat j y hy
    rw [crcBits, crcBits, ea, eb, (bit_nat a ha).1, (bit_nat b hb).1] at h
    have := bitN_inj ha hb (by exact_mod_cast h)
    subst this
    exact bits_inj j x y hx hy (ea.trans eb.symm)
/-- Bytes. -/
def Bytes (l : List Int) : Prop := ∀ x, x ∈ l → 0 ≤ x ∧ x ≤ 255
theorem Bytes.getD {l : List Int} (h : Bytes l) (i : Nat) : ∃ b : Nat, l.getD i 0 = (b : Int) ∧ b < 256 := by
  rw [List.getD]
  cases e : l[i]? with
  | none => exact ⟨0, rfl, by decide⟩
  | some x =>
    have := h x (List.mem_of_getElem? e)
    exact ⟨x.toNat, by show x = _; omega, by omega⟩
/-- The code up to one byte more. -/
theorem step_nat (x b : Nat) (hx : x < 4294967296) (hb : b < 256) : bits BinOp.xor IntKind.u32 (x : Int) ((b : Int) % 4294967296) = ((x ^^^ b : Nat) : Int) ∧ x ^^^ b < 4294967296 := by
  rw [show (b : Int) % 4294967296 = (b : Int) by omega, u32_xor x b hx (by omega)]
  exact ⟨rfl, Nat.xor_lt_two_pow (n := 32) (by omega) (by omega)⟩
theorem crcTo_nat {l : List Int} (h : Bytes l) : ∀ i, ∃ z : Nat, crcTo l i = (z : Int) ∧ z < 4294967296
  | 0 => ⟨4294967295, rfl, by decide⟩
  | i + 1 => by
    obtain ⟨x, ex, hx⟩ := crcTo_nat h i
    obtain ⟨b, eb, hb⟩ := h.getD i
    have := step_nat x b hx hb
    rw [crcTo, ex, eb, this.1]
    exact bits_nat 8 _ this.2
theorem crcTo_ne {l m : List Int} (hl : Bytes l) (hm : Bytes m) (i : Nat) (hsame : ∀ j, j ≠ i → l.getD j 0 = m.getD j 0) (hne : l.getD i 0 ≠ m.getD i 0) : ∀ d, crcTo l (i + 1 + d) ≠ crcTo m (i + 1 + d)
  | 0 => by
    have e : ∀ j, j ≤ i → crcTo l j = crcTo m j := fun j => by
      induction j with
      | zero => intro _; rfl
      | succ j ih => intro hj; rw [crcTo, crcTo, ih (by omega), hsame j (by omega)]
    intro h
    obtain ⟨x, ex, hx⟩ := crcTo_nat hm i
    obtain ⟨a, ea, ha⟩ := hl.getD i
    obtain ⟨b, eb, hb⟩ := hm.getD i
    rw [Nat.add_zero, crcTo, crcTo, e i (Nat.le_refl _), ex, ea, eb] at h
    have h1 := step_nat x a hx ha
    have h2 := step_nat x b hx hb
    rw [h1.1, h2.1] at h
    have h3 := bits_inj 8 _ _ h1.2 h2.2 h
    have h4 := congrArg (x ^^^ ·) h3
    simp only [← Nat.xor_assoc, Nat.xor_self, Nat.zero_xor] at h4
    exact hne (by rw [ea, eb, h4])
  | d + 1 => by
    have ih := crcTo_ne hl hm i hsame hne d
    intro h
    obtain ⟨x, ex, hx⟩ := crcTo_nat hl (i + 1 + d)
    obtain ⟨y, ey, hy⟩ := crcTo_nat hm (i + 1 + d)
    obtain ⟨b, eb, hb⟩ := hm.getD (i + 1 + d)
    rw [show i + 1 + (d + 1) = (i + 1 + d) + 1 by omega, crcTo, crcTo, hsame (i + 1 + d) (by omega), ex, ey, eb] at h
    have h1 := step_nat x b hx hb
    have h2 := step_nat y b hy hb
    rw [h1.1, h2.1] at h
    have h3 := bits_inj 8 _ _ h1.2 h2.2 h
    have h4 := congrArg (· ^^^ b) h3
    simp only [Nat.xor_assoc, Nat.xor_self, Nat.xor_zero] at h4
    exact ih (by rw [ex, ey, h4])
theorem crcOf_change {l m : List Int} (hl : Bytes l) (hm : Bytes m) (hlen : l.length = m.length) (i : Nat) (hi : i < l.length) (hsame : ∀ j, j ≠ i → l.getD j 0 = m.getD j 0) (hne : l.getD i 0 ≠ m.getD i 0) : crcOf l ≠ crcOf m := by
  obtain ⟨d, hd⟩ : ∃ d, l.length = i + 1 + d := ⟨l.length - (i + 1), by omega⟩
  intro h
  obtain ⟨x, ex, hx⟩ := crcTo_nat hl l.length
  obtain ⟨y, ey, hy⟩ := crcTo_nat hm m.length
  have hmax : IntKind.u32.max = ((4294967295 : Nat) : Int) := by decide
  unfold crcOf at h
  rw [ex, ey, hmax, u32_xor _ x (by decide) hx, u32_xor _ y (by decide) hy] at h
  have lt1 : 4294967295 ^^^ x < 2 ^ 32 := Nat.xor_lt_two_pow (by decide) (by omega)
  have lt2 : 4294967295 ^^^ y < 2 ^ 32 := Nat.xor_lt_two_pow (by decide) (by omega)
  have w : ∀ z : Nat, z < 4294967296 → wrap64 (z : Int) = (z : Int) := fun z hz => by unfold wrap64; omega
  rw [w _ (by omega), w _ (by omega)] at h
  have h' : 4294967295 ^^^ x = 4294967295 ^^^ y := by exact_mod_cast h
  have h4 := congrArg ((4294967295 : Nat) ^^^ ·) h'
  simp only [← Nat.xor_assoc, Nat.xor_self, Nat.zero_xor] at h4
  have := crcTo_ne hl hm i hsame hne d
  rw [← hd, ex, hlen, ey] at this
  exact this (by rw [h4])
def low4 (n : Int) : List Int := [n % 256, n / 256 % 256, n / 65536 % 256, n / 16777216 % 256]
def rd4 (l : List Int) : Int := l.getD 0 0 + 256 * l.getD 1 0 + 65536 * l.getD 2 0 + 16777216 * l.getD 3 0
def sealB (b : List Int) : List Int := low4 (crcOf b) ++ b
def intactB (s : List Int) : Bool := decide (rd4 s = crcOf (s.drop 4))
theorem low4_bytes (n : Int) : Bytes (low4 n) := by
  intro x hx
  simp only [low4, List.mem_cons, List.not_mem_nil, or_false] at hx
  omega
theorem Bytes.app {a b : List Int} (ha : Bytes a) (hb : Bytes b) : Bytes (a ++ b) := fun x hx => by
  rcases List.mem_append.1 hx with h | h
  · exact ha x h
  · exact hb x h
theorem rd4_low (n : Int) (h : 0 ≤ n ∧ n < 4294967296) (b : List Int) : rd4 (low4 n ++ b) = n := by
  simp [rd4, low4]; omega
theorem crcOf_in {l : List Int} (hl : Bytes l) : 0 ≤ crcOf l ∧ crcOf l < 4294967296 := by
  obtain ⟨x, ex, hx⟩ := crcTo_nat hl l.length
  have hmax : IntKind.u32.max = ((4294967295 : Nat) : Int) := by decide
  unfold crcOf
  rw [ex, hmax, u32_xor _ x (by decide) hx]
  have lt1 : 4294967295 ^^^ x < 2 ^ 32 := Nat.xor_lt_two_pow (by decide) (by omega)
  have w : ∀ z : Nat, z < 4294967296 → wrap64 (z : Int) = (z : Int) := fun z hz => by unfold wrap64; omega
  rw [w _ (by omega)]
  omega
theorem seal_intact {b : List Int} (hb : Bytes b) : intactB (sealB b) = true := by
  unfold intactB sealB
  rw [rd4_low _ (crcOf_in hb)]
  simp [low4]
/-- One byte is changed. -/
theorem seal_changed {b : List Int} (hb : Bytes b) {i : Nat} (hi : i < (sealB b).length) {y : Int} (hy : 0 ≤ y ∧ y ≤ 255) (hne : (sealB b).getD i 0 ≠ y) : intactB ((sealB b).set i y) = false := by
  have hs : Bytes (sealB b) := (low4_bytes _).app hb
  have hget : ∀ j, ((sealB b).set i y).getD j 0 = if i = j then (if j < (sealB b).length then y else 0) else (sealB b).getD j 0 := fun j => by
    simp only [List.getD, List.getElem?_set]
    by_cases e : i = j
    · subst e; simp [hi]
    · simp [e]
  have hok := of_decide_eq_true (seal_intact hb)
  have hd : (sealB b).drop 4 = b := by simp [sealB, low4]
  rw [hd] at hok
  unfold intactB
  refine decide_eq_false fun h => ?_
  by_cases h4 : i < 4
  · rw [List.drop_set, if_pos h4, hd, ← hok] at h
    have e0 := hget 0; have e1 := hget 1; have e2 := hget 2; have e3 := hget 3
    unfold rd4 at h
    obtain ⟨a0, ha0, hl0⟩ := hs.getD 0
    obtain ⟨a1, ha1, hl1⟩ := hs.getD 1
    obtain ⟨a2, ha2, hl2⟩ := hs.getD 2
    obtain ⟨a3, ha3, hl3⟩ := hs.getD 3
    rw [e0, e1, e2, e3, ha0, ha1, ha2, ha3] at h
    have hl : 4 ≤ (sealB b).length := by simp [sealB, low4]
    rcases (show i = 0 ∨ i = 1 ∨ i = 2 ∨ i = 3 by omega) with rfl | rfl | rfl | rfl
    · simp only [if_true, if_pos (show 0 < (sealB b).length by omega)] at h
      rw [ha0] at hne
      simp at h
      omega
    · simp only [if_true, if_pos (show 1 < (sealB b).length by omega)] at h
      rw [ha1] at hne
      simp at h
      omega
    · simp only [if_true, if_pos (show 2 < (sealB b).length by omega)] at h
      rw [ha2] at hne
      simp at h
      omega
    · simp only [if_true, if_pos (show 3 < (sealB b).length by omega)] at h
      rw [ha3] at hne
      simp at h
      omega
  · have e0 := hget 0; have e1 := hget 1; have e2 := hget 2; have e3 := hget 3
    rw [if_neg (by omega)] at e0 e1 e2 e3
    have hr : rd4 ((sealB b).set i y) = rd4 (sealB b) := by unfold rd4; rw [e0, e1, e2, e3]
    rw [hr, hok, List.drop_set, if_neg h4, hd] at h
    have hlb : (sealB b).length = b.length + 4 := by simp [sealB, low4]
    have hib : i - 4 < b.length := by omega
    have hgb : (sealB b).getD i 0 = b.getD (i - 4) 0 := by
      simp only [sealB, List.getD]
      rw [List.getElem?_append_right (by simp [low4]; omega)]
      simp [low4]
    refine crcOf_change (l := b) (m := b.set (i - 4) y) hb (fun x hx => ?_) (by simp) (i - 4) hib (fun j hj => ?_) ?_ h
    · rcases List.mem_or_eq_of_mem_set hx with h | h
      · exact hb x h
      · omega
    · simp only [List.getD, List.getElem?_set]
      rw [if_neg (by omega)]
    · rw [← hgb]
      simp only [List.getD, List.getElem?_set, if_true, hib]
      simpa using hne
end Go.Proofs.YtplkchmcojnimaaGreatDoor
/-
  How bytes are divided into parts; numbers as bytes; models.
-/
namespace Go.Proofs.YtplkchmcojnimaaGreatDoor
open Go.RowKit

def shSize (n p i : Nat) : Nat := n / p + (if i < n % p then 1 else 0)
def shOff (n p i : Nat) : Nat := i * (n / p) + min i (n % p)
theorem shOff_succ (n p i : Nat) : shOff n p (i + 1) = shOff n p i + shSize n p i := by
  unfold shOff shSize
  rw [Nat.succ_mul]
  split <;> omega
theorem shOff_end (n p : Nat) (hp : 0 < p) : shOff n p p = n := by
  unfold shOff
  have h1 := Nat.mod_lt n hp
  have h2 := Nat.div_add_mod n p
  rw [Nat.min_eq_right (by omega)]
  exact h2
theorem shOff_mono (n p i : Nat) : ∀ d, shOff n p i ≤ shOff n p (i + d)
  | 0 => Nat.le_refl _
  | d + 1 => Nat.le_trans (shOff_mono n p i d) (by rw [show i + (d + 1) = (i + d) + 1 by omega, shOff_succ]; omega)
theorem shOff_le (n p i : Nat) (hp : 0 < p) (hi : i ≤ p) : shOff n p i ≤ n := by
  have := shOff_mono n p i (p - i)
  rw [show i + (p - i) = p by omega, shOff_end n p hp] at this
  exact this
def part (b : List Int) (p i : Nat) : List Int := (b.drop (shOff b.length p i)).take (shSize b.length p i)
theorem part_length (b : List Int) (p i : Nat) (hp : 0 < p) (hi : i < p) : (part b p i).length = shSize b.length p i := by
  unfold part
  have h1 := shOff_le b.length p (i + 1) hp (by omega)
  rw [shOff_succ] at h1
  rw [List.length_take, List.length_drop]
  omega
theorem parts_take (b : List Int) (p : Nat) (hp : 0 < p) : ∀ i, i ≤ p → (List.range i).flatMap (part b p) = b.take (shOff b.length p i)
  | 0, _ => by simp [shOff]
  | i + 1, hi => by
    have h1 := shOff_le b.length p (i + 1) hp hi
    rw [List.range_succ, List.flatMap_append, parts_take b p hp i (by omega), shOff_succ]
    rw [shOff_succ] at h1
    simp only [List.flatMap_cons, List.flatMap_nil, List.append_nil, part]
    rw [List.take_add]
theorem parts_all (b : List Int) (p : Nat) (hp : 0 < p) : (List.range p).flatMap (part b p) = b := by
  rw [parts_take b p hp p (Nat.le_refl _), shOff_end _ _ hp, List.take_length]
def byteOr (u : Int) : Int := bits BinOp.or IntKind.u8 (u % 256) 128
def numL : Nat → Int → List Int
  | 0, u => [u % 256]
  | f + 1, u => if 128 ≤ u then byteOr u :: numL f (u / 128) else [u % 256]
def numU (n : Int) : Int := if n < 0 then -2 * n - 1 else 2 * n
def numB (n : Int) : List Int := numL 2 (numU n)
theorem byteOr_eq (u : Int) : byteOr u = u % 128 + 128 := by
  unfold byteOr
  obtain ⟨a, ha, hlt⟩ : ∃ a : Nat, u % 256 = (a : Int) ∧ a < 256 := ⟨(u % 256).toNat, by omega, by omega⟩
  rw [ha]
  have h8 : ∀ x : Nat, x < 256 → (BitVec.ofInt 8 (x : Int)).toNat = x := fun x hx => by
    rw [BitVec.toNat_ofInt]
    show ((x : Int) % 256).toNat = x
    omega
  have hw : ∀ x : Int, IntKind.u8.wrap x = x % 256 := fun x => by simp [IntKind.wrap, IntKind.signed, IntKind.bits]
  have hlt2 : a ||| 128 < 2 ^ 8 := Nat.or_lt_two_pow (by omega) (by decide)
  show IntKind.u8.wrap ((BitVec.ofInt 8 (a : Int) ||| BitVec.ofInt 8 (128 : Int)).toNat : Int) = _
  rw [BitVec.toNat_or, h8 a hlt, show (128 : Int) = ((128 : Nat) : Int) from rfl, h8 128 (by decide), hw]
  have hk : a ||| 128 = a % 128 + 128 := by
    have h1 : a % 128 < 2 ^ 7 := by omega
    have h2 := Nat.two_pow_add_eq_or_of_lt h1 1
    by_cases c : a < 128
    · have e : a % 128 = a := Nat.mod_eq_of_lt c
      rw [e] at h2 ⊢
      have h2' : 128 + a = 128 ||| a := h2
      rw [Nat.or_comm]; omega
    · have e : a = 2 ^ 7 * 1 + a % 128 := by omega
      have e2 : a = 2 ^ 7 * 1 ||| a % 128 := by rw [← h2]; exact e
      have : a ||| 128 = a := by
        conv => lhs; rw [e2]
        rw [Nat.or_comm, ← Nat.or_assoc]
        show 128 ||| 128 ||| a % 128 = a
        rw [Nat.or_self]
        exact e2.symm
      omega
  rw [hk]
  omega
theorem numU_in {n : Int} (h : -1000 ≤ n ∧ n ≤ 1000) : 0 ≤ numU n ∧ numU n ≤ 2000 := by unfold numU; split <;> omega
theorem numB_one {n : Int} (h : -1000 ≤ n ∧ n ≤ 1000) (h1 : numU n < 128) : numB n = [numU n] := by
  have := numU_in h
  unfold numB
  rw [numL, if_neg (by omega)]
  rw [show numU n % 256 = numU n by omega]
theorem numB_two {n : Int} (h : -1000 ≤ n ∧ n ≤ 1000) (h1 : 128 ≤ numU n) : numB n = [numU n % 128 + 128, numU n / 128] := by
  have := numU_in h
  unfold numB
  rw [numL, if_pos h1, numL, if_neg (by omega), byteOr_eq]
  rw [show numU n / 128 % 256 = numU n / 128 by omega]
/-- Back. -/
theorem numU_back {n : Int} : (if numU n % 2 = 1 then -(numU n / 2) - 1 else numU n / 2) = n := by
  unfold numU; split <;> split <;> omega
def encL (l : List Int) : List Int := numB (l.length : Int) ++ l.flatMap numB
structure MD where
  kind : Int
  vocab : Int
  width : Int
  top : Int
  cuts : List Int
  embed : List Int
  place : List Int
  mix : List Int
  out : List Int
  soft : List Int
  odds : List Int
def MD.lists (m : MD) : List (List Int) := [m.cuts, m.embed, m.place, m.mix, m.out, m.soft, m.odds]
def MD.bytes (m : MD) : List Int := [m.kind, m.vocab, m.width, m.top].flatMap numB ++ m.lists.flatMap encL
/-- What a model that is right fulfils (what its numbers and lists are bounded by). -/
structure MD.Ok (m : MD) : Prop where
  kind : 1 ≤ m.kind ∧ m.kind ≤ 3
  vocab : 2 ≤ m.vocab ∧ m.vocab ≤ 16
  width : 1 ≤ m.width ∧ m.width ≤ 5
  top : 1 ≤ m.top ∧ m.top ≤ m.vocab
  cuts : m.cuts.length = 4
  embed : (m.embed.length : Int) = m.vocab * m.width
  out : (m.out.length : Int) = m.vocab * m.width
  place : (m.place.length : Int) % m.width = 0 ∧ 1 ≤ (m.place.length : Int) / m.width ∧ (m.place.length : Int) / m.width ≤ 16
  mix : (m.mix.length : Int) % (m.width * m.width) = 0 ∧ (m.kind = 1 → (m.mix.length : Int) / (m.width * m.width) = 3) ∧ (m.kind = 2 → (m.mix.length : Int) / (m.width * m.width) = 2) ∧ 1 ≤ (m.mix.length : Int) / (m.width * m.width) ∧ (m.mix.length : Int) / (m.width * m.width) ≤ 4
  soft : 1 ≤ m.soft.length ∧ m.soft.length ≤ 64
  odds : 1 ≤ m.odds.length ∧ m.odds.length ≤ 64
  cuts' : ∀ x, x ∈ m.cuts → 1 ≤ x ∧ x ≤ 15
  embed' : ∀ x, x ∈ m.embed → -128 ≤ x ∧ x ≤ 127
  place' : ∀ x, x ∈ m.place → -128 ≤ x ∧ x ≤ 127
  mix' : ∀ x, x ∈ m.mix → -128 ≤ x ∧ x ≤ 127
  out' : ∀ x, x ∈ m.out → -128 ≤ x ∧ x ≤ 127
  soft' : ∀ x, x ∈ m.soft → 0 ≤ x ∧ x ≤ 1000
  odds' : ∀ x, x ∈ m.odds → 0 ≤ x ∧ x ≤ 1000
  odds0 : m.odds.getD 0 0 ≠ 0
end Go.Proofs.YtplkchmcojnimaaGreatDoor
