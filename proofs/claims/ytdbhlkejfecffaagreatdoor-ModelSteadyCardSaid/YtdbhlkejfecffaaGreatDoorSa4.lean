/-
  The long quotient. No program in sight.
  The end of a long quotient; rational numbers out of quotients. No program in sight.
  Numbers as decimal texts. No program in sight.
-/
import Derived.Lib.ItoaNum
import Derived.Test.YtdbhlkejfecffaaGreatDoorSa3
/-
  The long quotient. No program in sight.
-/
namespace KeepPlain

section
variable {U V P ul vl top u2 v1 v2 : Nat}
/-- A guess that is too great. -/
theorem guess_high {q r : Nat} (hU : U = ul + P * (top * 1000000000 + u2)) (hV : V = vl + P * (v1 * 1000000000 + v2)) (hul : ul < P) (hr : r + q * v1 = top) (h : r * 1000000000 + u2 < q * v2) : U < q * V := by
  subst hU hV hr
  rw [Nat.mul_add q]
  have h1 : q * (P * (v1 * 1000000000 + v2)) = P * (q * v1 * 1000000000 + q * v2) := by
    rw [Nat.mul_left_comm, Nat.mul_add q, ← Nat.mul_assoc q v1]
  have h2 : P * ((r + q * v1) * 1000000000 + u2 + 1) ≤ P * (q * v1 * 1000000000 + q * v2) := Nat.mul_le_mul_left _ (by omega)
  rw [Nat.mul_add P _ 1] at h2
  omega
/-- A guess at the loop's end is right, or one too great. -/
theorem guess_end {q r : Nat} (hU : U = ul + P * (top * 1000000000 + u2)) (hV : V = vl + P * (v1 * 1000000000 + v2)) (hvl : vl < P) (hv1 : 0 < v1) (hv2 : v2 < 1000000000) (hq : q < 1000000000) (hr : r + q * v1 = top) (h : 1000000000 ≤ r ∨ q * v2 ≤ r * 1000000000 + u2) : q * V ≤ U + V := by
  subst hU hV hr
  have h0 : q * v2 ≤ r * 1000000000 + u2 := by
    rcases h with h | h
    · have : q * v2 ≤ 999999999 * 999999999 := Nat.mul_le_mul (by omega) (by omega)
      omega
    · exact h
  rw [Nat.mul_add q]
  have h1 : q * (P * (v1 * 1000000000 + v2)) = P * (q * v1 * 1000000000 + q * v2) := by
    rw [Nat.mul_left_comm, Nat.mul_add q, ← Nat.mul_assoc q v1]
  have h2 : P * (q * v1 * 1000000000 + q * v2) ≤ P * ((r + q * v1) * 1000000000 + u2) := Nat.mul_le_mul_left _ (by omega)
  have h3 : q * vl ≤ 1000000000 * P := Nat.mul_le_mul (by omega) (by omega)
  have h4 : P * 1000000000 ≤ P * (v1 * 1000000000 + v2) := Nat.mul_le_mul_left _ (by omega)
  omega
/-- The first guess is not too small. -/
theorem guess_first (hU : U = ul + P * (top * 1000000000 + u2)) (hV : V = vl + P * (v1 * 1000000000 + v2)) (hul : ul < P) (hu2 : u2 < 1000000000) (hv1 : 0 < v1) (hUV : U < 1000000000 * V) : U / V ≤ min (top / v1) 999999999 := by
  have hV0 : 0 < V := by
    rcases Nat.eq_zero_or_pos V with e | e
    · rw [e] at hUV; omega
    · exact e
  have hQ : U / V < 1000000000 := (Nat.div_lt_iff_lt_mul hV0).2 hUV
  have h1 : U / V * V ≤ U := Nat.div_mul_le_self U V
  refine Nat.le_min.2 ⟨(Nat.le_div_iff_mul_le hv1).2 ?_, by omega⟩
  generalize hq : U / V = q at *
  have h2 : q * (P * (v1 * 1000000000)) ≤ q * V := by
    rw [hV]
    refine Nat.mul_le_mul_left _ ?_
    rw [Nat.mul_add P]; omega
  have h3 : q * (P * (v1 * 1000000000)) = P * (q * v1 * 1000000000) := by rw [Nat.mul_left_comm, ← Nat.mul_assoc q v1]
  have h4 : P * (q * v1 * 1000000000) < P * (top * 1000000000 + u2 + 1) := by
    rw [Nat.mul_add P _ 1]; omega
  have h5 := Nat.lt_of_mul_lt_mul_left h4
  omega
theorem guess_less {q : Nat} (h : U < q * V) : U / V ≤ q - 1 ∧ 0 < q := by
  have hV0 : 0 < V := by
    rcases Nat.eq_zero_or_pos V with e | e
    · rw [e] at h; omega
    · exact e
  have := (Nat.div_lt_iff_lt_mul hV0).2 h
  generalize U / V = d at *
  omega
end
theorem less_step {o a b : Nat → Nat} {i c c' q : Nat} (h : sv o i + q * sv b i = sv a i + c * 1000000000 ^ i) (ho : o i + (c + q * b i) = a i + c' * 1000000000) :
    sv o (i + 1) + q * sv b (i + 1) = sv a (i + 1) + c' * 1000000000 ^ (i + 1) := by
  show sv o i + o i * _ + q * (sv b i + b i * _) = sv a i + a i * _ + _
  rw [pow_succ']
  have h2 : (o i + (c + q * b i)) * 1000000000 ^ i = (a i + c' * 1000000000) * 1000000000 ^ i := by rw [ho]
  have h3 : c' * (1000000000 * 1000000000 ^ i) = c' * 1000000000 * 1000000000 ^ i := by rw [Nat.mul_assoc]
  have h4 : q * (b i * 1000000000 ^ i) = q * b i * 1000000000 ^ i := by rw [Nat.mul_assoc]
  rw [Nat.add_mul, Nat.add_mul, Nat.add_mul] at h2
  rw [Nat.mul_add]
  omega
theorem less_bound {c q x : Nat} (hc : c ≤ 1000000000) (hq : q < 1000000000) (hx : x < 1000000000) : c + q * x < 1000000000000000000 ∧ (c + q * x) / 1000000000 + 1 ≤ 1000000000 := by
  have h1 : q * x ≤ 999999999 * 999999999 := Nat.mul_le_mul (by omega) (by omega)
  omega
section
variable {n q U V R c : Nat}
/-- The difference is right where the guess is. -/
theorem less_right (hR : R < 1000000000 ^ (n + 1)) (h : R + q * V = U + c * 1000000000 ^ (n + 1)) (hq : q * V ≤ U) (hQ : U / V ≤ q) (hV : 0 < V) : c = 0 ∧ q = U / V ∧ R = U % V := by
  have hc : c = 0 := by
    rcases Nat.eq_zero_or_pos c with e | e
    · exact e
    · have : 1 * 1000000000 ^ (n + 1) ≤ c * 1000000000 ^ (n + 1) := Nat.mul_le_mul_right _ e
      omega
  subst hc
  have h1 : q ≤ U / V := (Nat.le_div_iff_mul_le hV).2 hq
  have h2 : q = U / V := by omega
  refine ⟨rfl, h2, ?_⟩
  have h3 := Nat.div_add_mod U V
  rw [← h2, Nat.mul_comm] at h3
  omega
theorem less_wrong (hR : R < 1000000000 ^ (n + 1)) (h : R + q * V = U + c * 1000000000 ^ (n + 1)) (hq : U < q * V) (hq2 : q * V ≤ U + V) (hVn : V < 1000000000 ^ (n + 1)) : c = 1 := by
  have h0 : c ≠ 0 := by rintro rfl; omega
  rcases Nat.lt_or_ge 1 c with e | e
  · have : 2 * 1000000000 ^ (n + 1) ≤ c * 1000000000 ^ (n + 1) := Nat.mul_le_mul_right _ e
    omega
  · omega
/-- The difference is mended where the guess was one too great. -/
theorem more_right {S d : Nat} (hR : R < 1000000000 ^ (n + 1)) (h : R + q * V = U + c * 1000000000 ^ (n + 1)) (hq : U < q * V) (hq2 : q * V ≤ U + V) (hVn : V < 1000000000 ^ (n + 1)) (hS : S < 1000000000 ^ (n + 1)) (hd : S + d * 1000000000 ^ (n + 1) = R + V) : q - 1 = U / V ∧ S = U % V := by
  have hc := less_wrong hR h hq hq2 hVn
  subst hc
  obtain ⟨p, rfl⟩ : ∃ p, q = p + 1 := ⟨q - 1, by have : q ≠ 0 := by rintro rfl; omega
                                                 omega⟩
  rw [Nat.add_mul] at h hq hq2
  have hd1 : d = 1 := by
    rcases Nat.lt_or_ge 1 d with e | e
    · have : 2 * 1000000000 ^ (n + 1) ≤ d * 1000000000 ^ (n + 1) := Nat.mul_le_mul_right _ e
      omega
    · have : d ≠ 0 := by rintro rfl; omega
      omega
  subst hd1
  have hV : 0 < V := by omega
  have h1 : p ≤ U / V := (Nat.le_div_iff_mul_le hV).2 (by omega)
  have h2 : U / V < p + 1 := (Nat.div_lt_iff_lt_mul hV).2 (by rw [Nat.add_mul]; omega)
  have h3 : p = U / V := by omega
  refine ⟨by omega, ?_⟩
  have h4 := Nat.div_add_mod U V
  rw [← h3, Nat.mul_comm] at h4
  omega
end
/-- A number of n digits by its top three and the rest. -/
theorem top3 (d : Nat → Nat) (n : Nat) : sv d (n + 3) = sv d n + 1000000000 ^ n * ((d (n + 2) * 1000000000 + d (n + 1)) * 1000000000 + d n) := by
  show sv d n + d n * _ + d (n + 1) * _ + d (n + 2) * _ = _
  rw [pow_succ' (n + 1), pow_succ' n]
  generalize 1000000000 ^ n = p
  simp only [Nat.mul_add, Nat.add_mul]
  have e1 : d (n + 2) * (1000000000 * (1000000000 * p)) = 1000000000000000000 * (d (n + 2) * p) := by
    rw [← Nat.mul_assoc 1000000000, Nat.mul_left_comm]
  have e2 : d (n + 1) * (1000000000 * p) = 1000000000 * (d (n + 1) * p) := Nat.mul_left_comm _ _ _
  have e3 : p * (d (n + 2) * 1000000000 * 1000000000) = 1000000000000000000 * (d (n + 2) * p) := by
    rw [Nat.mul_assoc (d (n + 2)), Nat.mul_comm p, Nat.mul_right_comm, Nat.mul_comm (d (n + 2) * p)]
  have e4 : p * (d (n + 1) * 1000000000) = 1000000000 * (d (n + 1) * p) := by
    rw [Nat.mul_comm p, Nat.mul_right_comm, Nat.mul_comm (d (n + 1) * p)]
  have e5 : p * d n = d n * p := Nat.mul_comm _ _
  omega
theorem top2 (d : Nat → Nat) (n : Nat) : sv d (n + 2) = sv d n + 1000000000 ^ n * (d (n + 1) * 1000000000 + d n) := by
  show sv d n + d n * _ + d (n + 1) * _ = _
  rw [pow_succ' n]
  generalize 1000000000 ^ n = p
  rw [Nat.mul_add]
  have e2 : d (n + 1) * (1000000000 * p) = 1000000000 * (d (n + 1) * p) := Nat.mul_left_comm _ _ _
  have e4 : p * (d (n + 1) * 1000000000) = 1000000000 * (d (n + 1) * p) := by
    rw [Nat.mul_comm p, Nat.mul_right_comm, Nat.mul_comm (d (n + 1) * p)]
  have e5 : p * d n = d n * p := Nat.mul_comm _ _
  omega
/-- Digits of a number below a power are zero from there on. -/
theorem high_zero {d : Nat → Nat} {n N : Nat} (h : sv d N < 1000000000 ^ n) (j : Nat) (hj : n ≤ j) (hN : j < N) : d j = 0 := by
  rcases Nat.eq_zero_or_pos (d j) with e | e
  · exact e
  · have h1 := sv_le d (j + 1) N (by omega)
    have h2 : 1 * 1000000000 ^ j ≤ d j * 1000000000 ^ j := Nat.mul_le_mul_right _ e
    have h3 : 1000000000 ^ n ≤ 1000000000 ^ j := Nat.pow_le_pow_right (by omega) hj
    have h4 : sv d (j + 1) = sv d j + d j * 1000000000 ^ j := rfl
    omega
section
variable {A V k n N M Q : Nat} {u u' : Nat → Nat}
/-- The window of a number that is to be divided. -/
theorem window (hkn : k + n + 1 ≤ N) (hV : V < 1000000000 ^ n) (hu : sv u N < V * 1000000000 ^ (k + 1)) :
    sv u N = sv u k + 1000000000 ^ k * sv (fun j => u (k + j)) (n + 1) ∧ sv (fun j => u (k + j)) (n + 1) < 1000000000 * V := by
  have h0 : V * 1000000000 ^ (k + 1) ≤ 1000000000 ^ (k + n + 1) := by
    rw [show k + n + 1 = n + (k + 1) by omega, Nat.pow_add _ n (k + 1)]
    exact Nat.mul_le_mul_right _ (Nat.le_of_lt hV)
  have hz := fun j h1 h2 => high_zero (d := u) (n := k + n + 1) (N := N) (by omega) j h1 h2
  obtain ⟨m, rfl⟩ := Nat.le.dest hkn
  have e : sv u (k + n + 1 + m) = sv u (k + (n + 1)) := by
    rw [sv_add u (k + n + 1) m, sv_zero m (fun j hj => hz _ (by omega) (by omega)), Nat.mul_zero, Nat.add_zero, Nat.add_assoc k n 1]
  rw [e, sv_add] at hu ⊢
  refine ⟨rfl, ?_⟩
  rw [pow_succ'] at hu
  have h1 : 1000000000 ^ k * sv (fun j => u (k + j)) (n + 1) < 1000000000 ^ k * (1000000000 * V) := by
    have : V * (1000000000 * 1000000000 ^ k) = 1000000000 ^ k * (1000000000 * V) := by
      rw [← Nat.mul_assoc, Nat.mul_comm, Nat.mul_comm V]
    omega
  exact Nat.lt_of_mul_lt_mul_left h1
/-- One digit of a long quotient. -/
theorem long_step (hkn : k + n + 1 ≤ N) (hV : V < 1000000000 ^ n) (hu : sv u N < V * 1000000000 ^ (k + 1)) (hA : A = V * (1000000000 ^ (k + 1) * Q) + sv u N)
    (hlow : ∀ j, j < k → u' j = u j) (hlt : sv u k < 1000000000 ^ k) (hhigh : ∀ j, k + n + 1 ≤ j → u' j = u j)
    (hw : sv (fun j => u' (k + j)) (n + 1) = sv (fun j => u (k + j)) (n + 1) % V) :
    A = V * (1000000000 ^ k * (sv (fun j => u (k + j)) (n + 1) / V + 1000000000 * Q)) + sv u' N ∧ sv u' N < V * 1000000000 ^ k := by
  obtain ⟨h1, h2⟩ := window hkn hV hu
  have hV0 : 0 < V := by
    rcases Nat.eq_zero_or_pos V with e | e
    · rw [e] at h2; omega
    · exact e
  have h0 : V * 1000000000 ^ (k + 1) ≤ 1000000000 ^ (k + n + 1) := by
    rw [show k + n + 1 = n + (k + 1) by omega, Nat.pow_add _ n (k + 1)]
    exact Nat.mul_le_mul_right _ (Nat.le_of_lt hV)
  have hz := fun j h1 h2 => high_zero (d := u) (n := k + n + 1) (N := N) (by omega) j h1 h2
  have h3 : sv u' N = sv u k + 1000000000 ^ k * (sv (fun j => u (k + j)) (n + 1) % V) := by
    obtain ⟨m, rfl⟩ := Nat.le.dest hkn
    rw [sv_add u' (k + n + 1) m, sv_zero m (fun j hj => by rw [hhigh _ (by omega)]; exact hz _ (by omega) (by omega)), Nat.mul_zero, Nat.add_zero,
      show k + n + 1 = k + (n + 1) by omega, sv_add, hw, sv_congr k hlow]
  have h4 := Nat.div_add_mod (sv (fun j => u (k + j)) (n + 1)) V
  have h5 := Nat.mod_lt (sv (fun j => u (k + j)) (n + 1)) hV0
  generalize sv (fun j => u (k + j)) (n + 1) = W at *
  constructor
  · rw [hA, h1, h3, pow_succ']
    generalize hw1 : W / V = a at *
    generalize hw2 : W % V = b at *
    rw [← h4]
    generalize 1000000000 ^ k = p
    have e1 : V * (1000000000 * p * Q) = V * (p * (1000000000 * Q)) := by rw [Nat.mul_comm 1000000000 p, Nat.mul_assoc]
    have e2 : p * (V * a) = V * (p * a) := Nat.mul_left_comm _ _ _
    simp only [Nat.mul_add] at *
    omega
  · rw [h3]
    have h7 : 1000000000 ^ k * (W % V + 1) ≤ 1000000000 ^ k * V := Nat.mul_le_mul_left _ h5
    have h8 : V * 1000000000 ^ k = 1000000000 ^ k * V := Nat.mul_comm _ _
    rw [Nat.mul_add, Nat.mul_one] at h7
    rw [h8]
    exact Nat.lt_of_lt_of_le (Nat.add_lt_add_right hlt _) (by omega)
end
end KeepPlain
/-
  The end of a long quotient; rational numbers out of quotients. No program in sight.
-/
namespace KeepPlain

theorem long_end {by_ A b Q R : Nat} (h0 : 0 < by_) (h : by_ * A = by_ * b * Q + R) (hR : R < by_ * b) : Q = A / b ∧ R = by_ * (A % b) ∧ R / by_ = A % b := by
  have hb : 0 < b := by
    rcases Nat.eq_zero_or_pos b with e | e
    · rw [e] at hR; omega
    · exact e
  have h1 : by_ * b * Q ≤ by_ * A := by omega
  rw [Nat.mul_assoc] at h1 h
  have h2 : b * Q ≤ A := Nat.le_of_mul_le_mul_left h1 h0
  have h3 : R = by_ * (A - b * Q) := by rw [Nat.mul_sub]; omega
  rw [h3] at hR
  have h4 : A - b * Q < b := Nat.lt_of_mul_lt_mul_left hR
  have h5 : Q = A / b := by
    have : A = b * Q + (A - b * Q) := by omega
    rw [this, Nat.mul_add_div hb, Nat.div_eq_of_lt h4]; omega
  have h6 : A % b = A - b * Q := by
    have := Nat.div_add_mod A b
    rw [← h5] at this; omega
  exact ⟨h5, by rw [h6]; exact h3, by rw [h3, h6, Nat.mul_div_cancel_left _ h0]⟩
/-- The factor of a long quotient. -/
theorem scale_fits {d : Nat → Nat} {n : Nat} (hd : ∀ j, j < n + 1 → d j < 1000000000) : 1000000000 / (d n + 1) * sv d (n + 1) < 1000000000 ^ (n + 1) := by
  have h1 : sv d (n + 1) < (d n + 1) * 1000000000 ^ n := by
    have := sv_lt n (fun j hj => hd j (by omega))
    show sv d n + d n * _ < _
    rw [Nat.add_mul]; omega
  have h2 : 1000000000 / (d n + 1) * (d n + 1) ≤ 1000000000 := Nat.div_mul_le_self _ _
  have h3 : 1000000000 / (d n + 1) * ((d n + 1) * 1000000000 ^ n) ≤ 1000000000 * 1000000000 ^ n := by
    rw [← Nat.mul_assoc]; exact Nat.mul_le_mul_right _ h2
  have h4 : 0 < 1000000000 / (d n + 1) := Nat.div_pos (by have := hd n (by omega); omega) (by omega)
  have h5 := (Nat.mul_lt_mul_left h4).2 h1
  rw [pow_succ']
  omega
theorem scale_pos {x : Nat} (hx : x < 1000000000) : 0 < 1000000000 / (x + 1) ∧ 1000000000 / (x + 1) ≤ 1000000000 := ⟨Nat.div_pos (by omega) (by omega), Nat.div_le_self _ _⟩
/-- The dividend fits at the start. -/
theorem long_start {m a b : Nat} {la lb : Nat} (hm : 0 < m) (ha : a < 1000000000 ^ la) (hb : 1000000000 ^ (lb - 1) ≤ b) (h : lb ≤ la) (h1 : 1 ≤ lb) : m * a < m * b * 1000000000 ^ (la - lb + 1) := by
  rw [Nat.mul_assoc]
  refine (Nat.mul_lt_mul_left hm).2 ?_
  have h2 : 1000000000 ^ (lb - 1) * 1000000000 ^ (la - lb + 1) ≤ b * 1000000000 ^ (la - lb + 1) := Nat.mul_le_mul_right _ hb
  rw [← Nat.pow_add, show lb - 1 + (la - lb + 1) = la by omega] at h2
  omega
/-- What is carried out of a product that fits is nothing. -/
theorem carry_zero {o X P c : Nat} (h : o + c * P = X) (hX : X < P) : c = 0 ∧ o = X := by
  rcases Nat.eq_zero_or_pos c with e | e
  · subst e; omega
  · have : 1 * P ≤ c * P := Nat.mul_le_mul_right _ e
    omega

/-! Rational numbers -/
/-- A number with a sign. -/
def sg (neg : Bool) (n : Nat) : Int := if neg then -(n : Int) else n
theorem sg_abs (neg : Bool) (n : Nat) : (sg neg n).natAbs = n := by cases neg <;> simp [sg]
theorem sg_neg {neg : Bool} {n : Nat} (h : n ≠ 0) : decide (sg neg n < 0) = neg := by cases neg <;> simp [sg] <;> omega
theorem sg_self (x : Int) : sg (decide (x < 0)) x.natAbs = x := by
  by_cases h : x < 0
  · simp [sg, h]; omega
  · simp [sg, h]; omega
theorem sg_mul (a b : Bool) (x y : Nat) : sg (a != b) (x * y) = sg a x * sg b y := by cases a <;> cases b <;> simp [sg, Int.neg_mul, Int.mul_neg]
theorem sg_add_same (a : Bool) (x y : Nat) : sg a (x + y) = sg a x + sg a y := by cases a <;> simp [sg]; omega
theorem sg_add_ge (a : Bool) {x y : Nat} (h : y ≤ x) : sg a (x - y) = sg a x + sg (!a) y := by cases a <;> simp [sg] <;> omega
/-- The parts of a quotient in lowest terms. -/
theorem rat_parts (neg : Bool) {n d : Nat} (hn : n ≠ 0) (hd : d ≠ 0) : decide ((mkRat (sg neg n) d).num < 0) = neg ∧ (mkRat (sg neg n) d).num.natAbs = n / n.gcd d ∧ (mkRat (sg neg n) d).den = d / n.gcd d := by
  have hg : 0 < n.gcd d := Nat.gcd_pos_of_pos_left _ (Nat.pos_of_ne_zero hn)
  have h1 : (mkRat (sg neg n) d).num = sg neg (n / n.gcd d) := by
    rw [Rat.num_mkRat, if_neg hd, sg_abs, Nat.gcd_comm d n]
    obtain ⟨k, hk⟩ := Nat.gcd_dvd_left n d
    cases neg
    · simp [sg]
    · simp only [sg, if_true]
      rw [Int.neg_ediv_of_dvd]
      · simp
      · exact Int.natCast_dvd_natCast.2 (Nat.gcd_dvd_left n d)
  have h2 : n / n.gcd d ≠ 0 := Nat.ne_of_gt (Nat.div_gcd_pos_of_pos_left _ (Nat.pos_of_ne_zero hn))
  refine ⟨by rw [h1]; exact sg_neg h2, by rw [h1, sg_abs], ?_⟩
  rw [Rat.den_mkRat, if_neg hd, sg_abs, Nat.gcd_comm d n]
theorem rat_zero (d : Nat) (neg : Bool) : mkRat (sg neg 0) d = 0 := by cases neg <;> simp [sg]
theorem rat_self (q : Rat) : mkRat (sg (decide (q.num < 0)) q.num.natAbs) q.den = q := by rw [sg_self]; exact Rat.mkRat_self q
theorem rat_add (a b : Rat) : a + b = mkRat (sg (decide (a.num < 0)) (a.num.natAbs * b.den) + sg (decide (b.num < 0)) (b.num.natAbs * a.den)) (a.den * b.den) := by
  rw [Rat.add_def']
  congr 1
  have h (x : Int) (d : Nat) : sg (decide (x < 0)) (x.natAbs * d) = x * d := by
    by_cases h : x < 0
    · simp only [sg, h, decide_true, if_true]
      have : (x.natAbs : Int) = -x := by omega
      push_cast; rw [this, Int.neg_mul, Int.neg_neg]
    · have h' : decide (x < 0) = false := by simp [h]
      simp only [sg, h']
      have : (x.natAbs : Int) = x := by omega
      push_cast; rw [this]
  rw [h, h]
theorem rat_mul (a b : Rat) : a * b = mkRat (sg (decide (a.num < 0) != decide (b.num < 0)) (a.num.natAbs * b.num.natAbs)) (a.den * b.den) := by
  rw [Rat.mul_def', sg_mul, sg_self, sg_self]
/-- A quotient. -/
theorem rat_div (a b : Rat) (hb : b ≠ 0) : a / b = mkRat (sg (decide (a.num < 0) != decide (b.num < 0)) (a.num.natAbs * b.den)) (a.den * b.num.natAbs) := by
  have hn : b.num ≠ 0 := fun e => hb (Rat.num_eq_zero.1 e)
  have h1 : mkRat (sg (decide (a.num < 0) != decide (b.num < 0)) (a.num.natAbs * b.den)) (a.den * b.num.natAbs) * b = a := by
    conv => lhs; arg 2; rw [← rat_self b]
    rw [Rat.mkRat_mul_mkRat, ← sg_mul]
    have e1 : ((decide (a.num < 0) != decide (b.num < 0)) != decide (b.num < 0)) = decide (a.num < 0) := by
      cases decide (a.num < 0) <;> cases decide (b.num < 0) <;> rfl
    have e2 : a.num.natAbs * b.den * b.num.natAbs = a.num.natAbs * (b.num.natAbs * b.den) := by simp only [Nat.mul_assoc, Nat.mul_comm, Nat.mul_left_comm]
    rw [e1, e2, Nat.mul_assoc a.den]
    have h0 : b.num.natAbs * b.den ≠ 0 := Nat.mul_ne_zero (by omega) b.den_nz
    have e3 (s : Bool) (x m : Nat) : sg s (x * m) = sg s x * m := by cases s <;> simp [sg, Int.neg_mul]
    rw [e3, Rat.mkRat_mul_right h0, rat_self]
  have h2 := congrArg (fun x => x / b) h1
  simp only [Rat.mul_div_cancel hb] at h2
  exact h2.symm
end KeepPlain
/-
  Numbers as decimal texts. No program in sight.
-/
namespace KeepPlain
open Go.Lib

def dvA (a : Nat) (l : List UInt8) : Nat := l.foldl (fun a c => a * 10 + (c.toNat - 48)) a
theorem dvA_nil (a : Nat) : dvA a [] = a := rfl
theorem dvA_cons (a : Nat) (c : UInt8) (l : List UInt8) : dvA a (c :: l) = dvA (a * 10 + (c.toNat - 48)) l := by unfold dvA; rw [List.foldl_cons]
/-- The value of decimal digits. -/
def dv (l : List UInt8) : Nat := dvA 0 l
def Dig (l : List UInt8) : Prop := ∀ c ∈ l, 48 ≤ c.toNat ∧ c.toNat ≤ 57
theorem dvA_append (a : Nat) (l m : List UInt8) : dvA a (l ++ m) = dvA (dvA a l) m := by
  induction l generalizing a with
  | nil => rfl
  | cons c l ih => rw [List.cons_append, dvA_cons, dvA_cons, ih]
theorem dvA_eq (a : Nat) (l : List UInt8) : dvA a l = a * 10 ^ l.length + dv l := by
  induction l generalizing a with
  | nil => rw [dv, dvA_nil, dvA_nil, List.length_nil, Nat.pow_zero, Nat.mul_one, Nat.add_zero]
  | cons c l ih =>
    rw [dv, dvA_cons, dvA_cons, ih, ih (0 * 10 + _), List.length_cons, Nat.pow_succ, Nat.zero_mul, Nat.zero_add, Nat.add_mul, Nat.mul_assoc, Nat.mul_comm 10, Nat.add_assoc]
theorem dv_append (l m : List UInt8) : dv (l ++ m) = dv l * 10 ^ m.length + dv m := by
  rw [dv, dvA_append, dvA_eq]; rfl
theorem dv_one (c : UInt8) : dv [c] = c.toNat - 48 := by rw [dv, dvA_cons, dvA_nil, Nat.zero_mul, Nat.zero_add]
theorem dv_cons (c : UInt8) (l : List UInt8) : dv (c :: l) = (c.toNat - 48) * 10 ^ l.length + dv l := by
  have := dv_append [c] l
  rw [dv_one] at this; exact this
theorem dv_lt (l : List UInt8) (h : Dig l) : dv l < 10 ^ l.length := by
  induction l with
  | nil => rw [dv, dvA_nil]; exact Nat.one_pos
  | cons c l ih =>
    have h1 := ih (fun x hx => h x (by simp [hx]))
    have h2 := h c (by simp)
    have h4 : (c.toNat - 48) * 10 ^ l.length ≤ 9 * 10 ^ l.length := Nat.mul_le_mul_right _ (by omega)
    rw [dv_cons, List.length_cons, Nat.pow_succ]
    omega
theorem dig_char {x : Nat} (h : x < 10) : (UInt8.ofNat (48 + x)).toNat = 48 + x := by
  simp [UInt8.toNat_ofNat']; omega
theorem dec_small {u : Nat} (h : u < 10) : decDigits u = [UInt8.ofNat (48 + u)] := decDigits_one h
theorem dec_big {u : Nat} (h : ¬ u < 10) : decDigits u = decDigits (u / 10) ++ [UInt8.ofNat (48 + u % 10)] := by rw [decDigits, dif_neg h]
theorem dec_dig (u : Nat) : Dig (decDigits u) := by
  induction u using Nat.strongRecOn with
  | _ u ih =>
    intro c hc
    by_cases h : u < 10
    · rw [dec_small h] at hc
      have : c = UInt8.ofNat (48 + u) := by simpa using hc
      subst this
      rw [dig_char h]; omega
    · rw [dec_big h] at hc
      rcases List.mem_append.1 hc with hc | hc
      · exact ih _ (by omega) c hc
      · have : c = UInt8.ofNat (48 + u % 10) := by simpa using hc
        subst this
        rw [dig_char (Nat.mod_lt _ (by omega))]; omega
theorem dec_dv (u : Nat) : dv (decDigits u) = u := by
  induction u using Nat.strongRecOn with
  | _ u ih =>
    by_cases h : u < 10
    · rw [dec_small h, dv_one, dig_char h]; omega
    · rw [dec_big h, dv_append, dv_one, dig_char (Nat.mod_lt _ (by omega)), ih _ (by omega)]
      simp only [List.length_singleton, Nat.pow_one]
      omega
theorem dec_ne (u : Nat) : decDigits u ≠ [] := by
  by_cases h : u < 10
  · rw [dec_small h]; simp
  · rw [dec_big h]; simp
theorem dec_inj {a b : Nat} (h : decDigits a = decDigits b) : a = b := by rw [← dec_dv a, h, dec_dv]
/-- Only 0 begins with the digit 0. -/
theorem dec_head (u : Nat) (h : u ≠ 0) : ∃ c l, decDigits u = c :: l ∧ c.toNat ≠ 48 := by
  induction u using Nat.strongRecOn with
  | _ u ih =>
    by_cases h1 : u < 10
    · exact ⟨_, [], dec_small h1, by rw [dig_char h1]; omega⟩
    · obtain ⟨c, l, e, hc⟩ := ih (u / 10) (by omega) (by omega)
      exact ⟨c, l ++ [UInt8.ofNat (48 + u % 10)], by rw [dec_big h1, e]; rfl, hc⟩
/-- The lowest k digits. -/
def low : Nat → Nat → List UInt8
  | 0, _ => []
  | k + 1, x => low k (x / 10) ++ [UInt8.ofNat (48 + x % 10)]
theorem low_length : ∀ k x, (low k x).length = k
  | 0, _ => rfl
  | k + 1, x => by simp [low, low_length k]
theorem dec_low (n : Nat) (hn : n ≠ 0) : ∀ k x, x < 10 ^ k → decDigits (n * 10 ^ k + x) = decDigits n ++ low k x
  | 0, x, hx => by
    have : x = 0 := by simpa using hx
    subst this; simp [low]
  | k + 1, x, hx => by
    have h1 : 10 * 10 ^ k ≤ n * (10 ^ k * 10) := by
      have : 1 * (10 ^ k * 10) ≤ n * (10 ^ k * 10) := Nat.mul_le_mul_right _ (by omega)
      omega
    have h0 : 0 < 10 ^ k := Nat.pow_pos (by omega)
    rw [Nat.pow_succ] at hx ⊢
    have h2 : n * (10 ^ k * 10) = n * 10 ^ k * 10 := (Nat.mul_assoc _ _ _).symm
    rw [dec_big (by omega), show (n * (10 ^ k * 10) + x) / 10 = n * 10 ^ k + x / 10 by omega, show (n * (10 ^ k * 10) + x) % 10 = x % 10 by omega, dec_low n hn k (x / 10) (by omega), low, List.append_assoc]
theorem low_zero : ∀ k, low k 0 = List.replicate k 48
  | 0 => rfl
  | k + 1 => by
    rw [low, show 0 / 10 = 0 from rfl, low_zero k, List.replicate_succ']
    rfl
/-- Padded with zeros. -/
theorem low_pad : ∀ k x, x < 10 ^ k → 0 < k → low k x = List.replicate (k - (decDigits x).length) 48 ++ decDigits x ∧ (decDigits x).length ≤ k
  | 0, _, _, h => absurd h (by omega)
  | k + 1, x, hx, _ => by
    by_cases h : x < 10
    · rw [dec_small h, low, show x / 10 = 0 by omega, show x % 10 = x by omega, low_zero]
      simp
    · have hk : 0 < k := by
        rcases Nat.eq_zero_or_pos k with e | e
        · subst e; simp at hx; omega
        · exact e
      rw [Nat.pow_succ] at hx
      obtain ⟨h1, h2⟩ := low_pad k (x / 10) (by omega) hk
      rw [dec_big h, low, h1]
      simp only [List.length_append, List.length_singleton]
      exact ⟨by rw [show k + 1 - ((decDigits (x / 10)).length + 1) = k - (decDigits (x / 10)).length by omega, List.append_assoc], by omega⟩
theorem dec_len9 {x : Nat} (h : x < 1000000000) : (decDigits x).length ≤ 9 := (low_pad 9 x h (by omega)).2
/-- One digit more to the base 1000000000. -/
theorem dec_chunk (n x : Nat) (hn : n ≠ 0) (h : x < 1000000000) : decDigits (n * 1000000000 + x) = decDigits n ++ (List.replicate (9 - (decDigits x).length) 48 ++ decDigits x) := by
  rw [← (low_pad 9 x h (by omega)).1]
  exact dec_low n hn 9 x h
theorem dec_len_pos (u : Nat) : 0 < (decDigits u).length := List.length_pos_iff.2 (dec_ne u)
/-- The length of a number's text. -/
theorem dec_len_le (u k : Nat) (hk : 0 < k) (h : u < 10 ^ k) : (decDigits u).length ≤ k := (low_pad k u h hk).2
end KeepPlain
