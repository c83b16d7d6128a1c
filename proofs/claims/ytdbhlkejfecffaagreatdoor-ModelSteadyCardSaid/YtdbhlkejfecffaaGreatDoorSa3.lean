/-
  Numbers as digits to the base 1000000000: values, the canonical digits, the arithmetic of the loops. No program in sight.
  The loops of sums, differences, products and short quotients. No program in sight.
-/
/-
  Numbers as digits to the base 1000000000: values, the canonical digits, the arithmetic of the loops. No program in sight.
-/
namespace KeepPlain

/-- The value of the first n digits. -/
def sv (d : Nat → Nat) : Nat → Nat
  | 0 => 0
  | n + 1 => sv d n + d n * 1000000000 ^ n
/-- The digits of a list. -/
def dg (l : List Nat) (j : Nat) : Nat := l.getD j 0
def nv (l : List Nat) : Nat := sv (dg l) l.length
/-- A digit replaced. -/
def up (d : Nat → Nat) (p x : Nat) (j : Nat) : Nat := if j = p then x else d j
theorem pow_succ' (n : Nat) : 1000000000 ^ (n + 1) = 1000000000 * 1000000000 ^ n := by rw [Nat.pow_succ, Nat.mul_comm]
theorem pow_pos' (n : Nat) : 0 < 1000000000 ^ n := Nat.pow_pos (by omega)
theorem sv_congr {d e : Nat → Nat} : ∀ n, (∀ j, j < n → d j = e j) → sv d n = sv e n
  | 0, _ => rfl
  | n + 1, h => by
    show sv d n + _ = sv e n + _
    rw [sv_congr n (fun j hj => h j (by omega)), h n (by omega)]
theorem sv_zero {d : Nat → Nat} : ∀ n, (∀ j, j < n → d j = 0) → sv d n = 0
  | 0, _ => rfl
  | n + 1, h => by
    show sv d n + _ = 0
    rw [sv_zero n (fun j hj => h j (by omega)), h n (by omega)]; simp
theorem sv_lt {d : Nat → Nat} : ∀ n, (∀ j, j < n → d j < 1000000000) → sv d n < 1000000000 ^ n
  | 0, _ => by simp [sv]
  | n + 1, h => by
    have h1 := sv_lt n (fun j hj => h j (by omega))
    have h2 : d n * 1000000000 ^ n ≤ 999999999 * 1000000000 ^ n := Nat.mul_le_mul_right _ (by have := h n (by omega); omega)
    show sv d n + d n * 1000000000 ^ n < _
    rw [pow_succ']; omega
/-- The digits from k on. -/
theorem sv_add (d : Nat → Nat) (k : Nat) : ∀ n, sv d (k + n) = sv d k + 1000000000 ^ k * sv (fun j => d (k + j)) n
  | 0 => by simp [sv]
  | n + 1 => by
    show sv d (k + n) + d (k + n) * 1000000000 ^ (k + n) = sv d k + 1000000000 ^ k * (sv (fun j => d (k + j)) n + d (k + n) * 1000000000 ^ n)
    rw [sv_add d k n, Nat.pow_add, Nat.mul_add]
    simp only [Nat.mul_left_comm, Nat.add_assoc]
theorem sv_head (d : Nat → Nat) (n : Nat) : sv d (n + 1) = d 0 + 1000000000 * sv (fun j => d (j + 1)) n := by
  rw [Nat.add_comm n 1, sv_add d 1 n]
  simp only [sv, Nat.pow_zero, Nat.mul_one, Nat.zero_add, Nat.pow_one]
  simp only [Nat.add_comm]
theorem sv_more (d : Nat → Nat) (n m : Nat) (h : ∀ j, n ≤ j → d j = 0) : sv d (n + m) = sv d n := by
  rw [sv_add, sv_zero m (fun j _ => h _ (by omega))]; simp
theorem sv_le (d : Nat → Nat) (n m : Nat) (h : n ≤ m) : sv d n ≤ sv d m := by
  obtain ⟨k, rfl⟩ := Nat.le.dest h
  rw [sv_add]; exact Nat.le_add_right _ _
theorem up_same (d : Nat → Nat) (p x : Nat) : up d p x p = x := by simp [up]
theorem up_ne (d : Nat → Nat) (p x j : Nat) (h : j ≠ p) : up d p x j = d j := by simp [up, h]
theorem sv_up (d : Nat → Nat) (p x : Nat) : ∀ n, p < n → sv (up d p x) n + d p * 1000000000 ^ p = sv d n + x * 1000000000 ^ p
  | 0, h => absurd h (by omega)
  | n + 1, h => by
    by_cases e : p = n
    · subst e
      show sv (up d p x) p + up d p x p * _ + _ = sv d p + d p * _ + _
      rw [up_same, sv_congr (d := up d p x) (e := d) p (fun j hj => up_ne d p x j (by omega))]; omega
    · have := sv_up d p x n (by omega)
      show sv (up d p x) n + up d p x n * _ + _ = sv d n + d n * _ + _
      rw [up_ne d p x n (by omega)]; omega
theorem sv_up_far (d : Nat → Nat) (p x n : Nat) (h : n ≤ p) : sv (up d p x) n = sv d n := sv_congr n (fun j hj => up_ne d p x j (by omega))
theorem dg_set (l : List Nat) (p x : Nat) (h : p < l.length) : dg (l.set p x) = up (dg l) p x := by
  funext j
  unfold dg up
  by_cases e : j = p
  · subst e; simp [h]
  · simp [e, Ne.symm e]
theorem dg_lt (l : List Nat) (h : ∀ x ∈ l, x < 1000000000) (j : Nat) : dg l j < 1000000000 := by
  unfold dg
  by_cases hj : j < l.length
  · simp [hj]; exact h _ (List.getElem_mem hj)
  · simp [List.getElem?_eq_none (show l.length ≤ j by omega)]
theorem dg_far (l : List Nat) (j : Nat) (h : l.length ≤ j) : dg l j = 0 := by unfold dg; simp [List.getElem?_eq_none h]
theorem dg_get (l : List Nat) (j : Nat) (h : j < l.length) : dg l j = l[j] := by unfold dg; simp [h]
theorem nv_nil : nv [] = 0 := rfl
theorem nv_cons (x : Nat) (l : List Nat) : nv (x :: l) = x + 1000000000 * nv l := by
  unfold nv
  rw [List.length_cons, sv_head]
  rfl
theorem nv_lt (l : List Nat) (h : ∀ x ∈ l, x < 1000000000) : nv l < 1000000000 ^ l.length := sv_lt _ (fun j _ => dg_lt l h j)
theorem nv_sv (l : List Nat) (n : Nat) (h : l.length ≤ n) : sv (dg l) n = nv l := by
  obtain ⟨k, rfl⟩ := Nat.le.dest h
  exact sv_more _ _ _ (fun j hj => dg_far l j hj)
theorem nv_snoc (l : List Nat) (x : Nat) : nv (l ++ [x]) = nv l + x * 1000000000 ^ l.length := by
  unfold nv
  rw [show (l ++ [x]).length = l.length + 1 by simp]
  show sv (dg (l ++ [x])) l.length + dg (l ++ [x]) l.length * _ = _
  rw [sv_congr (e := dg l) l.length (fun j hj => by unfold dg; simp [List.getElem?_append_left hj])]
  congr 2
  unfold dg; simp
theorem nv_take (l : List Nat) (n : Nat) (h : n ≤ l.length) : nv (l.take n) = sv (dg l) n := by
  unfold nv
  rw [List.length_take, Nat.min_eq_left h]
  exact sv_congr n (fun j hj => by unfold dg; simp [hj])
theorem dg_drop (l : List Nat) (k : Nat) : dg (l.drop k) = fun j => dg l (k + j) := by funext j; unfold dg; simp

/-- The canonical digits of a number. -/
def nd (n : Nat) : List Nat := if n = 0 then [] else n % 1000000000 :: nd (n / 1000000000)
termination_by n
decreasing_by omega
theorem nd_zero : nd 0 = [] := by rw [nd]; simp
theorem nd_pos {n : Nat} (h : n ≠ 0) : nd n = n % 1000000000 :: nd (n / 1000000000) := by rw [nd]; simp [h]
theorem nd_lt (n : Nat) : ∀ x ∈ nd n, x < 1000000000 := by
  induction n using Nat.strongRecOn with
  | _ n ih =>
    by_cases h : n = 0
    · subst h; rw [nd_zero]; simp
    · rw [nd_pos h]
      intro x hx
      rcases List.mem_cons.1 hx with rfl | hx
      · omega
      · exact ih _ (by omega) x hx
theorem nv_nd (n : Nat) : nv (nd n) = n := by
  induction n using Nat.strongRecOn with
  | _ n ih =>
    by_cases h : n = 0
    · subst h; rw [nd_zero]; rfl
    · rw [nd_pos h, nv_cons, ih _ (by omega)]; omega
/-- No zero at the end. -/
def Neat (l : List Nat) : Prop := (∀ x ∈ l, x < 1000000000) ∧ l.getLast? ≠ some 0
theorem nd_neat (n : Nat) : Neat (nd n) := by
  refine ⟨nd_lt n, ?_⟩
  induction n using Nat.strongRecOn with
  | _ n ih =>
    by_cases h : n = 0
    · subst h; rw [nd_zero]; simp
    · rw [nd_pos h]
      by_cases h2 : n / 1000000000 = 0
      · rw [h2, nd_zero]; simp; omega
      · have := ih _ (show n / 1000000000 < n by omega)
        rw [nd_pos h2] at this ⊢
        simpa [List.getLast?_cons_cons] using this
theorem nd_nv : ∀ (l : List Nat), Neat l → nd (nv l) = l
  | [], _ => by rw [nv_nil, nd_zero]
  | x :: l, h => by
    have hx := h.1 x (by simp)
    have hl : Neat l := ⟨fun y hy => h.1 y (by simp [hy]), fun e => h.2 (by
      cases l with
      | nil => simp at e
      | cons y l => rw [List.getLast?_cons_cons]; exact e)⟩
    have ih := nd_nv l hl
    rw [nv_cons]
    by_cases e : x + 1000000000 * nv l = 0
    · have e1 : nv l = 0 := by omega
      have : l = [] := by rw [← ih, e1, nd_zero]
      subst this
      have e0 : x = 0 := by omega
      exact absurd (by simp [e0]) h.2
    · rw [nd_pos e, show (x + 1000000000 * nv l) % 1000000000 = x by omega, show (x + 1000000000 * nv l) / 1000000000 = nv l by omega, ih]
theorem neat_pos (l : List Nat) (h : Neat l) (h0 : l ≠ []) : 1000000000 ^ (l.length - 1) ≤ nv l := by
  obtain ⟨m, x, rfl⟩ : ∃ m x, l = m ++ [x] := ⟨l.dropLast, l.getLast h0, (List.dropLast_concat_getLast h0).symm⟩
  have hx : x ≠ 0 := fun e => h.2 (by simp [e])
  rw [nv_snoc, show (m ++ [x]).length - 1 = m.length by simp]
  have : 1 * 1000000000 ^ m.length ≤ x * 1000000000 ^ m.length := Nat.mul_le_mul_right _ (by omega)
  omega
theorem nd_len_le (n k : Nat) (h : n < 1000000000 ^ k) : (nd n).length ≤ k := by
  by_cases h0 : nd n = []
  · rw [h0]; simp
  · have h1 := neat_pos _ (nd_neat n) h0
    rw [nv_nd] at h1
    have h2 : 1000000000 ^ ((nd n).length - 1) < 1000000000 ^ k := by omega
    have := (Nat.pow_lt_pow_iff_right (by omega)).1 h2
    omega
theorem nd_lt_pow (n : Nat) : n < 1000000000 ^ (nd n).length := by
  have := nv_lt (nd n) (nd_lt n)
  rwa [nv_nd] at this
theorem nd_nil_iff (n : Nat) : nd n = [] ↔ n = 0 := by
  constructor
  · intro h; by_cases e : n = 0
    · exact e
    · rw [nd_pos e] at h; cases h
  · rintro rfl; exact nd_zero
/-- The zeros at the end dropped. -/
theorem nd_trim (l : List Nat) (h : ∀ x ∈ l, x < 1000000000) (n : Nat) (hn : n ≤ l.length) (hz : ∀ j, n ≤ j → dg l j = 0) (hl : n = 0 ∨ dg l (n - 1) ≠ 0) : l.take n = nd (nv l) := by
  have h1 : nv (l.take n) = nv l := by
    rw [nv_take l n hn]
    unfold nv
    obtain ⟨k, hk⟩ := Nat.le.dest hn
    rw [← hk, sv_more _ _ _ hz]
  rw [← h1, nd_nv]
  refine ⟨fun x hx => h x (List.mem_of_mem_take hx), ?_⟩
  rcases hl with rfl | hl
  · simp
  · by_cases e : n = 0
    · subst e; simp
    · rw [List.getLast?_eq_getElem?, List.length_take, Nat.min_eq_left hn, List.getElem?_take_of_lt (by omega)]
      unfold dg at hl
      intro e2
      rw [List.getD_eq_getElem?_getD, e2] at hl
      exact hl rfl
theorem step (t P : Nat) : t % 1000000000 * P + t / 1000000000 * (1000000000 * P) = t * P := by
  rw [← Nat.mul_assoc, ← Nat.add_mul]
  congr 1; omega

/-! Order -/
theorem nd_len_lt {a b : Nat} (h : (nd a).length < (nd b).length) : a < b := by
  have h1 := nd_lt_pow a
  have h0 : nd b ≠ [] := by intro e; rw [e] at h; simp at h
  have h2 := neat_pos _ (nd_neat b) h0
  rw [nv_nd] at h2
  have h3 : 1000000000 ^ (nd a).length ≤ 1000000000 ^ ((nd b).length - 1) := Nat.pow_le_pow_right (by omega) (by omega)
  omega
theorem top_lt {d e : Nat → Nat} {n i : Nat} (hi : i < n) (hd : ∀ j, j < n → d j < 1000000000) (he : ∀ j, i < j → j < n → d j = e j) (hlt : d i < e i) : sv d n < sv e n := by
  obtain ⟨k, rfl⟩ := Nat.le.dest (show i + 1 ≤ n by omega)
  rw [sv_add d (i + 1) k, sv_add e (i + 1) k, sv_congr (e := fun j => e (i + 1 + j)) k (fun j hj => he _ (by omega) (by omega))]
  have h1 : sv d i < 1000000000 ^ i := sv_lt i (fun j hj => hd j (by omega))
  have h2 : (d i + 1) * 1000000000 ^ i ≤ e i * 1000000000 ^ i := Nat.mul_le_mul_right _ (by omega)
  rw [Nat.add_mul] at h2
  show sv d i + d i * _ + _ < sv e i + e i * _ + _
  omega
end KeepPlain
/-
  The loops of sums, differences, products and short quotients. No program in sight.
-/
namespace KeepPlain

/-- A sum, digit by digit. -/
theorem add_step {o a b : Nat → Nat} {i c : Nat} (h : sv o i + c * 1000000000 ^ i = sv a i + sv b i) (ho : o i = (a i + b i + c) % 1000000000) :
    sv o (i + 1) + (a i + b i + c) / 1000000000 * 1000000000 ^ (i + 1) = sv a (i + 1) + sv b (i + 1) := by
  show sv o i + o i * _ + _ = sv a i + a i * _ + (sv b i + b i * _)
  rw [ho, pow_succ']
  have h1 := step (a i + b i + c) (1000000000 ^ i)
  have h2 : (a i + b i + c) * 1000000000 ^ i = a i * 1000000000 ^ i + b i * 1000000000 ^ i + c * 1000000000 ^ i := by rw [Nat.add_mul, Nat.add_mul]
  omega
/-- A difference, digit by digit; x is the digit with what was borrowed. -/
theorem sub_step {o a b : Nat → Nat} {i c c' x : Nat} (h : sv o i + sv b i = sv a i + c * 1000000000 ^ i) (ho : o i + b i + c = a i + c' * 1000000000) (hx : x = o i) :
    sv o i + x * 1000000000 ^ i + sv b (i + 1) = sv a (i + 1) + c' * 1000000000 ^ (i + 1) := by
  subst hx
  show sv o i + o i * _ + (sv b i + b i * _) = sv a i + a i * _ + _
  rw [pow_succ']
  have h2 : (o i + b i + c) * 1000000000 ^ i = (a i + c' * 1000000000) * 1000000000 ^ i := by rw [ho]
  have h3 : c' * (1000000000 * 1000000000 ^ i) = c' * 1000000000 * 1000000000 ^ i := by rw [Nat.mul_assoc]
  rw [Nat.add_mul, Nat.add_mul, Nat.add_mul] at h2
  omega
/-- One digit of a row of a product. -/
theorem mul_step {o b : Nat → Nat} {i k n x c : Nat} (hn : i + k < n) {T : Nat} (h : sv o n + c * 1000000000 ^ (i + k) = T + x * 1000000000 ^ i * sv b k) :
    sv (up o (i + k) ((x * b k + o (i + k) + c) % 1000000000)) n + (x * b k + o (i + k) + c) / 1000000000 * 1000000000 ^ (i + k + 1) = T + x * 1000000000 ^ i * sv b (k + 1) := by
  have h1 := sv_up o (i + k) ((x * b k + o (i + k) + c) % 1000000000) n hn
  have h2 := step (x * b k + o (i + k) + c) (1000000000 ^ (i + k))
  have h3 : x * 1000000000 ^ i * sv b (k + 1) = x * 1000000000 ^ i * sv b k + x * b k * 1000000000 ^ (i + k) := by
    show x * 1000000000 ^ i * (sv b k + b k * 1000000000 ^ k) = _
    rw [Nat.mul_add, Nat.pow_add]
    congr 1
    simp only [Nat.mul_left_comm, Nat.mul_assoc]
  rw [h3, pow_succ']
  rw [Nat.add_mul, Nat.add_mul] at h2
  omega
/-- A digit on top. -/
theorem sv_top {d : Nat → Nat} {n c : Nat} (h : d n = c) : sv d (n + 1) = sv d n + c * 1000000000 ^ n := by
  show sv d n + d n * _ = _
  rw [h]
theorem mul_row {o b a : Nat → Nat} {i m c T : Nat} (hT : T = sv a i * sv b m) (h : sv o (i + m) + c * 1000000000 ^ (i + m) = T + a i * 1000000000 ^ i * sv b m) :
    sv (up o (i + m) c) (i + 1 + m) = sv a (i + 1) * sv b m := by
  rw [show i + 1 + m = i + m + 1 by omega, sv_top (up_same o (i + m) c), sv_up_far o (i + m) c (i + m) (Nat.le_refl _), h, hT]
  show _ = (sv a i + a i * 1000000000 ^ i) * sv b m
  rw [Nat.add_mul]
theorem mul_bound {x y z c : Nat} (hx : x < 1000000000) (hy : y < 1000000000) (hz : z < 1000000000) (hc : c < 1000000000) : x * y + z + c < 1000000000000000000 ∧ (x * y + z + c) / 1000000000 < 1000000000 := by
  have h1 : x * y ≤ 999999999 * 999999999 := Nat.mul_le_mul (by omega) (by omega)
  omega
/-- A number times a digit. -/
theorem scale_step {o a : Nat → Nat} {i c m : Nat} (h : sv o i + c * 1000000000 ^ i = m * sv a i) (ho : o i = (c + a i * m) % 1000000000) :
    sv o (i + 1) + (c + a i * m) / 1000000000 * 1000000000 ^ (i + 1) = m * sv a (i + 1) := by
  show sv o i + o i * _ + _ = m * (sv a i + a i * _)
  rw [ho, pow_succ', Nat.mul_add]
  have h1 := step (c + a i * m) (1000000000 ^ i)
  have h2 : (c + a i * m) * 1000000000 ^ i = c * 1000000000 ^ i + m * (a i * 1000000000 ^ i) := by
    rw [Nat.add_mul, Nat.mul_assoc]
    congr 1
    exact Nat.mul_left_comm _ _ _
  omega
theorem scale_bound {x m c : Nat} (hx : x < 1000000000) (hm : m ≤ 1000000000) (hc : c < 1000000000) : c + x * m < 1000000000000000000 ∧ (c + x * m) / 1000000000 < 1000000000 := by
  have h1 : x * m ≤ 999999999 * 1000000000 := Nat.mul_le_mul (by omega) (by omega)
  omega
/-- The digits from k on, of n in all. -/
def hi (d : Nat → Nat) (k n : Nat) : Nat := sv (fun j => d (k + j)) (n - k)
theorem hi_end (d : Nat → Nat) (n : Nat) : hi d n n = 0 := by unfold hi; simp [sv]
theorem hi_zero (d : Nat → Nat) (n : Nat) : hi d 0 n = sv d n := by unfold hi; simp
theorem hi_step (d : Nat → Nat) (k n : Nat) (h : k < n) : hi d k n = d k + 1000000000 * hi d (k + 1) n := by
  unfold hi
  obtain ⟨m, rfl⟩ := Nat.le.dest (show k + 1 ≤ n by omega)
  rw [show k + 1 + m - k = m + 1 by omega, sv_head, show k + 1 + m - (k + 1) = m by omega]
  simp only [Nat.add_zero]
  congr 3
  funext j; congr 1; omega
theorem hi_congr {d e : Nat → Nat} {k n : Nat} (h : ∀ j, k ≤ j → j < n → d j = e j) : hi d k n = hi e k n := by
  unfold hi
  exact sv_congr _ (fun j hj => h _ (by omega) (by omega))
theorem hi_lt {d : Nat → Nat} (k n : Nat) (h : ∀ j, j < n → d j < 1000000000) : hi d k n < 1000000000 ^ (n - k) := sv_lt _ (fun j hj => h _ (by omega))
theorem hi_low (d : Nat → Nat) (k n : Nat) (h : k ≤ n) : sv d n = sv d k + 1000000000 ^ k * hi d k n := by
  obtain ⟨m, rfl⟩ := Nat.le.dest h
  rw [sv_add]; unfold hi
  rw [show k + m - k = m by omega]
/-- A short quotient, from the top. -/
theorem short_step {o a : Nat → Nat} {k n m r : Nat} (hm : 0 < m) (hk : k < n) (h : hi a (k + 1) n = m * hi o (k + 1) n + r) (ho : o k = (r * 1000000000 + a k) / m) :
    hi a k n = m * hi o k n + (r * 1000000000 + a k) % m := by
  rw [hi_step a k n hk, hi_step o k n hk, h, ho]
  have h1 := Nat.div_add_mod (r * 1000000000 + a k) m
  rw [Nat.mul_add, Nat.mul_add]
  have h2 : m * (1000000000 * hi o (k + 1) n) = 1000000000 * (m * hi o (k + 1) n) := Nat.mul_left_comm _ _ _
  have _ := hm
  omega
theorem short_bound {r x m : Nat} (hr : r < m) (hm : m ≤ 1000000000) (hx : x < 1000000000) : r * 1000000000 + x < 1000000000000000000 ∧ (r * 1000000000 + x) / m < 1000000000 ∧ (r * 1000000000 + x) % m < m := by
  refine ⟨by omega, ?_, Nat.mod_lt _ (by omega)⟩
  have h1 : r * 1000000000 + x < m * 1000000000 := by
    have : (r + 1) * 1000000000 ≤ m * 1000000000 := Nat.mul_le_mul_right _ hr
    omega
  exact (Nat.div_lt_iff_lt_mul (by omega)).2 (by omega)
end KeepPlain
