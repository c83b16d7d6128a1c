/-
  Small models of tokens: what they compute, as plain functions of lists. No program.
-/
import Derived.Test.YtdbhlkejfecffaaGreatDoorSa1
/-
  Small models of tokens: what they compute, as plain functions of lists. No program.
-/
namespace Go.Proofs.YtdbhlkejfecffaaGreatDoor
open Go.RowKit

structure MD where
  kind : Int
  vocab : Int
  width : Int
  top : Int
  cuts : List Int
  embed : List Int
  place : List Int
  mix : List Int
  out : List Int
  soft : List Int
  odds : List Int
/-- What a model that is right fulfils. -/
structure MD.Ok (m : MD) : Prop where
  kind : 1 ≤ m.kind ∧ m.kind ≤ 3
  vocab : 2 ≤ m.vocab ∧ m.vocab ≤ 16
  width : 1 ≤ m.width ∧ m.width ≤ 5
  top : 1 ≤ m.top ∧ m.top ≤ m.vocab
  cuts : m.cuts.length = 4
  embed : (m.embed.length : Int) = m.vocab * m.width
  out : (m.out.length : Int) = m.vocab * m.width
  place : (m.place.length : Int) % m.width = 0 ∧ 1 ≤ (m.place.length : Int) / m.width ∧ (m.place.length : Int) / m.width ≤ 16
  mix : (m.mix.length : Int) % (m.width * m.width) = 0 ∧ (m.kind = 1 → (m.mix.length : Int) / (m.width * m.width) = 3) ∧ (m.kind = 2 → (m.mix.length : Int) / (m.width * m.width) = 2) ∧ 1 ≤ (m.mix.length : Int) / (m.width * m.width) ∧ (m.mix.length : Int) / (m.width * m.width) ≤ 4
  soft : 1 ≤ m.soft.length ∧ m.soft.length ≤ 64
  odds : 1 ≤ m.odds.length ∧ m.odds.length ≤ 64
  cuts' : ∀ x, x ∈ m.cuts → 1 ≤ x ∧ x ≤ 15
  embed' : ∀ x, x ∈ m.embed → -128 ≤ x ∧ x ≤ 127
  place' : ∀ x, x ∈ m.place → -128 ≤ x ∧ x ≤ 127
  mix' : ∀ x, x ∈ m.mix → -128 ≤ x ∧ x ≤ 127
  out' : ∀ x, x ∈ m.out → -128 ≤ x ∧ x ≤ 127
  soft' : ∀ x, x ∈ m.soft → 0 ≤ x ∧ x ≤ 1000
  odds' : ∀ x, x ∈ m.odds → 0 ≤ x ∧ x ≤ 1000
  odds0 : m.odds.getD 0 0 ≠ 0
def w32 (n : Int) : Int := wrap64 (RowKit.wrap32 n)
theorem w32_in (n : Int) : -2147483648 ≤ w32 n ∧ w32 n ≤ 2147483647 := by
  unfold w32 wrap64 RowKit.wrap32
  omega
def shiftI (n : Int) (k : Nat) : Int := wrap64 (n + 2 ^ (k - 1)) / 2 ^ k
/-- A list that is made by appending. -/
def mkL (f : Nat → Int) : Nat → List Int
  | 0 => []
  | k + 1 => mkL f k ++ [f k]
theorem mkL_len (f : Nat → Int) (k : Nat) : (mkL f k).length = k := by
  induction k with
  | zero => rfl
  | succ k ih => rw [mkL, List.length_append, ih]; rfl
theorem mkL_mem {f : Nat → Int} {k : Nat} {x : Int} (h : x ∈ mkL f k) : ∃ i, x = f i := by
  induction k with
  | zero => simp [mkL] at h
  | succ k ih =>
    rw [mkL] at h
    rcases List.mem_append.1 h with h | h
    · exact ih h
    · exact ⟨k, List.mem_singleton.1 h⟩
/-- A list that is changed place by place. -/
def stL (f : Int → Nat → Int) (l : List Int) : Nat → List Int
  | 0 => l
  | k + 1 => (stL f l k).set k (f ((stL f l k).getD k 0) k)
theorem stL_len (f : Int → Nat → Int) (l : List Int) (k : Nat) : (stL f l k).length = l.length := by
  induction k with
  | zero => rfl
  | succ k ih => rw [stL, List.length_set, ih]
def rowL (l : List Int) (k n : Nat) : List Int := (l.drop (n * k)).take n
theorem rowL_len {l : List Int} {k n : Nat} (h : n * (k + 1) ≤ l.length) : (rowL l k n).length = n := by
  rw [Nat.mul_add, Nat.mul_one] at h
  unfold rowL; rw [List.length_take, List.length_drop]; omega
def dotTo (a b : List Int) : Nat → Int
  | 0 => 0
  | i + 1 => w32 (wrap64 (dotTo a b i + w32 (wrap64 (a.getD i 0 * b.getD i 0))))
def dotI (a b : List Int) : Int := dotTo a b a.length
theorem dotTo_in (a b : List Int) (n : Nat) : -2147483648 ≤ dotTo a b n ∧ dotTo a b n ≤ 2147483647 := by
  cases n with
  | zero => simp [dotTo]
  | succ n => exact w32_in _
/-- The greatest of the first numbers. -/
def maxTo (l : List Int) : Nat → Int
  | 0 => l.getD 0 0
  | i + 1 => max (maxTo l i) (l.getD (i + 1) 0)
def maxI (l : List Int) : Int := maxTo l (l.length - 1)
theorem maxTo_ge (l : List Int) (n : Nat) : ∀ i, i ≤ n → l.getD i 0 ≤ maxTo l n := by
  induction n with
  | zero => intro i hi; rw [show i = 0 by omega]; exact Int.le_refl _
  | succ n ih =>
    intro i hi
    unfold maxTo
    by_cases h : i = n + 1
    · subst h; omega
    · have := ih i (by omega); omega
theorem maxTo_mem (l : List Int) (n : Nat) (hn : n < l.length) : ∃ i, i ≤ n ∧ maxTo l n = l.getD i 0 := by
  induction n with
  | zero => exact ⟨0, Nat.le_refl _, rfl⟩
  | succ n ih =>
    obtain ⟨i, hi, e⟩ := ih (by omega)
    unfold maxTo
    by_cases h : maxTo l n ≤ l.getD (n + 1) 0
    · exact ⟨n + 1, Nat.le_refl _, by omega⟩
    · exact ⟨i, by omega, by rw [← e]; omega⟩
def MD.cut (m : MD) (i : Nat) : Nat := (m.cuts.getD i 0).toNat
/-- One of the rows of a matrix of Mix. -/
def mixR (m : MD) (W k o : Nat) : List Int := rowL (rowL m.mix k (W * W)) o W
def xL (m : MD) (W t a : Nat) : List Int := stL (fun x o => w32 (wrap64 (x + (rowL m.place (a % (m.place.length / W)) W).getD o 0))) (rowL m.embed t W) W
def entJ (m : MD) (W t a j : Nat) : Int := shiftI (dotI (mixR m W (j / W) (j % W)) (xL m W t a)) (m.cut 0)
/-- The entry of a token at a place. -/
def entL (m : MD) (W t a : Nat) : List Int := if m.kind = 1 then mkL (entJ m W t a) (3 * W) else xL m W t a
def lenE (m : MD) (W : Nat) : Nat := if m.kind = 1 then 3 * W else W
def eAt (E : List (List Int)) (i : Nat) : List Int := E.getD i []
def lastE (W : Nat) (E : List (List Int)) : List Int := ((eAt E (E.length - 1)).drop (2 * W)).take W
def attJ (m : MD) (W : Nat) (E : List (List Int)) (i : Nat) : Int := shiftI (dotI (((eAt E i).drop 0).take W) (lastE W E)) (m.cut 1)
def attS (m : MD) (W : Nat) (E : List (List Int)) (k : Nat) : List Int := mkL (attJ m W E) k
def attI (m : MD) (W : Nat) (E : List (List Int)) (i : Nat) : Nat := (min (max (w32 (wrap64 (maxI (attS m W E E.length) - (attS m W E E.length).getD i 0))) 0) ((m.soft.length : Int) - 1)).toNat
def attW (m : MD) (W : Nat) (E : List (List Int)) (i : Nat) : Int := m.soft.getD (attI m W E i) 0
def attH (m : MD) (W : Nat) (E : List (List Int)) : Nat → List Int
  | 0 => List.replicate W 0
  | i + 1 => stL (fun h o => w32 (wrap64 (h + w32 (wrap64 (attW m W E i * (((eAt E i).drop W).take W).getD o 0))))) (attH m W E i) W
theorem attH_len (m : MD) (W : Nat) (E : List (List Int)) (i : Nat) : (attH m W E i).length = W := by
  induction i with
  | zero => simp [attH]
  | succ i ih => rw [attH, stL_len, ih]
def attOut (m : MD) (W : Nat) (E : List (List Int)) : List Int := stL (fun h _ => shiftI h (m.cut 2)) (attH m W E E.length) W
def cellH (m : MD) (W : Nat) (E : List (List Int)) : Nat → List Int
  | 0 => List.replicate W 0
  | i + 1 => stL (fun _ o => min (max (shiftI (w32 (wrap64 (dotI (mixR m W 0 o) (cellH m W E i) + dotI (mixR m W 1 o) (eAt E i)))) (m.cut 1)) (-1000)) 1000) (List.replicate W 0) W
theorem cellH_len (m : MD) (W : Nat) (E : List (List Int)) (i : Nat) : (cellH m W E i).length = W := by
  cases i with
  | zero => simp [cellH]
  | succ i => rw [cellH, stL_len, List.length_replicate]
def convS (m : MD) (W T : Nat) (E : List (List Int)) (o : Nat) : Nat → Int
  | 0 => 0
  | j + 1 => if T ≤ E.length + j then w32 (wrap64 (convS m W T E o j + dotI (mixR m W j o) (eAt E (E.length + j - T)))) else convS m W T E o j
def convOut (m : MD) (W T : Nat) (E : List (List Int)) : List Int := stL (fun _ o => max (shiftI (convS m W T E o T) (m.cut 1)) 0) (List.replicate W 0) W
def hL (m : MD) (W : Nat) (E : List (List Int)) : List Int := if m.kind = 1 then attOut m W E else if m.kind = 2 then cellH m W E E.length else convOut m W (m.mix.length / (W * W)) E
theorem hL_len (m : MD) (W : Nat) (E : List (List Int)) : (hL m W E).length = W := by
  unfold hL
  split
  · rw [attOut, stL_len, attH_len]
  · split
    · exact cellH_len _ _ _ _
    · rw [convOut, stL_len, List.length_replicate]
def scL (m : MD) (W : Nat) (E : List (List Int)) (k : Nat) : List Int := mkL (fun v => dotI (rowL m.out v W) (hL m W E)) k
theorem scL_in (m : MD) (W : Nat) (E : List (List Int)) (k : Nat) : ∀ x, x ∈ scL m W E k → -2147483648 ≤ x ∧ x ≤ 2147483647 := by
  intro x hx
  obtain ⟨i, rfl⟩ := mkL_mem hx
  exact dotTo_in _ _ _
theorem getD_set (l : List Int) (i j : Nat) (x : Int) : (l.set i x).getD j 0 = if i = j ∧ i < l.length then x else l.getD j 0 := by
  simp only [List.getD, List.getElem?_set]
  by_cases h : i = j
  · subst h
    by_cases h2 : i < l.length
    · simp [h2]
    · simp [h2]
  · simp [h]
/-- The insertion of one number among those that are sorted. -/
def insIn (sc : Int → Int) (l : List Int) : Nat → List Int
  | 0 => l
  | j + 1 => if sc (l.getD j 0) < sc (l.getD (j + 1) 0) then insIn sc ((l.set (j + 1) (l.getD j 0)).set j (l.getD (j + 1) 0)) j else l
def insOut (sc : Int → Int) (l : List Int) : Nat → List Int
  | 0 => l
  | i + 1 => insIn sc (insOut sc l i) (i + 1)
theorem insIn_perm (sc : Int → Int) : ∀ (j : Nat) (l : List Int), j < l.length → (insIn sc l j).Perm l
  | 0, l, _ => .refl _
  | j + 1, l, h => by
    rw [insIn]
    split
    · refine (insIn_perm sc j _ (by simp; omega)).trans ?_
      rw [show l.getD j 0 = l[j] by simp [List.getD, show j < l.length by omega], show l.getD (j + 1) 0 = l[j + 1] by simp [List.getD, h]]
      exact List.set_set_perm h (by omega)
    · exact .refl _
theorem insOut_perm (sc : Int → Int) (l : List Int) : ∀ i, i < l.length ∨ i = 0 → (insOut sc l i).Perm l
  | 0, _ => .refl _
  | i + 1, h => by
    have hp := insOut_perm sc l i (.inl (by omega))
    exact (insIn_perm sc (i + 1) _ (by rw [hp.length_eq]; omega)).trans hp
def Sorted' (sc : Int → Int) (l : List Int) (i : Nat) : Prop := ∀ a b, a < b → b ≤ i → sc (l.getD b 0) ≤ sc (l.getD a 0)
theorem insIn_sorted (sc : Int → Int) (i : Nat) : ∀ (j : Nat) (l : List Int), j < l.length → (∀ a b, a < b → b ≤ i → a ≠ j → b ≠ j → sc (l.getD b 0) ≤ sc (l.getD a 0)) → (∀ b, j < b → b ≤ i → sc (l.getD b 0) ≤ sc (l.getD j 0)) → Sorted' sc (insIn sc l j) i
  | 0, l, _, h1, h2 => by
    intro a b hab hb
    by_cases e : a = 0
    · subst e; exact h2 b hab hb
    · exact h1 a b hab hb e (by omega)
  | j + 1, l, hl, h1, h2 => by
    rw [insIn]
    split
    · rename_i hc
      have g : ∀ b, ((l.set (j + 1) (l.getD j 0)).set j (l.getD (j + 1) 0)).getD b 0 = if b = j then l.getD (j + 1) 0 else if b = j + 1 then l.getD j 0 else l.getD b 0 := by
        intro b
        rw [getD_set, getD_set]
        by_cases e : b = j
        · subst e; rw [if_pos ⟨rfl, by simp; omega⟩, if_pos rfl]
        · rw [if_neg (fun h => e h.1.symm), if_neg e]
          by_cases e2 : b = j + 1
          · subst e2; rw [if_pos ⟨rfl, hl⟩, if_pos rfl]
          · rw [if_neg (fun h => e2 h.1.symm), if_neg e2]
      refine insIn_sorted sc i j _ (by simp; omega) (fun a b hab hb ha hbj => ?_) (fun b hb hbi => ?_)
      · rw [g, g, if_neg ha, if_neg hbj]
        by_cases e : b = j + 1
        · subst e
          rw [if_pos rfl, if_neg (by omega)]
          exact h1 a j (by omega) (by omega) (by omega) (by omega)
        · rw [if_neg e]
          by_cases e2 : a = j + 1
          · subst e2
            rw [if_pos rfl]
            exact h1 j b (by omega) hb (by omega) e
          · rw [if_neg e2]; exact h1 a b hab hb e2 e
      · rw [g, g, if_neg (by omega), if_pos rfl]
        by_cases e : b = j + 1
        · rw [if_pos e]; omega
        · rw [if_neg e]; exact h2 b (by omega) hbi
    · rename_i hc
      intro a b hab hb
      by_cases e : a = j + 1
      · subst e; exact h2 b hab hb
      · by_cases e2 : b = j + 1
        · subst e2
          by_cases e3 : a = j
          · subst e3; omega
          · have := h1 a j (by omega) (by omega) e (by omega)
            omega
        · exact h1 a b hab hb e e2
theorem insOut_sorted (sc : Int → Int) (l : List Int) : ∀ i, i < l.length ∨ i = 0 → Sorted' sc (insOut sc l i) i
  | 0, _ => fun a b h1 h2 => by omega
  | i + 1, h => by
    have hp := insOut_perm sc l i (.inl (by omega))
    refine insIn_sorted sc (i + 1) (i + 1) _ (by rw [hp.length_eq]; omega) (fun a b hab hb ha hbj => insOut_sorted sc l i (.inl (by omega)) a b hab (by omega)) (fun b h1 h2 => by omega)
def iotaL (n k : Nat) : List Int := stL (fun _ i => (i : Int)) (List.replicate n 0) k
theorem iotaL_len (n k : Nat) : (iotaL n k).length = n := by rw [iotaL, stL_len, List.length_replicate]
theorem iotaL_get (n : Nat) : ∀ k i, k ≤ n → (iotaL n k).getD i 0 = if i < k then (i : Int) else 0
  | 0, i, _ => by
    rw [if_neg (by omega)]
    simp only [iotaL, stL, List.getD, List.getElem?_replicate]
    split <;> rfl
  | k + 1, i, h => by
    have hl := iotaL_len n k
    have hg := iotaL_get n k i (by omega)
    show ((iotaL n k).set k (k : Int)).getD i 0 = _
    rw [getD_set, hl, hg]
    by_cases e : k = i
    · subst e; rw [if_pos ⟨rfl, by omega⟩, if_pos (by omega)]
    · rw [if_neg (fun h => e h.1)]
      by_cases e2 : i < k
      · rw [if_pos e2, if_pos (by omega)]
      · rw [if_neg e2, if_neg (by omega)]
theorem iotaL_in (n k : Nat) (hk : k ≤ n) (hn : 0 < n) : ∀ x, x ∈ iotaL n k → 0 ≤ x ∧ x < (n : Int) := by
  intro x hx
  obtain ⟨i, hi, rfl⟩ := List.getElem_of_mem hx
  have := iotaL_get n k i hk
  rw [show (iotaL n k).getD i 0 = (iotaL n k)[i] by simp [List.getD, hi]] at this
  rw [iotaL_len] at hi
  rw [this]; split <;> omega
theorem iotaL_has (n v : Nat) (hv : v < n) : (v : Int) ∈ iotaL n n := by
  have := iotaL_get n n v (Nat.le_refl _)
  rw [if_pos hv] at this
  have hl := iotaL_len n n
  rw [show (iotaL n n).getD v 0 = (iotaL n n)[v]'(by omega) by simp [List.getD, hl, hv]] at this
  rw [← this]; exact List.getElem_mem _
def scF (sl : List Int) (x : Int) : Int := sl.getD x.toNat 0
/-- The numbers of the greatest scores, the first one first. -/
def rankL (sl : List Int) : List Int := insOut (scF sl) (iotaL sl.length sl.length) (sl.length - 1)
theorem rankL_perm (sl : List Int) (h : 0 < sl.length) : (rankL sl).Perm (iotaL sl.length sl.length) := insOut_perm _ _ _ (.inl (by rw [iotaL_len]; omega))
theorem rankL_len (sl : List Int) (h : 0 < sl.length) : (rankL sl).length = sl.length := by rw [(rankL_perm sl h).length_eq, iotaL_len]
theorem rankL_in (sl : List Int) (h : 0 < sl.length) : ∀ x, x ∈ rankL sl → 0 ≤ x ∧ x < (sl.length : Int) := fun x hx => iotaL_in _ _ (Nat.le_refl _) h x ((rankL_perm sl h).mem_iff.1 hx)
theorem rankL_at (sl : List Int) (h : 0 < sl.length) (i : Nat) (hi : i < sl.length) : 0 ≤ (rankL sl).getD i 0 ∧ (rankL sl).getD i 0 < (sl.length : Int) := by
  have hl := rankL_len sl h
  rw [show (rankL sl).getD i 0 = (rankL sl)[i]'(by omega) by simp [List.getD, hl, hi]]
  exact rankL_in sl h _ (List.getElem_mem _)
theorem rankL_head (sl : List Int) (h : 0 < sl.length) : sl.getD ((rankL sl).getD 0 0).toNat 0 = maxI sl := by
  have hs : Sorted' (scF sl) (rankL sl) (sl.length - 1) := insOut_sorted _ _ _ (.inl (by rw [iotaL_len]; omega))
  have hl := rankL_len sl h
  have h0 := rankL_at sl h 0 h
  obtain ⟨i, hi, e⟩ := maxTo_mem sl (sl.length - 1) (by omega)
  have hge := maxTo_ge sl (sl.length - 1) ((rankL sl).getD 0 0).toNat (by omega)
  have hm : (i : Int) ∈ rankL sl := (rankL_perm sl h).mem_iff.2 (iotaL_has _ i (by omega))
  obtain ⟨j, hj, ej⟩ := List.getElem_of_mem hm
  have ej' : (rankL sl).getD j 0 = (i : Int) := by simp [List.getD, hj, ej]
  have hle : sl.getD i 0 ≤ sl.getD ((rankL sl).getD 0 0).toNat 0 := by
    by_cases e0 : j = 0
    · subst e0
      rw [ej']; exact Int.le_of_eq (by rw [Int.toNat_natCast])
    · have := hs 0 j (by omega) (by omega)
      rw [ej'] at this
      simpa [scF] using this
  unfold maxI at *
  omega
def wtJ (m : MD) (sl : List Int) (v : Nat) : Int := m.odds.getD (min ((maxI sl - sl.getD v 0) / 2 ^ m.cut 3) ((m.odds.length : Int) - 1)).toNat 0
def wtTo (m : MD) (sl ys : List Int) : Nat → List Int
  | 0 => List.replicate sl.length 0
  | i + 1 => (wtTo m sl ys i).set (ys.getD i 0).toNat (wtJ m sl (ys.getD i 0).toNat)
theorem wtTo_len (m : MD) (sl ys : List Int) (i : Nat) : (wtTo m sl ys i).length = sl.length := by
  induction i with
  | zero => simp [wtTo]
  | succ i ih => rw [wtTo, List.length_set, ih]
def wtL (m : MD) (sl : List Int) : List Int := wtTo m sl (rankL sl) m.top.toNat
theorem getD_in {l : List Int} {lo hi : Int} (h : ∀ x, x ∈ l → lo ≤ x ∧ x ≤ hi) (h0 : lo ≤ 0 ∧ 0 ≤ hi) (i : Nat) : lo ≤ l.getD i 0 ∧ l.getD i 0 ≤ hi := by
  by_cases hi : i < l.length
  · rw [show l.getD i 0 = l[i] by simp [List.getD, hi]]; exact h _ (List.getElem_mem _)
  · rw [show l.getD i 0 = 0 by simp [List.getD, List.getElem?_eq_none (show l.length ≤ i by omega)]]; exact h0
theorem wtTo_in {m : MD} (hm : m.Ok) (sl ys : List Int) (i : Nat) : ∀ x, x ∈ wtTo m sl ys i → 0 ≤ x ∧ x ≤ 1000 := by
  induction i with
  | zero => intro x hx; rw [wtTo] at hx; rw [(List.mem_replicate.1 hx).2]; omega
  | succ i ih =>
    intro x hx
    rw [wtTo] at hx
    rcases List.mem_or_eq_of_mem_set hx with h | h
    · exact ih x h
    · rw [h]; exact getD_in hm.odds' (by omega) _
theorem wtTo_first (m : MD) (sl ys : List Int) (h : (ys.getD 0 0).toNat < sl.length) : ∀ i, (wtTo m sl ys (i + 1)).getD (ys.getD 0 0).toNat 0 = wtJ m sl (ys.getD 0 0).toNat
  | 0 => by rw [wtTo, getD_set, if_pos ⟨rfl, by rw [wtTo_len]; exact h⟩]
  | i + 1 => by
    rw [wtTo, getD_set]
    split
    · rename_i hc; rw [hc.1]
    · exact wtTo_first m sl ys h i
def sumTo (l : List Int) : Nat → Int
  | 0 => 0
  | i + 1 => sumTo l i + l.getD i 0
def smpL : List Int → Int → Nat
  | [], _ => 0
  | x :: xs, a => if x ≤ a then 1 + smpL xs (a - x) else 0
def sumL : List Int → Int
  | [] => 0
  | x :: xs => x + sumL xs
theorem sumTo_drop (l : List Int) (n : Nat) (h : n ≤ l.length) : sumTo l n + sumL (l.drop n) = sumL l := by
  induction n with
  | zero => simp [sumTo]
  | succ n ih =>
    have := ih (by omega)
    rw [List.drop_eq_getElem_cons (by omega : n < l.length)] at this
    simp only [sumL] at this
    simp only [sumTo, List.getD, List.getElem?_eq_getElem (by omega : n < l.length), Option.getD_some]
    omega
theorem sumL_nonneg (l : List Int) (h : ∀ x, x ∈ l → 0 ≤ x) : 0 ≤ sumL l := by
  induction l with
  | nil => simp [sumL]
  | cons a l ih => simp only [sumL]; have := h a (by simp); have := ih (fun x hx => h x (by simp [hx])); omega
theorem sumTo_bnd (l : List Int) (n : Nat) (h : ∀ x, x ∈ l → 0 ≤ x ∧ x ≤ 1000) : 0 ≤ sumTo l n ∧ sumTo l n ≤ 1000 * n := by
  induction n with
  | zero => simp [sumTo]
  | succ n ih =>
    simp only [sumTo]
    have := getD_in h (by omega) n
    omega
theorem smpL_lt (l : List Int) (h : ∀ x, x ∈ l → 0 ≤ x) : ∀ a : Int, 0 ≤ a → a < sumL l → smpL l a < l.length := by
  induction l with
  | nil => intro a h0 ha; simp only [sumL] at ha; omega
  | cons x l ih =>
    intro a h0 ha
    simp only [sumL] at ha
    simp only [smpL, List.length_cons]
    split
    · have := ih (fun y hy => h y (by simp [hy])) (a - x) (by omega) (by omega); omega
    · omega
def smpI (l : List Int) (draw : Int) : Nat := smpL l (draw * sumL l / 4294967296)
theorem sumL_mem (l : List Int) (h : ∀ x, x ∈ l → 0 ≤ x) {x : Int} (hx : x ∈ l) : x ≤ sumL l := by
  induction l with
  | nil => cases hx
  | cons a l ih =>
    simp only [sumL]
    have h0 := h a (by simp)
    have h1 := sumL_nonneg l (fun y hy => h y (by simp [hy]))
    rcases List.mem_cons.1 hx with rfl | hm
    · omega
    · have := ih (fun y hy => h y (by simp [hy])) hm; omega
theorem wtL_in {m : MD} (hm : m.Ok) (sl : List Int) : ∀ x, x ∈ wtL m sl → 0 ≤ x ∧ x ≤ 1000 := wtTo_in hm _ _ _
theorem wtL_len (m : MD) (sl : List Int) : (wtL m sl).length = sl.length := wtTo_len _ _ _ _
theorem getD_mem {l : List Int} {i : Nat} (h : i < l.length) : l.getD i 0 ∈ l := by
  rw [show l.getD i 0 = l[i] by simp [List.getD, h]]
  exact List.getElem_mem _
theorem wtL_pos {m : MD} (hm : m.Ok) (sl : List Int) (h : 0 < sl.length) : 0 < sumL (wtL m sl) := by
  have h0 := rankL_at sl h 0 h
  have ht := hm.top.1
  have hf := wtTo_first m sl (rankL sl) (by omega) (m.top.toNat - 1)
  rw [show m.top.toNat - 1 + 1 = m.top.toNat by omega] at hf
  have hj : wtJ m sl ((rankL sl).getD 0 0).toNat = m.odds.getD 0 0 := by
    unfold wtJ
    rw [rankL_head sl h, Int.sub_self, Int.zero_ediv, Int.min_eq_left (by have := hm.odds; omega)]
    rfl
  have hp := (getD_in hm.odds' (by omega) 0).1
  have hne := hm.odds0
  have hl := wtTo_len m sl (rankL sl) m.top.toNat
  have hmem : (wtTo m sl (rankL sl) m.top.toNat).getD ((rankL sl).getD 0 0).toNat 0 ∈ wtL m sl := getD_mem (by rw [wtL_len]; omega)
  have := sumL_mem (wtL m sl) (fun x hx => (wtL_in hm sl x hx).1) hmem
  rw [hf, hj] at this
  omega
/-- The token that is made of entries and a draw. -/
def tokI (m : MD) (W V : Nat) (E : List (List Int)) (draw : Int) : Nat := smpI (wtL m (scL m W E V)) draw
theorem tokI_lt {m : MD} (hm : m.Ok) (W V : Nat) (hV : 0 < V) (E : List (List Int)) (draw : Int) (hd : 0 ≤ draw ∧ draw ≤ 4294967295) : tokI m W V E draw < V := by
  have hsl : (scL m W E V).length = V := mkL_len _ _
  have hp := wtL_pos hm (scL m W E V) (by omega)
  have h0 := Int.mul_nonneg hd.1 (Int.le_of_lt hp)
  have h1 : draw * sumL (wtL m (scL m W E V)) ≤ 4294967295 * sumL (wtL m (scL m W E V)) := Int.mul_le_mul_of_nonneg_right hd.2 (by omega)
  have := smpL_lt (wtL m (scL m W E V)) (fun x hx => (wtL_in hm _ x hx).1) (draw * sumL (wtL m (scL m W E V)) / 4294967296) (by omega) (by omega)
  have hl := wtL_len m (scL m W E V)
  unfold tokI smpI
  omega
end Go.Proofs.YtdbhlkejfecffaaGreatDoor
