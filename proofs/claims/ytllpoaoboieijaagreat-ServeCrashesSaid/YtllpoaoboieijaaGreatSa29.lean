/-
  The stream of numbers: Below, Next, Range, Flip, Pick.
  The stream: Word, Int, Conf.
  The stream: Conf.
-/
import Derived.Test.YtllpoaoboieijaaGreatSa22
import Derived.Test.YtllpoaoboieijaaGreatSa28
/-
  The stream of numbers: Below, Next, Range, Flip, Pick.
-/
namespace Go.Proofs.YtllpoaoboieijaaGreat
open Go.RowKit

set_option maxRecDepth 100000 in
set_option maxHeartbeats 800000 in
theorem below_any (x n : Int) (hn : 1 ≤ n ∧ n ≤ 1099511627776) (w : World) : Calls Tryz.prog 47 #[.int .i64 x, .int .i64 n] w fun e w' => (∃ r : Int, e = .returned (.int .i64 r) ∧ 0 ≤ r ∧ r < n) ∧ w' = w := by
  have t1 : decide (n < 1) = false := decide_eq_false (by omega)
  have t2 : ¬ n = 0 := by omega
  have hb1 : x.tmod n < n := Int.tmod_lt_of_pos x (by omega)
  have hb2 : -n < x.tmod n := Int.lt_tmod_of_pos x (by omega)
  obtain ⟨m, hm⟩ : ∃ m, x.tmod n = m := ⟨_, rfl⟩
  rw [hm] at hb1 hb2
  by_cases hneg : m < 0
  · have e1 : IntKind.i64.wrap (m + n) = m + n := IntWalk.i64_in _ (by omega)
    have HR := Lib.hid (show 0 ≤ m + n ∧ m + n < n by omega)
    have hb : decide (m < 0) = true := decide_eq_true hneg
    go_enter Tryz.func47, Tryz.ntmps47
    go_wp2
    go_ret
    exact ⟨⟨_, rfl, HR.out.1, HR.out.2⟩, rfl⟩
  · have HR := Lib.hid (show 0 ≤ m ∧ m < n by omega)
    have hb : decide (m < 0) = false := decide_eq_false hneg
    go_enter Tryz.func47, Tryz.ntmps47
    go_wp2
    go_ret
    exact ⟨⟨_, rfl, HR.out.1, HR.out.2⟩, rfl⟩

/-- A stream over L, that was asked at most K times. -/
def St (w : World) (xb : Nat) (V : Value) (L : List Int) (K : Nat) : Prop := ∃ at' : Nat, at' ≤ K ∧ Blk w xb [V, .int .i64 at'] 25 ∧ Rd w V L ∧ (0 < L.length → V.ownBlock ≠ some xb)
theorem St.mono {w : World} {xb : Nat} {V : Value} {L : List Int} {K K' : Nat} (h : St w xb V L K) (hk : K ≤ K') : St w xb V L K' := by
  obtain ⟨a, h1, h2⟩ := h
  exact ⟨a, by omega, h2⟩
theorem Rd.block {w w' : World} {v : Value} {xs : List Int} (h : Rd w v xs) (hb : ∀ b, b < w.heap.size → v.ownBlock = some b → 0 < xs.length → w'.heap[b]? = w.heap[b]?) : Rd w' v xs := by
  by_cases h0 : 0 < xs.length
  · exact h.of_cells fun b hv => hb b (h.lt h0 b hv) hv h0
  · obtain ⟨A, c, rfl, h1, h2, h3⟩ := h
    exact ⟨A, c, rfl, h1, h2, fun h => absurd h h0⟩
theorem St.below {w w' : World} {xb : Nat} {V : Value} {L : List Int} {K : Nat} (h : St w xb V L K) (hb : Below w.heap.size w w') : St w' xb V L K := by
  obtain ⟨a, h1, h2, h3, h4⟩ := h
  exact ⟨a, h1, h2.below hb, h3.below hb, h4⟩
theorem St.lt {w : World} {xb : Nat} {V : Value} {L : List Int} {K : Nat} (h : St w xb V L K) : xb < w.heap.size := by
  obtain ⟨a, h1, h2, h3, h4⟩ := h
  exact h2.lt
/-- What a question of the stream leaves. -/
def Asks (xb : Nat) (V : Value) (L : List Int) (K : Nat) (w w' : World) : Prop := Keep xb w w' ∧ St w' xb V L K
theorem Asks.trans {xb : Nat} {V : Value} {L : List Int} {K K' : Nat} {a b c : World} (h : Asks xb V L K a b) (k : Asks xb V L K' b c) : Asks xb V L K' a c := ⟨h.1.trans k.1, k.2⟩

set_option maxRecDepth 100000 in
set_option maxHeartbeats 1600000 in
theorem Next_st (xb : Nat) (V : Value) (L : List Int) (K : Nat) (hK : K ≤ 1000000) (n : Int) (hn : 1 ≤ n ∧ n ≤ 1099511627776) (w : World) (h : St w xb V L K) :
    Calls Tryz.prog 20 #[.pointer (some ⟨xb, 0, none⟩), .int .i64 n] w fun e w' => ∃ r : Int, e = .returned (.int .i64 r) ∧ Hid (0 ≤ r ∧ r < n) ∧ Hid (Asks xb V L (K + 1) w w') := by
  obtain ⟨a, ha, hb, hr, hv⟩ := h
  have c1 := hb.cell
  have f1 := hb.frozen
  have ew : IntKind.i64.wrap ((a : Int) + 1) = (a : Int) + 1 := IntWalk.i64_in _ (by omega)
  obtain ⟨w1, hw1, hk1, hb1⟩ : ∃ w1, w.setCell ⟨xb, 1, none⟩ (.int .i64 ((a : Int) + 1)) = w1 ∧ Keep xb w w1 ∧ Blk w1 xb [V, .int .i64 ((a + 1 : Nat) : Int)] 25 := ⟨_, rfl, (Keep.of_below (Below.refl _ _)).setD _ _, hb.set 1 _⟩
  have hr1 : Rd w1 V L := hr.block fun b hlt hvb h0 => hk1.block b hlt (fun e => hv h0 (by rw [hvb, e]))
  have HST := Lib.hid (show St w1 xb V L (K + 1) from ⟨a + 1, by omega, hb1, hr1, hv⟩)
  have HK1 := Lib.hid hk1
  have HB1 := Lib.hid hb1
  have d1 := hb1.cell
  rw [show ((a + 1 : Nat) : Int) = (a : Int) + 1 by omega] at d1
  obtain ⟨A, c, hV, hc1, hc2, hcell⟩ := hr1
  subst hV
  have HBL := Lib.hid fun (x : Int) (wx : World) => below_any x n hn wx
  have HCELL := Lib.hid hcell
  have hlm : L.length ≤ maxLen := by omega
  have HC1 := Lib.hid hc1
  unfold maxLen at hlm
  have HLM := Lib.hid hlm
  clear hb hr hv hk1 hb1 hcell hc1 hc2 hlm
  by_cases hl : L.length = 0
  · have hl0 : ((L.length : Nat) : Int) = 0 := by omega
    have b0 : (((L.length : Nat) : Int) == 0) = true := by simp [hl0]
    go_enter Tryz.func20, Tryz.ntmps20
    go_wp2_with (go_at_call 47; refine (HBL.out _ _).mono ?_; rintro e wz ⟨⟨r, rfl, h0, h1⟩, hz⟩; subst wz; have HR := Lib.hid (And.intro h0 h1); clear h0 h1)
    go_ret
    exact ⟨_, rfl, HR, Lib.hid ⟨HK1.out, HST.out⟩⟩
  · have b0 : (((L.length : Nat) : Int) == 0) = false := by
      have : ¬ ((L.length : Nat) : Int) = 0 := by omega
      simpa using this
    have b1 : ¬ ((L.length : Nat) : Int) = 0 := by omega
    obtain ⟨b, o, hA, hcell⟩ := HCELL.out (Nat.pos_of_ne_zero hl)
    subst hA
    obtain ⟨i, hi, hil⟩ : ∃ i : Nat, (a : Int).tmod (L.length : Int) = (i : Int) ∧ i < L.length := ⟨a % L.length, by rw [Int.tmod_eq_emod_of_nonneg (Int.natCast_nonneg a)]; rfl, Nat.mod_lt a (Nat.pos_of_ne_zero hl)⟩
    have hi2 : (a : Int) % (L.length : Int) = (i : Int) := by rw [← hi, Int.tmod_eq_emod_of_nonneg (Int.natCast_nonneg a)]
    obtain ⟨q, hq⟩ : ∃ q : Int, (a : Int).tdiv (L.length : Int) = q := ⟨_, rfl⟩
    have c5 := hcell i hil
    have ti : (i : Int) < (L.length : Int) := by omega
    have ew2 : IntKind.i64.wrap ((a : Int)) = (a : Int) := IntWalk.i64_in _ (by omega)
    generalize L[i] = xv at c5
    have HBL2 := Lib.hid fun (x : Int) (wx : World) => below_any x 1073741824 (by omega) wx
    clear hcell
    go_enter Tryz.func20, Tryz.ntmps20
    go_wp2
    go_quiet (fail)
    go_wp2
    go_quiet (fail)
    go_wp2_with (first | (go_at_call 47; have _g := HR1; clear _g; refine (HBL.out _ _).mono ?_; rintro e wz ⟨⟨r, rfl, h0, h1⟩, hz⟩; subst wz; have HR := Lib.hid (And.intro h0 h1); clear h0 h1) | (go_at_call 47; refine (HBL2.out _ _).mono ?_; rintro e wz ⟨⟨r1, rfl, h0, h1⟩, hz⟩; subst wz; have HR1 := Lib.hid (And.intro h0 h1); clear h0 h1))
    go_ret
    obtain ⟨a2, s1, s2, s3, s4⟩ := HST.out
    exact ⟨_, rfl, HR, Lib.hid ⟨⟨HK1.out.os, HK1.out.tape, HK1.out.output, HK1.out.size, HK1.out.block⟩, a2, s1, s2, s3, s4⟩⟩

/-- .. as a fact for later walks: the stream is asked once. -/
def Asked1 (xb : Nat) (V : Value) (L : List Int) (lo hi : Int) (K : Nat) (w : World) (e : Ending) (w' : World) : Prop := ∃ r : Int, e = .returned (.int .i64 r) ∧ Hid (lo ≤ r ∧ r ≤ hi) ∧ Hid (Asks xb V L K w w')
set_option maxRecDepth 100000 in
set_option maxHeartbeats 800000 in
theorem Range_st (xb : Nat) (V : Value) (L : List Int) (K : Nat) (hK : K ≤ 1000000) (lo hi : Int) (hlo : -1000 ≤ lo ∧ lo ≤ hi ∧ hi ≤ 1000) (w : World) (h : St w xb V L K) :
    Calls Tryz.prog 9 #[.pointer (some ⟨xb, 0, none⟩), .int .i64 lo, .int .i64 hi] w fun e w' => ∃ r : Int, e = .returned (.int .i64 r) ∧ Hid (lo ≤ r ∧ r ≤ hi) ∧ Hid (Asks xb V L (K + 1) w w') := by
  have HN := Lib.hid (Next_st xb V L K hK (hi - lo + 1) (by omega) w h)
  have t1 : decide (hi < lo) = false := decide_eq_false (by omega)
  have e1 : IntKind.i64.wrap (hi - lo) = hi - lo := IntWalk.i64_in _ (by omega)
  have e2 : IntKind.i64.wrap (hi - lo + 1) = hi - lo + 1 := IntWalk.i64_in _ (by omega)
  have HB := Lib.hid hlo
  clear h hlo
  go_enter Tryz.func9, Tryz.ntmps9
  go_wp2_with (go_at_call 20; refine HN.out.mono ?_; rintro e w1 ⟨r, rfl, HR, HA⟩; have e3 : IntKind.i64.wrap (lo + r) = lo + r := IntWalk.i64_in _ (by have := HR.out; have := HB.out; omega))
  go_ret
  exact ⟨_, rfl, Lib.hid (by have := HR.out; omega), HA⟩
set_option maxRecDepth 100000 in
set_option maxHeartbeats 800000 in
theorem Flip_st (xb : Nat) (V : Value) (L : List Int) (K : Nat) (hK : K ≤ 1000000) (n : Int) (hn : 1 ≤ n ∧ n ≤ 1000) (w : World) (h : St w xb V L K) :
    Calls Tryz.prog 10 #[.pointer (some ⟨xb, 0, none⟩), .int .i64 n] w fun e w' => ∃ r : Bool, e = .returned (.bool r) ∧ Hid (Asks xb V L (K + 1) w w') := by
  have HN := Lib.hid (Next_st xb V L K hK n (by omega) w h)
  clear h
  go_enter Tryz.func10, Tryz.ntmps10
  go_wp2_with (go_at_call 20; refine HN.out.mono ?_; rintro e w1 ⟨r, rfl, HR, HA⟩)
  go_ret
  exact ⟨_, rfl, HA⟩
theorem pick_cell {xb : Nat} {V : Value} {L : List Int} {K g c : Nat} {l : List Int} {w w1 : World} {r : Int} (hr : RdAt w g 0 c l) (ha : Asks xb V L K w w1) (hg : g ≠ xb) (h0 : 0 < l.length) (hlt : 0 ≤ r ∧ r < (l.length : Int)) : w1.cell? ⟨g, r.toNat, none⟩ = some (.int .i64 (l.getD r.toNat 0)) := by
  have := (ha.1.rd hr h0 hg).2.2 r.toNat (by omega)
  rw [Nat.zero_add] at this
  exact this
theorem pick_mem {l : List Int} {r : Int} (hlt : 0 ≤ r ∧ r < (l.length : Int)) : l.getD r.toNat 0 ∈ l := by
  have h : r.toNat < l.length := by omega
  rw [show l.getD r.toNat 0 = l[r.toNat] by simp [List.getD, h]]
  exact List.getElem_mem h
set_option maxRecDepth 100000 in
set_option maxHeartbeats 800000 in
theorem Pick_st (xb : Nat) (V : Value) (L : List Int) (K : Nat) (hK : K ≤ 1000000) (g n c : Nat) (l : List Int) (hn : n = l.length) (h0 : 0 < n) (hl : n ≤ 100) (w : World) (h : St w xb V L K) (hr : RdAt w g 0 c l) (hg : g ≠ xb) :
    Calls Tryz.prog 26 #[.pointer (some ⟨xb, 0, none⟩), .slice (some ⟨g, 0, none⟩) n c] w fun e w' => ∃ r : Int, e = .returned (.int .i64 r) ∧ Hid (r ∈ l) ∧ Hid (Asks xb V L (K + 1) w w') := by
  subst hn
  have HN := Lib.hid (Next_st xb V L K hK l.length (by omega) w h)
  have HR := Lib.hid hr
  have HG := Lib.hid hg
  have H0 := Lib.hid h0
  clear h hr hg
  go_enter Tryz.func26, Tryz.ntmps26
  go_wp2_with (go_at_call 20; refine HN.out.mono ?_; rintro e w1 ⟨r, rfl, HRR, HA⟩; have hlt : 0 ≤ r ∧ r < (l.length : Int) := HRR.out; have hlt1 := hlt.1; have hlt2 := hlt.2; have hc : w1.cell? ⟨g, r.toNat, none⟩ = some (.int .i64 (l.getD r.toNat 0)) := pick_cell HR.out HA.out HG.out H0.out hlt)
  go_ret
  exact ⟨_, rfl, Lib.hid (List.getElem_mem _), HA⟩
end Go.Proofs.YtllpoaoboieijaaGreat
/-
  The stream: Word, Int, Conf.
-/
namespace Go.Proofs.YtllpoaoboieijaaGreat
open Go.RowKit

/-- A choice among numbers that were just laid down. -/
theorem Pick_lit (xb : Nat) (V : Value) (L : List Int) (K : Nat) (hK : K ≤ 1000000) (l : List Int) (cs : Array Value) (hcs : cs = (ints l).toArray) (n : Nat) (hn : n = l.length) (h0 : 0 < l.length) (hl : l.length ≤ 100) (w : World) (h : St w xb V L K) :
    Calls Tryz.prog 26 #[.pointer (some ⟨xb, 0, none⟩), .slice (some ⟨w.heap.size, 0, none⟩) n n] (w.alloc (.cells cs 3)) fun e w' => ∃ r : Int, e = .returned (.int .i64 r) ∧ Hid (r ∈ l) ∧ Hid (Asks xb V L (K + 1) w w') := by
  subst hcs hn
  have hb : Below w.heap.size w (w.alloc (.cells (ints l).toArray 3)) := (Below.refl _ _).alloc (Nat.le_refl _) _
  have hk : Blk (w.alloc (.cells (ints l).toArray 3)) w.heap.size (ints l ++ []) 3 := by rw [List.append_nil]; exact heap_alloc_new w _
  refine (Pick_st xb V L K hK w.heap.size l.length l.length l rfl h0 hl _ (h.below hb) (hk.rdat (Nat.le_refl _) (by unfold maxLen; omega)) (by have := h.lt; omega)).mono ?_
  rintro e w1 ⟨r, rfl, hr, ha⟩
  exact ⟨r, rfl, hr, Lib.hid ⟨(Keep.of_below hb).trans ha.out.1, ha.out.2⟩⟩

set_option maxRecDepth 100000 in
set_option maxHeartbeats 800000 in
theorem Word_st (xb : Nat) (V : Value) (L : List Int) (K : Nat) (hK : K ≤ 900000) (w : World) (h : St w xb V L K) :
    Calls Tryz.prog 59 #[.pointer (some ⟨xb, 0, none⟩)] w fun e w' => ∃ r : Int, e = .returned (.int .i64 r) ∧ Hid (Asks xb V L (K + 3) w w') := by
  have HN := Lib.hid (Next_st xb V L K (by omega) 6 (by omega) w h)
  clear h
  go_enter Tryz.func59, Tryz.ntmps59
  go_upto_region 2 with (go_at_call 20; refine HN.out.mono ?_; rintro e w1 ⟨r, rfl, HR, HA⟩)
  have HB := Lib.hid (Next_st xb V L (K + 1) (by omega) 3 (by omega) w1 HA.out.2)
  have HC := Lib.hid (Next_st xb V L (K + 1) (by omega) 1073741824 (by omega) w1 HA.out.2)
  have HE := Lib.hid (Range_st xb V L (K + 1) (by omega) (-9) 9 (by omega) w1 HA.out.2)
  have HD := Lib.hid (fun (w2 : World) (h2 : St w2 xb V L (K + 2)) => Next_st xb V L (K + 2) (by omega) 4 (by omega) w2 h2)
  by_cases r0 : r = 0
  · have b0 : (r == 0) = true := by simp [r0]
    go_wp2_with (go_at_call 20; refine HB.out.mono ?_; rintro e w2 ⟨r2, rfl, HR2, HA2⟩)
    go_ret
    exact ⟨_, rfl, Lib.hid ⟨(HA.out.trans HA2.out).1, (HA2.out.2).mono (by omega)⟩⟩
  · have b0 : (r == 0) = false := by simp [r0]
    by_cases r1 : r = 1
    · have b1 : (r == 1) = true := by simp [r1]
      go_wp2_with (go_at_call 20; refine HB.out.mono ?_; rintro e w2 ⟨r2, rfl, HR2, HA2⟩)
      go_ret
      exact ⟨_, rfl, Lib.hid ⟨(HA.out.trans HA2.out).1, (HA2.out.2).mono (by omega)⟩⟩
    · have b1 : (r == 1) = false := by simp [r1]
      by_cases r2 : r = 2
      · have b2 : (r == 2) = true := by simp [r2]
        go_wp2_with (first | (go_at_call 20; have _g := HA2; clear _g; refine (HD.out w2 HA2.out.2).mono ?_; rintro e w3 ⟨r3, rfl, HR3, HA3⟩) | (go_at_call 20; refine HC.out.mono ?_; rintro e w2 ⟨r2, rfl, HR2, HA2⟩))
        go_ret
        exact ⟨_, rfl, Lib.hid ((HA.out.trans HA2.out).trans HA3.out)⟩
      · have b2 : (r == 2) = false := by simp [r2]
        go_wp2_with (go_at_call 9; refine HE.out.mono ?_; rintro e w2 ⟨r2, rfl, HR2, HA2⟩)
        go_ret
        exact ⟨_, rfl, Lib.hid ⟨(HA.out.trans HA2.out).1, (HA2.out.2).mono (by omega)⟩⟩

set_option maxRecDepth 100000 in
set_option maxHeartbeats 800000 in
theorem Int_st (xb : Nat) (V : Value) (L : List Int) (K : Nat) (hK : K ≤ 800000) (w : World) (h : St w xb V L K) :
    Calls Tryz.prog 60 #[.pointer (some ⟨xb, 0, none⟩)] w fun e w' => ∃ r : Int, e = .returned (.int .i64 r) ∧ Hid (Asks xb V L (K + 4) w w') := by
  have HN := Lib.hid (Flip_st xb V L K (by omega) 8 (by omega) w h)
  clear h
  go_enter Tryz.func60, Tryz.ntmps60
  have HW := Lib.hid (fun (w1 : World) (h1 : St w1 xb V L (K + 1)) => Word_st xb V L (K + 1) (by omega) w1 h1)
  have HP := Lib.hid (fun (w1 : World) (h1 : St w1 xb V L (K + 1)) => Pick_lit xb V L (K + 1) (by omega) [2147483648, -2147483649, 4294967296, 1099511627777, -1099511627776] _ rfl 5 rfl (by decide) (by decide) w1 h1)
  simp only [ints, List.map_cons, List.map_nil] at HP
  go_wp2_with (first | (go_at_call 10; refine HN.out.mono ?_; rintro e w1 ⟨r, rfl, HA⟩; cases r) | (go_at_call 59; refine (HW.out w1 HA.out.2).mono ?_; rintro e w2 ⟨r2, rfl, HA2⟩; have HF := Lib.hid (show Asks xb V L (K + 4) w w2 from HA.out.trans HA2.out)) | (go_at_call 26; refine (HP.out w1 HA.out.2).mono ?_; rintro e w2 ⟨r2, rfl, HR2, HA2⟩; have HF := Lib.hid (show Asks xb V L (K + 4) w w2 from ⟨(HA.out.trans HA2.out).1, (HA2.out.2).mono (by omega)⟩)))
  all_goals
    go_ret
    exact ⟨_, rfl, HF⟩
end Go.Proofs.YtllpoaoboieijaaGreat
/-
  The stream: Conf.
-/
namespace Go.Proofs.YtllpoaoboieijaaGreat
open Go.RowKit

theorem Asks.refl {w : World} {xb : Nat} {V : Value} {L : List Int} {K : Nat} (h : St w xb V L K) : Asks xb V L K w w := ⟨Keep.of_below (Below.refl _ _), h⟩
theorem Asks.put {w X : World} {xb : Nat} {V : Value} {L : List Int} {K K0 : Nat} (h : Asks xb V L K w X) (h0 : St w xb V L K0) {b : Nat} (hb : w.heap.size ≤ b) (o : Nat) (v : Value) : Asks xb V L K w (X.setCell ⟨b, o, none⟩ v) := by
  have hk := h.1.setNew hb o v
  have hx := h0.lt
  obtain ⟨a, h1, h2, h3, h4⟩ := h.2
  obtain ⟨a0, _, _, r0, _⟩ := h0
  exact ⟨hk, a, h1, h2.far (by show xb ≠ b; omega) _, r0.block fun q hq hv h0 => hk.block q hq (fun e => h4 h0 (by rw [hv, e])), h4⟩
theorem Asks.alloc {w X : World} {xb : Nat} {V : Value} {L : List Int} {K : Nat} (h : Asks xb V L K w X) (o : Obj) : Asks xb V L K w (X.alloc o) :=
  ⟨h.1.trans (Keep.of_below ((Below.refl _ _).alloc (Nat.le_refl _) o)), h.2.below ((Below.refl _ _).alloc (Nat.le_refl _) o)⟩
theorem Asks.mono {w X : World} {xb : Nat} {V : Value} {L : List Int} {K K' : Nat} (h : Asks xb V L K w X) (hk : K ≤ K') : Asks xb V L K' w X := ⟨h.1, h.2.mono hk⟩
theorem Asks.below {w X Y : World} {xb : Nat} {V : Value} {L : List Int} {K : Nat} (h : Asks xb V L K w X) (hb : Below X.heap.size X Y) : Asks xb V L K w Y := ⟨h.1.trans (Keep.of_below hb), h.2.below hb⟩
theorem four_cases {s : Int} (h : 0 ≤ s ∧ s < 4) : s = 0 ∨ s = 1 ∨ s = 2 ∨ s = 3 := by omega
theorem info30 : (Tryz.prog.info? 30).map (·.size) = some 4 := by kernel_rfl

theorem conf_blk {X : World} {b : Nat} {z0 z1 z2 z3 : Value} {t : TypeId} (h : Blk X b [z0, z1, z2, z3] t) (a0 a1 a2 a3 : Value) : ((((X.setCell ⟨b, 0, none⟩ a0).setCell ⟨b, 1, none⟩ a1).setCell ⟨b, 2, none⟩ a2).setCell ⟨b, 3, none⟩ a3).heap[b]? = some (.cells #[a0, a1, a2, a3] t (0, 0)) :=
  (((h.set 0 a0).set 1 a1).set 2 a2).set 3 a3
set_option maxRecDepth 100000 in
set_option maxHeartbeats 3200000 in
theorem Conf_st (xb : Nat) (V : Value) (L : List Int) (K : Nat) (hK : K ≤ 700000) (w : World) (h : St w xb V L K) :
    Calls Tryz.prog 6 #[.pointer (some ⟨xb, 0, none⟩)] w fun e w' => ∃ cf : Cnf, e = .returned cf.val ∧ Hid (Asks xb V L (K + 7) w w') := by
  obtain ⟨w1, hw1, hb1, hk1⟩ : ∃ w1, w.alloc (.cells #[.int .i64 0, .int .i64 0, .int .i64 0, .int .i64 0] 30) = w1 ∧ Below w.heap.size w w1 ∧ Blk w1 w.heap.size [.int .i64 0, .int .i64 0, .int .i64 0, .int .i64 0] 30 := ⟨_, rfl, (Below.refl _ _).alloc (Nat.le_refl _) _, heap_alloc_new w _⟩
  have H := Lib.hid h
  have HA1 := Lib.hid ((Asks.refl h).below hb1)
  have HK1 := Lib.hid hk1
  have HXB := Lib.hid (show w.heap.size ≠ xb by have := h.lt; omega)
  have HP1 := Lib.hid (Pick_lit xb V L K (by omega) [2, 3, 4, 6, 8] _ rfl 5 rfl (by decide) (by decide) w1 HA1.out.2)
  have HP2 := Lib.hid (fun (wx : World) (hx : St wx xb V L (K + 1)) => Pick_lit xb V L (K + 1) (by omega) [1, 2, 2, 3, 4] _ rfl 5 rfl (by decide) (by decide) wx hx)
  have HP3 := Lib.hid (fun (wx : World) (hx : St wx xb V L (K + 2)) => Pick_lit xb V L (K + 2) (by omega) [1, 1, 2, 3] _ rfl 4 rfl (by decide) (by decide) wx hx)
  have HP4 := Lib.hid (fun (wx : World) (hx : St wx xb V L (K + 3)) => Pick_lit xb V L (K + 3) (by omega) [2, 4, 6] _ rfl 3 rfl (by decide) (by decide) wx hx)
  simp only [ints, List.map_cons, List.map_nil] at HP1 HP2 HP3 HP4
  clear hb1 hk1 h
  go_enter Tryz.func6, Tryz.ntmps6
  go_upto_region 2 with (first | (go_at_call 26; have _g := HA4; clear _g; refine (HP4.out w4 HA4.out.2).mono ?_; rintro e w5 ⟨r4, rfl, -, HA5⟩) | (go_at_call 26; have _g := HA3; clear _g; refine (HP3.out w3 HA3.out.2).mono ?_; rintro e w4 ⟨r3, rfl, -, HA4⟩) | (go_at_call 26; have _g := HA2; clear _g; refine (HP2.out w2 HA2.out.2).mono ?_; rintro e w3 ⟨r2, rfl, -, HA3⟩) | (go_at_call 26; refine HP1.out.mono ?_; rintro e w2 ⟨r1, rfl, -, HA2⟩))
  have HB5 := Lib.hid (show Asks xb V L (K + 4) w w5 from (((HA1.out.trans HA2.out).trans HA3.out).trans HA4.out).trans HA5.out)
  have HK5 := Lib.hid (show Blk w5 w.heap.size [.int .i64 0, .int .i64 0, .int .i64 0, .int .i64 0] 30 from (((HA2.out.trans HA3.out).trans HA4.out).trans HA5.out).1.blk HK1.out HXB.out)
  obtain ⟨w6, hw6, hb6, hk6⟩ : ∃ w6, w5.alloc (.cells #[.int .i64 r1, .int .i64 r2, .int .i64 r3, .int .i64 r4] 30) = w6 ∧ Below w5.heap.size w5 w6 ∧ Blk w6 w5.heap.size [.int .i64 r1, .int .i64 r2, .int .i64 r3, .int .i64 r4] 30 := ⟨_, rfl, (Below.refl _ _).alloc (Nat.le_refl _) _, heap_alloc_new w5 _⟩
  rw [hw6]
  have HB6 := Lib.hid (HB5.out.below hb6)
  have HK6 := Lib.hid (HK5.out.below hb6)
  have HN6 := Lib.hid hk6
  have HX6 := Lib.hid (show w5.heap.size ≠ xb ∧ w.heap.size ≤ w5.heap.size ∧ w.heap.size < w5.heap.size from by have := HB5.out.2.lt; have := HB5.out.1.size; have := HK5.out.lt; omega)
  have c6 := hk6.cell
  have HFL := Lib.hid (Flip_st xb V L (K + 4) (by omega) 25 (by omega) w6 HB6.out.2)
  have HNX := Lib.hid (fun (wx : World) (hx : St wx xb V L (K + 5)) => Next_st xb V L (K + 5) (by omega) 4 (by omega) wx hx)
  generalize hn5 : w5.heap.size = b5 at c6 HN6 HX6
  clear hb6 hk6 hw6 hw1
  have HPA := Lib.hid (fun (wx : World) (hx : St wx xb V L (K + 6)) => Pick_lit xb V L (K + 6) (by omega) [0, 65, 64] _ rfl 3 rfl (by decide) (by decide) wx hx)
  have HPB := Lib.hid (fun (wx : World) (hx : St wx xb V L (K + 6)) => Pick_lit xb V L (K + 6) (by omega) [0, 9, 8] _ rfl 3 rfl (by decide) (by decide) wx hx)
  have HPC := Lib.hid (fun (wx : World) (hx : St wx xb V L (K + 6)) => Pick_lit xb V L (K + 6) (by omega) [0, 17, 16] _ rfl 3 rfl (by decide) (by decide) wx hx)
  have HPD := Lib.hid (fun (wx : World) (hx : St wx xb V L (K + 6)) => Pick_lit xb V L (K + 6) (by omega) [0, 33, 32] _ rfl 3 rfl (by decide) (by decide) wx hx)
  simp only [ints, List.map_cons, List.map_nil] at HPA HPB HPC HPD
  have hne : w.heap.size ≠ b5 := by have := HX6.out; omega
  have hne2 : b5 ≠ w.heap.size := Ne.symm hne
  go_wp2_with (first
    | (go_at_call 26; refine (HPA.out w8 HA8.out.2).mono ?_; rintro e w9 ⟨r9, rfl, -, HA9⟩; have hn9 := ((HA7.out.trans HA8.out).trans HA9.out).1.blk HN6.out HX6.out.1; have hk9 := ((HA7.out.trans HA8.out).trans HA9.out).1.blk HK6.out HXB.out; have n9 := hn9.cell; have m9 := hn9.frozen; have k9 := hk9.cell; have j9 := hk9.frozen; have HKX := Lib.hid (hk9.far (p := ⟨b5, 0, none⟩) hne (.int .i64 r9)); have HAX := Lib.hid ((show Asks xb V L (K + 7) w w9 from ((HB6.out.trans HA7.out).trans HA8.out).trans HA9.out).put H.out HX6.out.2.1 0 (.int .i64 r9)); clear hn9 hk9)
    | (go_at_call 26; refine (HPB.out w8 HA8.out.2).mono ?_; rintro e w9 ⟨r9, rfl, -, HA9⟩; have hn9 := ((HA7.out.trans HA8.out).trans HA9.out).1.blk HN6.out HX6.out.1; have hk9 := ((HA7.out.trans HA8.out).trans HA9.out).1.blk HK6.out HXB.out; have n9 := hn9.cell; have m9 := hn9.frozen; have k9 := hk9.cell; have j9 := hk9.frozen; have HKX := Lib.hid (hk9.far (p := ⟨b5, 1, none⟩) hne (.int .i64 r9)); have HAX := Lib.hid ((show Asks xb V L (K + 7) w w9 from ((HB6.out.trans HA7.out).trans HA8.out).trans HA9.out).put H.out HX6.out.2.1 1 (.int .i64 r9)); clear hn9 hk9)
    | (go_at_call 26; refine (HPC.out w8 HA8.out.2).mono ?_; rintro e w9 ⟨r9, rfl, -, HA9⟩; have hn9 := ((HA7.out.trans HA8.out).trans HA9.out).1.blk HN6.out HX6.out.1; have hk9 := ((HA7.out.trans HA8.out).trans HA9.out).1.blk HK6.out HXB.out; have n9 := hn9.cell; have m9 := hn9.frozen; have k9 := hk9.cell; have j9 := hk9.frozen; have HKX := Lib.hid (hk9.far (p := ⟨b5, 2, none⟩) hne (.int .i64 r9)); have HAX := Lib.hid ((show Asks xb V L (K + 7) w w9 from ((HB6.out.trans HA7.out).trans HA8.out).trans HA9.out).put H.out HX6.out.2.1 2 (.int .i64 r9)); clear hn9 hk9)
    | (go_at_call 26; refine (HPD.out w8 HA8.out.2).mono ?_; rintro e w9 ⟨r9, rfl, -, HA9⟩; have hn9 := ((HA7.out.trans HA8.out).trans HA9.out).1.blk HN6.out HX6.out.1; have hk9 := ((HA7.out.trans HA8.out).trans HA9.out).1.blk HK6.out HXB.out; have n9 := hn9.cell; have m9 := hn9.frozen; have k9 := hk9.cell; have j9 := hk9.frozen; have HKX := Lib.hid (hk9.far (p := ⟨b5, 3, none⟩) hne (.int .i64 r9)); have HAX := Lib.hid ((show Asks xb V L (K + 7) w w9 from ((HB6.out.trans HA7.out).trans HA8.out).trans HA9.out).put H.out HX6.out.2.1 3 (.int .i64 r9)); clear hn9 hk9)
    | (go_at_call 20; refine (HNX.out w7 HA7.out.2).mono ?_; rintro e w8 ⟨s8, rfl, HR8, HA8⟩; obtain rfl | rfl | rfl | rfl := four_cases HR8.out)
    | (go_at_call 10; refine HFL.out.mono ?_; rintro e w7 ⟨r, rfl, HA7⟩; have hn7 := HA7.out.1.blk HN6.out HX6.out.1; have hk7 := HA7.out.1.blk HK6.out HXB.out; have n7 := hn7.cell; have k7 := hk7.cell; have j7 := hk7.frozen; have HKX := Lib.hid hk7; have HAX := Lib.hid (show Asks xb V L (K + 7) w w7 from (HB6.out.trans HA7.out).mono (by omega)); clear hn7 hk7; cases r))
  all_goals
    refine bodyPost_ret (results_cell_row rfl _ _ w.heap.size 30 _ (0, 0) _ rfl (conf_blk HKX.out _ _ _ _) Tryz.underlying30 rfl info30) rfl ?_
    exact ⟨⟨_, _, _, _⟩, rfl, Lib.hid ((((HAX.out.put H.out (Nat.le_refl _) _ _).put H.out (Nat.le_refl _) _ _).put H.out (Nat.le_refl _) _ _).put H.out (Nat.le_refl _) _ _)⟩
end Go.Proofs.YtllpoaoboieijaaGreat
