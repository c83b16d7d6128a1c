/-
  models: ranges, and whether numbers of a list are in one.
  slices: Grow and Concat of lists of numbers.
  models: rows, sized, formed.
-/
import Derived.Lib.AppendZeros
import Derived.Test.YtdbhlkejfecffaaGreatDoorSa7
/-
  models: ranges, and whether numbers of a list are in one.
-/
namespace Go.Proofs.YtdbhlkejfecffaaGreatDoor
open Go.RowKit

theorem ret_intA {a b : Int} (h : a = b) : (Ending.returned (.int .i64 a) : Ending) = .returned (.int .i64 b) := by rw [h]
theorem ret_boolA {a b : Bool} (h : a = b) : (Ending.returned (.bool a) : Ending) = .returned (.bool b) := by rw [h]
def withinB (x lo hi : Int) : Bool := decide (lo ≤ x) && decide (x ≤ hi)
theorem withinB_true {x lo hi : Int} (h : withinB x lo hi = true) : lo ≤ x ∧ x ≤ hi := by
  unfold withinB at h; simpa using h
theorem withinB_yes {x lo hi : Int} (h : lo ≤ x ∧ x ≤ hi) : withinB x lo hi = true := by
  unfold withinB; simp [h.1, h.2]
set_option maxRecDepth 100000 in
set_option maxHeartbeats 400000 in
theorem within_any (x lo hi : Int) (w : World) : Calls Tryz.prog 17 #[.int .i64 x, .int .i64 lo, .int .i64 hi] w fun e w' => e = .returned (.bool (withinB x lo hi)) ∧ w' = w := by
  by_cases h : lo ≤ x
  · have HE := Lib.hid (show withinB x lo hi = decide (x ≤ hi) by unfold withinB; simp [h])
    go_enter Tryz.func17, Tryz.ntmps17
    go_wp2
    go_ret
    exact ⟨ret_boolA (by rw [HE.out]), rfl⟩
  · have HE := Lib.hid (show withinB x lo hi = false by unfold withinB; simp; omega)
    have t : decide (lo ≤ x) = false := decide_eq_false h
    go_enter Tryz.func17, Tryz.ntmps17
    go_wp2
    go_ret
    exact ⟨ret_boolA (by rw [HE.out]), rfl⟩
set_option maxRecDepth 100000 in
set_option maxHeartbeats 400000 in
theorem notAll_any (x lo hi : Int) (a b : Nat) (w : World) (ha : w.cell? ⟨a, 0, none⟩ = some (.int .i64 lo)) (hb : w.cell? ⟨b, 0, none⟩ = some (.int .i64 hi)) :
    Calls Tryz.prog 30 #[.int .i64 x, .pointer (some ⟨a, 0, none⟩), .pointer (some ⟨b, 0, none⟩)] w fun e w' => e = .returned (.bool (!withinB x lo hi)) ∧ w' = w := by
  go_enter Tryz.func30, Tryz.ntmps30
  go_wp2_with (go_at_call 17; refine (within_any x lo hi _).mono ?_; rintro e w1 ⟨rfl, rfl⟩)
  go_ret
  exact ⟨rfl, rfl⟩
/-- Where the first number stands that is not in a range. -/
def badAt (lo hi : Int) : List Int → Int → Int
  | [], _ => -1
  | t :: l, i => if withinB t lo hi = true then badAt lo hi l (i + 1) else i
theorem badAt_all (lo hi : Int) : ∀ (l : List Int) (i : Int), 0 ≤ i → decide (0 ≤ badAt lo hi l i) = !(l.all fun x => withinB x lo hi)
  | [], i, h => by simp [badAt]
  | t :: l, i, h => by
    by_cases c : withinB t lo hi = true
    · rw [badAt, if_pos c, badAt_all lo hi l (i + 1) (by omega)]; simp [c]
    · rw [badAt, if_neg c]; have c' : withinB t lo hi = false := by simpa using c
      simp [c', h]
set_option maxRecDepth 100000 in
set_option maxHeartbeats 400000 in
theorem idxAll_any (lo hi : Int) (l : List Int) (A : Option Addr) (n c a b : Nat) (w : World) (hr : Rd w (.slice A n c) l) (hn : n = l.length) (ha : w.cell? ⟨a, 0, none⟩ = some (.int .i64 lo)) (hb : w.cell? ⟨b, 0, none⟩ = some (.int .i64 hi)) (hl : l.length ≤ 1000) :
    Calls Tryz.prog 46 #[.slice A n c, .func (.func 30) #[] #[.pointer (some ⟨a, 0, none⟩), .pointer (some ⟨b, 0, none⟩)]] w fun e w' => e = .returned (.int .i64 (badAt lo hi l 0)) ∧ w' = w := by
  subst hn
  have HT := Lib.hid (fun t => notAll_any t lo hi a b w ha hb)
  have H := Lib.hid hr
  clear ha hb hr
  go_enter Tryz.func46, Tryz.ntmps46
  go_wp2
  go_loopg [8] l.length (fun gk s8 wx => ∃ i : Nat, s8 = .int .i64 i ∧ i ≤ l.length ∧ badAt lo hi (l.drop i) i = badAt lo hi l 0 ∧ wx = w ∧ gk = l.length - i)
  case atStart => exact ⟨0, rfl, Nat.zero_le _, rfl, rfl, rfl⟩
  case round =>
    obtain ⟨i, rfl, hil, hbad, rfl, rfl⟩ := hrel
    have HB := Lib.hid hbad
    clear hbad
    by_cases hlt : i < l.length
    · obtain ⟨b, o, hA, hcell2⟩ := H.out.at hlt
      subst hA
      have hgl : l.getD i 0 = l[i] := by simp [List.getD, hlt]
      rw [hgl] at hcell2
      have HD := Lib.hid (List.drop_eq_getElem_cons hlt)
      clear hgl
      generalize hli : l[i] = t at hcell2 HD
      clear hli
      by_cases hw : withinB t lo hi = true
      · have HW := Lib.hid hw
        go_wp2_with (go_at_call 30; refine (HT.out t).mono ?_; rintro e w1 ⟨rfl, rfl⟩; rw [HW.out])
        go_roundg (l.length - (i + 1))
        case measure => omega
        case rel => exact ⟨i + 1, by go_num, by omega, by rw [← HB.out, HD.out, badAt, if_pos HW.out]; rfl, rfl, rfl⟩
      · have HW := Lib.hid hw
        have hw' : withinB t lo hi = false := by simpa using hw
        have HW' := Lib.hid hw'
        clear hw hw'
        go_wp2_with (go_at_call 30; refine (HT.out t).mono ?_; rintro e w1 ⟨rfl, rfl⟩; rw [HW'.out])
        go_ret
        exact ⟨ret_intA (by rw [← HB.out, HD.out, badAt, if_neg HW.out]), rfl⟩
    · go_wp2
      go_ret
      exact ⟨ret_intA (by rw [← HB.out, List.drop_eq_nil_of_le (by omega)]; rfl), rfl⟩
set_option maxRecDepth 100000 in
set_option maxHeartbeats 400000 in
theorem hasAll_any (lo hi : Int) (l : List Int) (A : Option Addr) (n c a b : Nat) (w : World) (hr : Rd w (.slice A n c) l) (hn : n = l.length) (ha : w.cell? ⟨a, 0, none⟩ = some (.int .i64 lo)) (hb : w.cell? ⟨b, 0, none⟩ = some (.int .i64 hi)) (hl : l.length ≤ 1000) :
    Calls Tryz.prog 29 #[.slice A n c, .func (.func 30) #[] #[.pointer (some ⟨a, 0, none⟩), .pointer (some ⟨b, 0, none⟩)]] w fun e w' => e = .returned (.bool (!(l.all fun x => withinB x lo hi))) ∧ w' = w := by
  obtain ⟨z, HI, HE⟩ : ∃ z : Int, Hid (Calls Tryz.prog 46 #[.slice A n c, .func (.func 30) #[] #[.pointer (some ⟨a, 0, none⟩), .pointer (some ⟨b, 0, none⟩)]] w fun e w' => e = .returned (.int .i64 z) ∧ w' = w) ∧ Hid (decide (0 ≤ z) = !(l.all fun x => withinB x lo hi)) := ⟨_, Lib.hid (idxAll_any lo hi l A n c a b w hr hn ha hb hl), Lib.hid (badAt_all lo hi l 0 (by omega))⟩
  clear hr ha hb hl hn
  generalize (!(l.all fun x => withinB x lo hi)) = zb at HE ⊢
  go_enter Tryz.func29, Tryz.ntmps29
  go_wp2_with (go_at_call 46; refine HI.out.mono ?_; rintro e w1 ⟨rfl, rfl⟩)
  go_ret
  exact ⟨ret_boolA HE.out, rfl⟩
set_option maxRecDepth 100000 in
set_option maxHeartbeats 800000 in
theorem all_any (l : List Int) (lo hi : Int) (A : Option Addr) (n c : Nat) (w : World) (hr : Rd w (.slice A n c) l) (hn : n = l.length) (hl : l.length ≤ 1000) :
    Calls Tryz.prog 19 #[.slice A n c, .int .i64 lo, .int .i64 hi] w fun e w' => e = .returned (.bool (l.all fun x => withinB x lo hi)) ∧ Hid (Below w.heap.size w w') := by
  obtain ⟨w2, hw2, hb2, hk0, hk1⟩ : ∃ w2, (w.alloc (.cells #[.int .i64 lo] 3)).alloc (.cells #[.int .i64 hi] 3) = w2 ∧ Below w.heap.size w w2 ∧ w2.cell? ⟨w.heap.size, 0, none⟩ = some (.int .i64 lo) ∧ w2.cell? ⟨w.heap.size + 1, 0, none⟩ = some (.int .i64 hi) := by
    refine ⟨_, rfl, ((Below.refl _ _).alloc (Nat.le_refl _) _).alloc (by simp only [World.size_alloc]; omega) _, ((news_blk w [.int .i64 lo] 3).alloc _).cell 0, ?_⟩
    have := (news_blk (w.alloc (.cells #[.int .i64 lo] 3)) [.int .i64 hi] 3).cell 0
    simp only [World.size_alloc] at this
    exact this
  have HC := Lib.hid (hasAll_any lo hi l A n c w.heap.size (w.heap.size + 1) w2 (hr.below hb2) hn hk0 hk1 hl)
  have HB2 := Lib.hid hb2
  have HE := Lib.hid (Bool.not_not (l.all fun x => withinB x lo hi))
  clear hr hb2 hk0 hk1 hn hl
  generalize (l.all fun x => withinB x lo hi) = z at HC HE
  go_enter Tryz.func19, Tryz.ntmps19
  go_wp2_with (go_at_call 29; refine HC.out.mono ?_; rintro e w3 ⟨rfl, rfl⟩)
  go_ret
  exact ⟨rfl, HB2⟩
end Go.Proofs.YtdbhlkejfecffaaGreatDoor
/-
  slices: Grow and Concat of lists of numbers.
-/
namespace Go.Proofs.YtdbhlkejfecffaaGreatDoor
open Go.RowKit

theorem Rd.news {w : World} {A : Option Addr} {n c : Nat} {l : List Int} (h : Rd w (.slice A n c) l) (h0 : 0 < l.length) : ∃ b o, A = some ⟨b, o, none⟩ ∧ ∀ (j : Nat) u, (ints l)[j]? = some u → w.cell? ((⟨b, o, none⟩ : Addr).add j) = some u := by
  obtain ⟨A0, c0, hv, h1, h2, h3⟩ := h
  injection hv with e1 e2 e3
  subst e1 e3
  obtain ⟨b, o, rfl, hr⟩ := h3 h0
  refine ⟨b, o, rfl, fun j u hj => ?_⟩
  have hjl : j < l.length := by
    have := (List.getElem?_eq_some_iff.1 hj).1
    rwa [ints_length] at this
  rw [add_plain, hr j hjl]
  simp only [ints, List.getElem?_map] at hj
  rw [List.getElem?_eq_getElem hjl] at hj
  simpa using hj
set_option maxRecDepth 100000 in
set_option maxHeartbeats 800000 in
theorem grow_any (n : Nat) (h0 : 0 < n) (hn : n ≤ 1000) (w : World) : Calls Tryz.prog 45 #[.slice none 0 0, .int .i64 n] w fun e w' => ∃ g c, e = .returned (.slice (some ⟨g, 0, none⟩) 0 c) ∧ Hid (Below w.heap.size w w') ∧ Hid (w'.ownsRow w.heap.size 3 1 (.slice (some ⟨g, 0, none⟩) 0 c) 0 []) := by
  obtain ⟨i0, hi, hz0, hz1, hz2⟩ := info_parts info3
  have hr := Lib.run_append_nil_zeros (P := Tryz.prog) w 22 3 22 3 i0 (.int .i64 0) .i64 .i64 Tryz.underlying22 Tryz.underlying3 hi hz0 n (by omega) (by rw [hz1]; omega) (by omega) (by rw [hz2]; omega)
  have hge := grownCap_ge w n 0 3
  have hle := grownCap_le_maxLen w n 0 3 (by unfold maxLen; omega)
  generalize hcap : grownCap w n 0 3 = cap at hr hge hle
  have hcs : (Builtin.zeroCells (Value.int .i64 0).cells n ++ Builtin.zeroCells (Value.int .i64 0).cells (cap - n)).size = cap * 1 := by
    rw [Array.size_append, size_zeroCells, size_zeroCells]
    have : (Value.int .i64 0).cells.size = 1 := rfl
    rw [this]; omega
  generalize (Builtin.zeroCells (Value.int .i64 0).cells n ++ Builtin.zeroCells (Value.int .i64 0).cells (cap - n)) = cs at hr hcs
  have hown : (w.drew.alloc (.cells cs 3)).ownsRow w.heap.size 3 1 (.slice (some ⟨w.heap.size, 0, none⟩) 0 cap) 0 [] :=
    ⟨rfl, .inr ⟨w.heap.size, cap, cs, rfl, Nat.le_refl _, heap_alloc_new w.drew _, Nat.zero_le _, hle, hcs, rfl⟩⟩
  have hbel : Below w.heap.size w (w.drew.alloc (.cells cs 3)) := (Below.refl _ _).drew.alloc (Nat.le_refl _) _
  have HR := Lib.hid hr
  have HOWN := Lib.hid hown
  have HBEL := Lib.hid hbel
  have t0 : ((n : Nat) : Int) ≤ cap := by omega
  have t1 : ¬ ((n : Nat) : Int) < 0 := by omega
  have t2 : ((n : Nat) : Int) > 0 := by omega
  have e1 : IntKind.i64.wrap ((n : Int) - 0) = n := IntWalk.i64_in _ (by omega)
  have e2 : wrap64 ((n : Int) - 0) = n := wrap64_in (by omega)
  have e3 : wrap64 (n : Int) = n := wrap64_in (by omega)
  have d1 : decide ((n : Int) < 0) = false := decide_eq_false t1
  have d2 : decide (0 < (n : Int)) = true := decide_eq_true (by omega)
  clear hr hown hbel hcs hcap hi hz0 hz1 hz2 hle hge
  go_enter Tryz.func45, Tryz.ntmps45
  go_wp2_with (at_builtin; refine Lib.wpList_append_run _ rfl _ _ _ _ rfl _ _ rfl rfl _ _ HR.out ?_)
  go_ret
  exact ⟨_, _, rfl, HBEL, HOWN⟩
def catN (ls : Nat → List Int) : Nat → List Int
  | 0 => []
  | i + 1 => catN ls i ++ ls i
theorem catN_le (ls : Nat → List Int) (i : Nat) : ∀ d, (catN ls i).length ≤ (catN ls (i + d)).length
  | 0 => Nat.le_refl _
  | d + 1 => Nat.le_trans (catN_le ls i d) (by rw [← Nat.add_assoc, catN]; simp)
set_option maxRecDepth 100000 in
set_option maxHeartbeats 1600000 in
theorem concat_any (K : Nat) (hK0 : 0 < K) (hK4 : K ≤ 4) (ls : Nat → List Int) (P : Nat → SP) (pb : Nat) (w : World) (hp : ∀ i, i < K → w.cell? ⟨pb, i, none⟩ = some (.slice (P i).A (ls i).length (P i).c)) (hr : ∀ i, i < K → Rd w (.slice (P i).A (ls i).length (P i).c) (ls i))
    (hlen : ∀ i, i < K → 0 < (ls i).length) (htot : (catN ls K).length ≤ 1000) :
    Calls Tryz.prog 28 #[.slice (some ⟨pb, 0, none⟩) K K] w fun e w' => ∃ g c, e = .returned (.slice (some ⟨g, 0, none⟩) (catN ls K).length c) ∧ Hid (Below w.heap.size w w') ∧ Hid (w'.ownsRow w.heap.size 3 1 (.slice (some ⟨g, 0, none⟩) (catN ls K).length c) (catN ls K).length (ints (catN ls K))) := by
  have hcat : ∀ i, i ≤ K → (catN ls i).length ≤ 1000 := fun i hi => Nat.le_trans (catN_le ls i (K - i)) (by rw [show i + (K - i) = K by omega]; exact htot)
  have hpos : 0 < (catN ls K).length := by
    obtain ⟨k, rfl⟩ : ∃ k, K = k + 1 := ⟨K - 1, by omega⟩
    rw [catN, List.length_append]; have := hlen k (by omega); omega
  have HP := Lib.hid hp
  have HRD := Lib.hid hr
  have HLEN := Lib.hid hlen
  have HCAT := Lib.hid hcat
  have HTOT := Lib.hid htot
  have HPOS := Lib.hid hpos
  have HK := Lib.hid hK0
  obtain ⟨i0, hi, hz0, hz1, hz2⟩ := info_parts info3
  clear hp hr hlen hcat htot hpos hK0
  go_enter Tryz.func28, Tryz.ntmps28
  go_wp2
  go_loopg [3, 11] K (fun gk s3 s11 wx => ∃ i : Nat, s11 = .int .i64 i ∧ i ≤ K ∧ s3 = .int .i64 ((catN ls i).length : Int) ∧ wx = w ∧ gk = K - i)
  case atStart => exact ⟨0, rfl, by omega, rfl, rfl, rfl⟩
  case round =>
    obtain ⟨i, rfl, hil, rfl, hw0, rfl⟩ := hrel
    subst wr
    by_cases hlt : i < K
    · have c1 := HP.out i hlt
      have hd : ((catN ls (i + 1)).length : Int) = ((catN ls i).length : Int) + ((ls i).length : Int) := by simp [catN]
      have h1 := HCAT.out (i + 1) (by omega)
      have e1 : IntKind.i64.wrap (((catN ls i).length : Int) + ((ls i).length : Int)) = ((catN ls (i + 1)).length : Int) := by rw [← hd]; exact IntWalk.i64_in _ (by omega)
      have t1 : ¬ ((catN ls (i + 1)).length : Int) < 0 := by omega
      have t2 : decide (((catN ls (i + 1)).length : Int) < 0) = false := decide_eq_false t1
      clear hd
      generalize hnx : ((catN ls (i + 1)).length : Int) = nx at e1 t1 t2
      have HNX := Lib.hid hnx
      clear hnx
      go_wp2
      go_roundg (K - (i + 1))
      case measure => omega
      case rel => exact ⟨i + 1, by go_num, by omega, by rw [HNX.out], rfl, rfl⟩
    · have : i = K := by omega
      subst this
      have HGR := Lib.hid (grow_any (catN ls i).length HPOS.out HTOT.out w)
      go_wp2_with (go_at_call 45; refine HGR.out.mono ?_; rintro e w1 ⟨g1, c1, rfl, HB1, HO1⟩)
      go_loopg [6, 27] i (fun gk s6 s27 wx => ∃ j : Nat, s27 = .int .i64 j ∧ j ≤ i ∧ Hid (Below w.heap.size w wx) ∧ Hid (wx.ownsRow w.heap.size 3 1 s6 (catN ls j).length (ints (catN ls j))) ∧ gk = i - j)
      case atStart => exact ⟨0, rfl, by omega, HB1, HO1, rfl⟩
      case round =>
        obtain ⟨j, rfl, hil2, HB2, HO2, rfl⟩ := hrel
        obtain ⟨A6, c6, hv6⟩ := ownsRow_shape HO2.out
        subst hv6
        by_cases hlt : j < i
        · have cc := HP.out j hlt
          have hc1 : wr.cell? ⟨pb, j, none⟩ = some (.slice (P j).A (ls j).length (P j).c) := by
            rw [World.cell?_of_block (a := ⟨pb, j, none⟩) (w := w) (HB2.out.block pb (World.block_lt_of_cell? w _ cc))]; exact cc
          have hrd := ((HRD.out j hlt).below HB2.out).news (HLEN.out j hlt)
          obtain ⟨b, o, hA, hnews⟩ := hrd
          rw [hA] at hc1
          have HNEWS := Lib.hid hnews
          have hl := HCAT.out (j + 1) (by omega)
          have hls : (catN ls (j + 1)).length = (catN ls j).length + (ls j).length := by simp [catN]
          have HLS := Lib.hid hls
          have HL0 := Lib.hid (HLEN.out j hlt)
          have HL := Lib.hid hl
          clear cc hl hls hA hnews
          go_wp2_with (at_builtin; refine wpList_append_lies _ rfl _ _ 22 rfl w.heap.size 3 i0 (.int .i64 0) 1 8 Tryz.underlying22 hi hz0 hz1 hz2 rfl (by decide) _ (catN ls j).length _ rfl HO2.out ⟨b, o, none⟩ (ls j).length (P j).c (ints (ls j)) rfl (by simp [ints]) HNEWS.out (one_cells _) HL0.out (by have := HL.out; have := HLS.out; unfold maxLen; omega) (by have := HL.out; have := HLS.out; omega) HB2.out.size _ rfl ?_; intro g cap w3 hown3 hgrow hat hlt3; have HO3 := Lib.hid hown3; have HG := Lib.hid hgrow; clear hown3 hgrow hat hlt3)
          go_roundg (i - (j + 1))
          case measure => omega
          case rel =>
            refine ⟨j + 1, by go_num, by omega, Lib.hid (HB2.out.trans (Below.ofGrown HG.out HB2.out.size (ownsRow_base HO2.out))), Lib.hid ?_, rfl⟩
            have := HO3.out
            rw [HLS.out]
            rw [show catN ls (j + 1) = catN ls j ++ ls j from rfl, ints, List.map_append]
            exact this
        · have : j = i := by omega
          subst this
          rcases HO2.out.2 with ⟨hv, hn⟩ | ⟨g, cap, cur, hv, hrest⟩
          · have := HPOS.out; omega
          · injection hv with e1 e2 e3
            subst e1 e3
            clear hrest
            go_wp2
            go_ret
            exact ⟨_, _, rfl, HB2, HO2⟩
end Go.Proofs.YtdbhlkejfecffaaGreatDoor
/-
  models: rows, sized, formed.
-/
namespace Go.Proofs.YtdbhlkejfecffaaGreatDoor
open Go.RowKit

set_option maxRecDepth 100000 in
set_option maxHeartbeats 400000 in
theorem rows_any (A : Option Addr) (n c : Nat) (k q : Int) (w : World) (hk : 0 < k ∧ k ≤ 1000) (hr : (n : Int) % k = 0) (hq : (n : Int) / k = q) (hq2 : 0 ≤ q ∧ q ≤ 1000) : Calls Tryz.prog 33 #[.slice A n c, .int .i64 k] w fun e w' => e = .returned (.int .i64 q) ∧ w' = w := by
  have t0 : k ≠ 0 := by omega
  have t1 : Int.tmod (n : Int) k = 0 := by rw [Int.tmod_eq_emod_of_nonneg (by omega)]; exact hr
  have t2 : Int.tdiv (n : Int) k = q := by rw [Int.tdiv_eq_ediv_of_nonneg (by omega)]; exact hq
  have t3 : wrap64 q = q := wrap64_in (by omega)
  go_enter Tryz.func33, Tryz.ntmps33
  go_wp2
  go_ret
  exact ⟨rfl, rfl⟩
set_option maxRecDepth 100000 in
set_option maxHeartbeats 400000 in
theorem sized_ok (k v x : Int) (hk : 1 ≤ k ∧ k ≤ 3) (hv : 2 ≤ v ∧ v ≤ 16) (hx : 1 ≤ x ∧ x ≤ 5) (w : World) : Calls Tryz.prog 26 #[.int .i64 k, .int .i64 v, .int .i64 x] w fun e w' => e = .returned (.int .i64 0) ∧ w' = w := by
  have H1 := Lib.hid (withinB_yes hk)
  have H2 := Lib.hid (withinB_yes hv)
  have H3 := Lib.hid (withinB_yes hx)
  clear hk hv hx
  go_enter Tryz.func26, Tryz.ntmps26
  go_wp2_with (go_at_call 17; refine (within_any _ _ _ _).mono ?_; rintro e w1 ⟨rfl, rfl⟩; first | rw [H1.out] | rw [H2.out] | rw [H3.out])
  go_ret
  exact ⟨rfl, rfl⟩
set_option maxRecDepth 100000 in
set_option maxHeartbeats 3200000 in
theorem formed_ok (m : MD) (p : MP) (hm : m.Ok) (w : World) : Calls Tryz.prog 27 #[.agg (mCells m p).toArray] w fun e w' => e = .returned (.bool true) ∧ Hid (Below w.heap.size w w') := by
  have hb : ∀ o, Below w.heap.size w (w.alloc o) := fun o => (Below.refl _ _).alloc (Nat.le_refl _) o
  have HB := Lib.hid hb
  clear hb
  have hw := hm.width
  have hv := hm.vocab
  have hww : m.width * m.width ≤ 5 * 5 := mul_le (by omega) (by omega)
  have hww1 : 1 * 1 ≤ m.width * m.width := mul_le (by omega) (by omega)
  have hvw : m.vocab * m.width ≤ 16 * 5 := mul_le (by omega) (by omega)
  have hvw1 : 2 * 1 ≤ m.vocab * m.width := mul_le (by omega) (by omega)
  have hmix := hm.mix
  have hem := Int.mul_ediv_add_emod m.mix.length (m.width * m.width)
  have e1 : wrap64 (m.width * m.width) = m.width * m.width := wrap64_in (by omega)
  have e2 : wrap64 (m.vocab * m.width) = m.vocab * m.width := wrap64_in (by omega)
  have e3 : wrap64 (3 * m.width) = 3 * m.width := wrap64_in (by omega)
  have e4 : wrap64 (2 * m.width) = 2 * m.width := wrap64_in (by omega)
  have e5 : wrap64 (3 * m.width * m.width) = 3 * m.width * m.width := wrap64_in (by rw [Int.mul_assoc]; omega)
  have e6 : wrap64 (2 * m.width * m.width) = 2 * m.width * m.width := wrap64_in (by rw [Int.mul_assoc]; omega)
  have d1 : ((m.cuts.length : Int) == 4) = true := beq_iff_eq.2 (by have := hm.cuts; omega)
  have d2 : ((m.embed.length : Int) == m.vocab * m.width) = true := beq_iff_eq.2 hm.embed
  have d3 : ((m.out.length : Int) == m.vocab * m.width) = true := beq_iff_eq.2 hm.out
  have HR1 := Lib.hid (fun wx => rows_any p.place.A m.place.length p.place.c m.width _ wx (by omega) hm.place.1 rfl (by have := hm.place; omega))
  have W1 := Lib.hid (withinB_yes hm.place.2)
  have HR2 := Lib.hid (fun wx => rows_any p.mix.A m.mix.length p.mix.c (m.width * m.width) _ wx (by omega) hm.mix.1 rfl (by omega))
  have W2 := Lib.hid (withinB_yes hm.mix.2.2.2)
  have W3 := Lib.hid (withinB_yes (show (1 : Int) ≤ (m.soft.length : Int) ∧ (m.soft.length : Int) ≤ 64 by have := hm.soft; omega))
  have W4 := Lib.hid (withinB_yes (show (1 : Int) ≤ (m.odds.length : Int) ∧ (m.odds.length : Int) ≤ 64 by have := hm.odds; omega))
  rcases (show m.kind = 1 ∨ m.kind = 2 ∨ m.kind = 3 by have := hm.kind; omega) with hk | hk | hk
  · have d4 : ((m.mix.length : Int) == 3 * m.width * m.width) = true := beq_iff_eq.2 (by rw [Int.mul_assoc]; rw [hmix.2.1 hk, hmix.1] at hem; omega)
    clear hm hw hv hww hww1 hvw hvw1 hmix hem
    simp only [mCells, hk]
    go_enter Tryz.func27, Tryz.ntmps27
    go_wp2_with (first | (go_at_call 17; refine (within_any _ _ _ _).mono ?_; rintro e w1 ⟨rfl, rfl⟩; first | rw [W1.out] | rw [W3.out] | rw [W4.out]) | (go_at_call 33; refine (HR1.out _).mono ?_; rintro e w1 ⟨rfl, rfl⟩))
    go_ret
    exact ⟨rfl, Lib.hid (HB.out _)⟩
  · have d4 : ((m.mix.length : Int) == 2 * m.width * m.width) = true := beq_iff_eq.2 (by rw [Int.mul_assoc]; rw [hmix.2.2.1 hk, hmix.1] at hem; omega)
    clear hm hw hv hww hww1 hvw hvw1 hmix hem
    simp only [mCells, hk]
    go_enter Tryz.func27, Tryz.ntmps27
    go_wp2_with (first | (go_at_call 17; refine (within_any _ _ _ _).mono ?_; rintro e w1 ⟨rfl, rfl⟩; first | rw [W1.out] | rw [W3.out] | rw [W4.out]) | (go_at_call 33; refine (HR1.out _).mono ?_; rintro e w1 ⟨rfl, rfl⟩))
    go_ret
    exact ⟨rfl, Lib.hid (HB.out _)⟩
  · clear hm hw hv hww hww1 hvw hvw1 hmix hem
    simp only [mCells, hk]
    go_enter Tryz.func27, Tryz.ntmps27
    go_upto_region 9 with (first | (go_at_call 17; refine (within_any _ _ _ _).mono ?_; rintro e w1 ⟨rfl, rfl⟩; rw [W2.out]) | (go_at_call 33; refine (HR2.out _).mono ?_; rintro e w1 ⟨rfl, rfl⟩))
    go_wp2_with (first | (go_at_call 17; refine (within_any _ _ _ _).mono ?_; rintro e w1 ⟨rfl, rfl⟩; first | rw [W1.out] | rw [W3.out] | rw [W4.out]) | (go_at_call 33; refine (HR1.out _).mono ?_; rintro e w1 ⟨rfl, rfl⟩))
    go_ret
    exact ⟨rfl, Lib.hid (HB.out _)⟩
end Go.Proofs.YtdbhlkejfecffaaGreatDoor
