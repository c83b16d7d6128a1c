/-
  models: rows, sized, formed.
  models: Check of a model that is right.
  weftref1: matrices.
-/
import Derived.Test.YtplkchmcojnimaaGreatDoorSa4
/-
  models: rows, sized, formed.
-/
namespace Go.Proofs.YtplkchmcojnimaaGreatDoor
open Go.RowKit

set_option maxRecDepth 100000 in
set_option maxHeartbeats 400000 in
theorem rows_any (A : Option Addr) (n c : Nat) (k q : Int) (w : World) (hk : 0 < k ∧ k ≤ 1000) (hr : (n : Int) % k = 0) (hq : (n : Int) / k = q) (hq2 : 0 ≤ q ∧ q ≤ 1000) : Calls Tryz.prog 68 #[.slice A n c, .int .i64 k] w fun e w' => e = .returned (.int .i64 q) ∧ w' = w := by
  have t0 : k ≠ 0 := by omega
  have t1 : Int.tmod (n : Int) k = 0 := by rw [Int.tmod_eq_emod_of_nonneg (by omega)]; exact hr
  have t2 : Int.tdiv (n : Int) k = q := by rw [Int.tdiv_eq_ediv_of_nonneg (by omega)]; exact hq
  have t3 : wrap64 q = q := wrap64_in (by omega)
  go_enter Tryz.func68, Tryz.ntmps68
  go_wp2
  go_ret
  exact ⟨rfl, rfl⟩
set_option maxRecDepth 100000 in
set_option maxHeartbeats 400000 in
theorem sized_ok (k v x : Int) (hk : 1 ≤ k ∧ k ≤ 3) (hv : 2 ≤ v ∧ v ≤ 16) (hx : 1 ≤ x ∧ x ≤ 5) (w : World) : Calls Tryz.prog 49 #[.int .i64 k, .int .i64 v, .int .i64 x] w fun e w' => e = .returned (.int .i64 0) ∧ w' = w := by
  have H1 := Lib.hid (withinB_yes hk)
  have H2 := Lib.hid (withinB_yes hv)
  have H3 := Lib.hid (withinB_yes hx)
  clear hk hv hx
  go_enter Tryz.func49, Tryz.ntmps49
  go_wp2_with (go_at_call 25; refine (within_any _ _ _ _).mono ?_; rintro e w1 ⟨rfl, rfl⟩; first | rw [H1.out] | rw [H2.out] | rw [H3.out])
  go_ret
  exact ⟨rfl, rfl⟩
set_option maxRecDepth 100000 in
set_option maxHeartbeats 3200000 in
theorem formed_ok (m : MD) (p : MP) (hm : m.Ok) (w : World) : Calls Tryz.prog 50 #[.agg (mCells m p).toArray] w fun e w' => e = .returned (.bool true) ∧ Hid (Below w.heap.size w w') := by
  have hb : ∀ o, Below w.heap.size w (w.alloc o) := fun o => (Below.refl _ _).alloc (Nat.le_refl _) o
  have HB := Lib.hid hb
  clear hb
  have hw := hm.width
  have hv := hm.vocab
  have hww : m.width * m.width ≤ 5 * 5 := mul_le (by omega) (by omega)
  have hww1 : 1 * 1 ≤ m.width * m.width := mul_le (by omega) (by omega)
  have hvw : m.vocab * m.width ≤ 16 * 5 := mul_le (by omega) (by omega)
  have hvw1 : 2 * 1 ≤ m.vocab * m.width := mul_le (by omega) (by omega)
  have hmix := hm.mix
  have hem := Int.mul_ediv_add_emod m.mix.length (m.width * m.width)
  have e1 : wrap64 (m.width * m.width) = m.width * m.width := wrap64_in (by omega)
  have e2 : wrap64 (m.vocab * m.width) = m.vocab * m.width := wrap64_in (by omega)
  have e3 : wrap64 (3 * m.width) = 3 * m.width := wrap64_in (by omega)
  have e4 : wrap64 (2 * m.width) = 2 * m.width := wrap64_in (by omega)
  have e5 : wrap64 (3 * m.width * m.width) = 3 * m.width * m.width := wrap64_in (by rw [Int.mul_assoc]; omega)
  have e6 : wrap64 (2 * m.width * m.width) = 2 * m.width * m.width := wrap64_in (by rw [Int.mul_assoc]; omega)
  have d1 : ((m.cuts.length : Int) == 4) = true := beq_iff_eq.2 (by have := hm.cuts; omega)
  have d2 : ((m.embed.length : Int) == m.vocab * m.width) = true := beq_iff_eq.2 hm.embed
  have d3 : ((m.out.length : Int) == m.vocab * m.width) = true := beq_iff_eq.2 hm.out
  have HR1 := Lib.hid (fun wx => rows_any p.place.A m.place.length p.place.c m.width _ wx (by omega) hm.place.1 rfl (by have := hm.place; omega))
  have W1 := Lib.hid (withinB_yes hm.place.2)
  have HR2 := Lib.hid (fun wx => rows_any p.mix.A m.mix.length p.mix.c (m.width * m.width) _ wx (by omega) hm.mix.1 rfl (by omega))
  have W2 := Lib.hid (withinB_yes hm.mix.2.2.2)
  have W3 := Lib.hid (withinB_yes (show (1 : Int) ≤ (m.soft.length : Int) ∧ (m.soft.length : Int) ≤ 64 by have := hm.soft; omega))
  have W4 := Lib.hid (withinB_yes (show (1 : Int) ≤ (m.odds.length : Int) ∧ (m.odds.length : Int) ≤ 64 by have := hm.odds; omega))
  rcases (show m.kind = 1 ∨ m.kind = 2 ∨ m.kind = 3 by have := hm.kind; omega) with hk | hk | hk
  · have d4 : ((m.mix.length : Int) == 3 * m.width * m.width) = true := beq_iff_eq.2 (by rw [Int.mul_assoc]; rw [hmix.2.1 hk, hmix.1] at hem; omega)
    clear hm hw hv hww hww1 hvw hvw1 hmix hem
    simp only [mCells, hk]
    go_enter Tryz.func50, Tryz.ntmps50
    go_wp2_with (first | (go_at_call 25; refine (within_any _ _ _ _).mono ?_; rintro e w1 ⟨rfl, rfl⟩; first | rw [W1.out] | rw [W3.out] | rw [W4.out]) | (go_at_call 68; refine (HR1.out _).mono ?_; rintro e w1 ⟨rfl, rfl⟩))
    go_ret
    exact ⟨rfl, Lib.hid (HB.out _)⟩
  · have d4 : ((m.mix.length : Int) == 2 * m.width * m.width) = true := beq_iff_eq.2 (by rw [Int.mul_assoc]; rw [hmix.2.2.1 hk, hmix.1] at hem; omega)
    clear hm hw hv hww hww1 hvw hvw1 hmix hem
    simp only [mCells, hk]
    go_enter Tryz.func50, Tryz.ntmps50
    go_wp2_with (first | (go_at_call 25; refine (within_any _ _ _ _).mono ?_; rintro e w1 ⟨rfl, rfl⟩; first | rw [W1.out] | rw [W3.out] | rw [W4.out]) | (go_at_call 68; refine (HR1.out _).mono ?_; rintro e w1 ⟨rfl, rfl⟩))
    go_ret
    exact ⟨rfl, Lib.hid (HB.out _)⟩
  · clear hm hw hv hww hww1 hvw hvw1 hmix hem
    simp only [mCells, hk]
    go_enter Tryz.func50, Tryz.ntmps50
    go_upto_region 9 with (first | (go_at_call 25; refine (within_any _ _ _ _).mono ?_; rintro e w1 ⟨rfl, rfl⟩; rw [W2.out]) | (go_at_call 68; refine (HR2.out _).mono ?_; rintro e w1 ⟨rfl, rfl⟩))
    go_wp2_with (first | (go_at_call 25; refine (within_any _ _ _ _).mono ?_; rintro e w1 ⟨rfl, rfl⟩; first | rw [W1.out] | rw [W3.out] | rw [W4.out]) | (go_at_call 68; refine (HR1.out _).mono ?_; rintro e w1 ⟨rfl, rfl⟩))
    go_ret
    exact ⟨rfl, Lib.hid (HB.out _)⟩
end Go.Proofs.YtplkchmcojnimaaGreatDoor
/-
  models: Check of a model that is right.
-/
namespace Go.Proofs.YtplkchmcojnimaaGreatDoor
open Go.RowKit

theorem all_yes {l : List Int} {lo hi : Int} (h : ∀ x, x ∈ l → lo ≤ x ∧ x ≤ hi) : (l.all fun x => withinB x lo hi) = true :=
  List.all_eq_true.2 fun x hx => withinB_yes (h x hx)
theorem all_ok (l : List Int) (lo hi : Int) (h : ∀ x, x ∈ l → lo ≤ x ∧ x ≤ hi) (A : Option Addr) (n c : Nat) (w : World) (hr : Rd w (.slice A n c) l) (hn : n = l.length) (hl : l.length ≤ 1000) :
    Calls Tryz.prog 51 #[.slice A n c, .int .i64 lo, .int .i64 hi] w fun e w' => e = .returned (.bool true) ∧ Hid (Below w.heap.size w w') := by
  have := all_any l lo hi A n c w hr hn hl
  rwa [all_yes h] at this
def wLs (m : MD) : Nat → List Int
  | 0 => m.embed
  | 1 => m.place
  | 2 => m.mix
  | _ => m.out
def wPl (p : MP) : Nat → SP
  | 0 => p.embed
  | 1 => p.place
  | 2 => p.mix
  | _ => p.out
theorem four {P : Nat → Prop} (h0 : P 0) (h1 : P 1) (h2 : P 2) (h3 : P 3) : ∀ i, i < 4 → P i := by
  intro i hi
  have : i = 0 ∨ i = 1 ∨ i = 2 ∨ i = 3 := by omega
  rcases this with rfl | rfl | rfl | rfl
  · exact h0
  · exact h1
  · exact h2
  · exact h3
def wCat (m : MD) : List Int := catN (wLs m) 4
theorem wCat_mem {m : MD} {x : Int} : x ∈ wCat m ↔ x ∈ m.embed ∨ x ∈ m.place ∨ x ∈ m.mix ∨ x ∈ m.out := by
  simp only [wCat, catN, wLs, List.mem_append, List.not_mem_nil, false_or, or_assoc]
theorem wCat_in {m : MD} (h : m.Ok) (x : Int) (hx : x ∈ wCat m) : -128 ≤ x ∧ x ≤ 127 := by
  rcases wCat_mem.1 hx with a | a | a | a
  · exact h.embed' x a
  · exact h.place' x a
  · exact h.mix' x a
  · exact h.out' x a
theorem wCat_len (m : MD) : (wCat m).length = m.embed.length + m.place.length + m.mix.length + m.out.length := by
  simp only [wCat, catN, wLs, List.length_append, List.length_nil, Nat.zero_add]
theorem rd_own {w : World} {base n g c : Nat} {xs : List Int} (h : w.ownsRow base 3 1 (.slice (some ⟨g, 0, none⟩) n c) n (ints xs)) : Rd w (.slice (some ⟨g, 0, none⟩) n c) xs := rd_owned h
def wVals (m : MD) (p : MP) : List Value := [.slice p.embed.A m.embed.length p.embed.c, .slice p.place.A m.place.length p.place.c, .slice p.mix.A m.mix.length p.mix.c, .slice p.out.A m.out.length p.out.c]
theorem concat_w (m : MD) (p : MP) (w : World) (hd : MAt w m p) (hpos : 0 < m.embed.length ∧ 0 < m.place.length ∧ 0 < m.mix.length ∧ 0 < m.out.length) (htot : (wCat m).length ≤ 1000) (pb : Nat) (hp : Blk w pb (wVals m p) 22) :
    Calls Tryz.prog 48 #[.slice (some ⟨pb, 0, none⟩) 4 4] w fun e w' => ∃ g c, e = .returned (.slice (some ⟨g, 0, none⟩) (wCat m).length c) ∧ Hid (Below w.heap.size w w') ∧ Hid (Rd w' (.slice (some ⟨g, 0, none⟩) (wCat m).length c) (wCat m)) := by
  refine (concat_any 4 (by omega) (by omega) (wLs m) (wPl p) pb w (fun i hi => ?_) (four hd.embed hd.place hd.mix hd.out) (four hpos.1 hpos.2.1 hpos.2.2.1 hpos.2.2.2) htot).mono ?_
  · rw [hp.cell]
    exact four (P := fun i => (wVals m p)[i]? = some (.slice (wPl p i).A (wLs m i).length (wPl p i).c)) rfl rfl rfl rfl i hi
  · rintro e w1 ⟨g, c, rfl, hb, ho⟩
    exact ⟨g, c, rfl, hb, Lib.hid (rd_own ho.out)⟩
set_option maxRecDepth 100000 in
set_option maxHeartbeats 3200000 in
theorem check_ok (m : MD) (p : MP) (hm : m.Ok) (w : World) (h : MAt w m p) : Calls Tryz.prog 24 #[.agg (mCells m p).toArray] w fun e w' => e = .returned (.int .i64 0) ∧ Hid (Below w.heap.size w w') := by
  obtain ⟨wb, hwb, hbel, hblk⟩ : ∃ wb, w.alloc (.cells (mCells m p).toArray 27) = wb ∧ Below w.heap.size w wb ∧ Blk wb w.heap.size (mCells m p) 27 := ⟨_, rfl, (Below.refl _ _).alloc (Nat.le_refl _) _, heap_alloc_new w _⟩
  have hA := (h.below hbel).odds.at (i := 0) (by have := hm.odds; omega)
  obtain ⟨b0, o0, hA0, -⟩ := hA
  have HA0 := Lib.hid hA0
  have hodd : 0 < m.odds.length := by have := hm.odds; omega
  have HD := Lib.hid (h.below hbel)
  have HQ := Lib.hid (fun (wx : World) (hb : Below wb.heap.size wb wx) => (hblk.below hb).cell)
  have HO := Lib.hid (fun (wx : World) (hb : Below wb.heap.size wb wx) => show wx.cell? ⟨b0, o0, none⟩ = some (.int .i64 (m.odds.getD 0 0)) by
    obtain ⟨b, o, e, hc⟩ := ((h.below hbel).below hb).odds.at (i := 0) (by have := hm.odds; omega)
    rw [hA0] at e
    injection e with e
    injection e with e1 e2
    subst e1 e2
    exact hc)
  have q0 := hblk.cell
  have HB := Lib.hid hbel
  have HWB := Lib.hid hwb
  have HM := Lib.hid hm
  have HF := Lib.hid fun wx => formed_ok m p hm wx
  have HS := Lib.hid fun wx => sized_ok m.kind m.vocab m.width hm.kind hm.vocab hm.width wx
  have HT := Lib.hid (withinB_yes hm.top)
  have hne : (m.odds.getD 0 0 == 0) = false := by simpa using hm.odds0
  generalize m.odds.getD 0 0 = x0 at HO hne
  have hpos : 0 < m.embed.length ∧ 0 < m.place.length ∧ 0 < m.mix.length ∧ 0 < m.out.length := ⟨(hm.len 1 (by omega)).1, (hm.len 2 (by omega)).1, (hm.len 3 (by omega)).1, (hm.len 4 (by omega)).1⟩
  have htot : (wCat m).length ≤ 1000 := by
    have h1 := (hm.len 1 (by omega)).2; have h2 := (hm.len 2 (by omega)).2; have h3 := (hm.len 3 (by omega)).2; have h4 := (hm.len 4 (by omega)).2
    simp only [MD.lst] at h1 h2 h3 h4
    rw [wCat_len]; omega
  have HPOS := Lib.hid hpos
  have HTOT := Lib.hid htot
  clear hbel hblk h hm hpos htot
  simp only [mCells, hA0] at q0 HQ HF hwb ⊢
  clear hA0
  go_enter Tryz.func24, Tryz.ntmps24
  go_upto_region 1 with (fail)
  clear hwb
  go_upto_region 8 with (first | (go_at_call 49; refine (HS.out _).mono ?_; rintro e wz ⟨rfl, hz⟩; subst wz) | (go_at_call 25; refine (within_any _ _ _ _).mono ?_; rintro e wz ⟨rfl, hz⟩; subst wz; rw [HT.out]) | (go_at_call 50; refine (HF.out _).mono ?_; rintro e w1 ⟨rfl, HB1⟩; have q1 := HQ.out _ HB1.out))
  obtain ⟨w2, hw2, hb2, hblk2⟩ : ∃ w2, w1.alloc (.cells (wVals m p).toArray 22) = w2 ∧ Below wb.heap.size wb w2 ∧ Blk w2 w1.heap.size (wVals m p) 22 := ⟨_, rfl, HB1.out.alloc HB1.out.size _, heap_alloc_new w1 _⟩
  have HBL2 := Lib.hid hblk2
  have HB2 := Lib.hid hb2
  have HC := Lib.hid (concat_w m p w2 (HD.out.below hb2) HPOS.out HTOT.out w1.heap.size hblk2)
  have q2 := HQ.out w2 hb2
  simp only [wVals] at hw2
  clear hb2 hblk2 q0
  go_upto_region 9 with (first | (go_at_call 48; refine HC.out.mono ?_; rintro e w3 ⟨g3, c3, rfl, HB3', HR3⟩; have HB3 := Lib.hid (HB2.out.trans (HB3'.out.mono HB2.out.size)); have q3 := HQ.out _ HB3.out))
  clear q1 q2 hw2
  have HH1 := Lib.hid (all_ok m.cuts 1 15 HM.out.cuts' p.cuts.A m.cuts.length p.cuts.c w3 (HD.out.below HB3.out).cuts rfl (by have := HM.out.cuts; omega))
  go_wp2_with (first | (go_at_call 51; have _g := HB6; clear _g; refine (all_ok m.odds 0 1000 HM.out.odds' _ _ _ _ (show Rd w6 (.slice (some ⟨b0, o0, none⟩) m.odds.length p.odds.c) m.odds by rw [← HA0.out]; exact (HD.out.below HB6.out).odds) rfl (by have := HM.out.odds; omega)).mono ?_; rintro e w7 ⟨rfl, HB7'⟩; have HB7 := Lib.hid (HB6.out.trans (HB7'.out.mono HB6.out.size)); have q7 := HQ.out _ HB7.out; have o7 := HO.out _ HB7.out) | (go_at_call 51; have _g := HB5; clear _g; refine (all_ok m.soft 0 1000 HM.out.soft' _ _ _ _ (HD.out.below HB5.out).soft rfl (by have := HM.out.soft; omega)).mono ?_; rintro e w6 ⟨rfl, HB6'⟩; have HB6 := Lib.hid (HB5.out.trans (HB6'.out.mono HB5.out.size)); have q6 := HQ.out _ HB6.out) | (go_at_call 51; have _g := HB4; clear _g; refine (all_ok (wCat m) (-128) 127 (wCat_in HM.out) _ _ _ _ (HR3.out.below HB4'.out) rfl HTOT.out).mono ?_; rintro e w5 ⟨rfl, HB5'⟩; have HB5 := Lib.hid (HB4.out.trans (HB5'.out.mono HB4.out.size)); have q5 := HQ.out _ HB5.out) | (go_at_call 51; refine HH1.out.mono ?_; rintro e w4 ⟨rfl, HB4'⟩; have HB4 := Lib.hid (HB3.out.trans (HB4'.out.mono HB3.out.size)); have q4 := HQ.out _ HB4.out))
  go_ret
  exact ⟨rfl, Lib.hid (HB.out.trans (HB7.out.mono HB.out.size))⟩
end Go.Proofs.YtplkchmcojnimaaGreatDoor
/-
  weftref1: matrices.
-/
namespace Go.Proofs.YtplkchmcojnimaaGreatDoor
open Go.RowKit

def MixOk (m : MD) : Prop := (m.mix.length : Int) % (m.width * m.width) = 0 ∧ (m.kind = 1 → (m.mix.length : Int) / (m.width * m.width) = 3) ∧ (m.kind = 2 → (m.mix.length : Int) / (m.width * m.width) = 2) ∧ 1 ≤ (m.mix.length : Int) / (m.width * m.width) ∧ (m.mix.length : Int) / (m.width * m.width) ≤ 4
instance (m : MD) : Decidable (MixOk m) := by unfold MixOk; infer_instance
def matF (m : MD) : Int := if MixOk m then (m.mix.length : Int) / (m.width * m.width) else -1
theorem matF_ok {m : MD} (h : 0 ≤ matF m) : MixOk m := by
  unfold matF at h
  by_cases c : MixOk m
  · exact c
  · rw [if_neg c] at h; omega
set_option maxRecDepth 100000 in
set_option maxHeartbeats 3200000 in
theorem matrices_any (m : MD) (p : MP) (w : World) (hk : 1 ≤ m.kind ∧ m.kind ≤ 3) (hw : 1 ≤ m.width ∧ m.width ≤ 5) (hn : m.mix.length ≤ maxLen) :
    Calls Tryz.prog 47 #[.agg (mCells m p).toArray] w fun e w' => e = .returned (.int .i64 (matF m)) ∧ Hid (Below w.heap.size w w') := by
  have hb : ∀ o, Below w.heap.size w (w.alloc o) := fun o => (Below.refl _ _).alloc (Nat.le_refl _) o
  have HB := Lib.hid hb
  clear hb
  have hww : m.width * m.width ≤ 5 * 5 := mul_le (by omega) (by omega)
  have hww1 : 1 * 1 ≤ m.width * m.width := mul_le (by omega) (by omega)
  have e1 : wrap64 (m.width * m.width) = m.width * m.width := wrap64_in (by omega)
  obtain ⟨ww, hwe⟩ : ∃ ww, ww = m.width * m.width := ⟨_, rfl⟩
  have HWE := Lib.hid hwe
  rw [← hwe] at hww hww1
  have e1' : wrap64 (m.width * m.width) = ww := by rw [e1, hwe]
  clear e1
  have t0 : ww ≠ 0 := by omega
  have hem := Int.mul_ediv_add_emod m.mix.length ww
  have hq0 := Int.ediv_nonneg (a := (m.mix.length : Int)) (b := ww) (by omega) (by omega)
  have hq1 : (m.mix.length : Int) / ww ≤ (m.mix.length : Int) := Int.ediv_le_self _ (by omega)
  have t1 : Int.tmod (m.mix.length : Int) ww = (m.mix.length : Int) % ww := Int.tmod_eq_emod_of_nonneg (by omega)
  have t2 : Int.tdiv (m.mix.length : Int) ww = (m.mix.length : Int) / ww := Int.tdiv_eq_ediv_of_nonneg (by omega)
  have t3 : wrap64 ((m.mix.length : Int) / ww) = (m.mix.length : Int) / ww := by unfold maxLen at hn; exact wrap64_in (by omega)
  have hmo : ∀ q r, q = (m.mix.length : Int) / ww → r = (m.mix.length : Int) % ww → (r = 0 ∧ (m.kind = 1 → q = 3) ∧ (m.kind = 2 → q = 2) ∧ 1 ≤ q ∧ q ≤ 4 → q = matF m) ∧ (¬ (r = 0 ∧ (m.kind = 1 → q = 3) ∧ (m.kind = 2 → q = 2) ∧ 1 ≤ q ∧ q ≤ 4) → -1 = matF m) := by
    intro q r hq hr
    have hi : MixOk m ↔ (r = 0 ∧ (m.kind = 1 → q = 3) ∧ (m.kind = 2 → q = 2) ∧ 1 ≤ q ∧ q ≤ 4) := by unfold MixOk; rw [← hwe, ← hq, ← hr]
    refine ⟨fun h => ?_, fun h => ?_⟩
    · unfold matF; rw [if_pos (hi.2 h), ← hwe]; exact hq
    · unfold matF; rw [if_neg (fun c => h (hi.1 c))]
  generalize hQ : (m.mix.length : Int) / ww = q at t2 t3
  generalize hR : (m.mix.length : Int) % ww = r0 at t1
  have hmo := hmo q r0 hQ.symm hR.symm
  have HMO := Lib.hid hmo
  clear hww hww1 hem hq0 hq1 hmo hwe hw hn hQ hR
  rcases (show m.kind = 1 ∨ m.kind = 2 ∨ m.kind = 3 by omega) with hk1 | hk1 | hk1
  · have HK1 := Lib.hid hk1
    clear hk
    by_cases c1 : r0 = 0
    · by_cases c2 : q = 3
      · subst c1 c2
        simp only [mCells, hk1]
        clear hk1
        go_enter Tryz.func47, Tryz.ntmps47
        go_wp2
        go_ret
        exact ⟨ret_int (HMO.out.1 ⟨by first | rfl | trivial, fun _ => by first | rfl | trivial, fun h => by have := HK1.out; omega, by omega, by omega⟩), Lib.hid (HB.out _)⟩
      · have d2 : (q == 3) = false := by simpa using c2
        have HN := Lib.hid c2
        subst c1
        simp only [mCells, hk1]
        clear hk1 c2
        go_enter Tryz.func47, Tryz.ntmps47
        go_wp2
        go_ret
        exact ⟨ret_int (HMO.out.2 fun h => by have h1 := HN.out; have h2 := HK1.out; have h3 := h.2.1; have h4 := h.2.2.1; simp only [h2] at h3 h4; omega), Lib.hid (HB.out _)⟩
    · have d2 : (r0 == 0) = false := by simpa using c1
      have HN := Lib.hid c1
      simp only [mCells, hk1]
      clear hk1 c1
      go_enter Tryz.func47, Tryz.ntmps47
      go_wp2
      go_ret
      exact ⟨ret_int (HMO.out.2 fun h => by have h1 := HN.out; have h2 := HK1.out; have h3 := h.2.1; have h4 := h.2.2.1; simp only [h2] at h3 h4; omega), Lib.hid (HB.out _)⟩
  · have HK1 := Lib.hid hk1
    clear hk
    by_cases c1 : r0 = 0
    · by_cases c2 : q = 2
      · subst c1 c2
        simp only [mCells, hk1]
        clear hk1
        go_enter Tryz.func47, Tryz.ntmps47
        go_wp2
        go_ret
        exact ⟨ret_int (HMO.out.1 ⟨by first | rfl | trivial, fun h => by have := HK1.out; omega, fun _ => by first | rfl | trivial, by omega, by omega⟩), Lib.hid (HB.out _)⟩
      · have d2 : (q == 2) = false := by simpa using c2
        have HN := Lib.hid c2
        subst c1
        simp only [mCells, hk1]
        clear hk1 c2
        go_enter Tryz.func47, Tryz.ntmps47
        go_wp2
        go_ret
        exact ⟨ret_int (HMO.out.2 fun h => by have h1 := HN.out; have h2 := HK1.out; have h3 := h.2.1; have h4 := h.2.2.1; simp only [h2] at h3 h4; omega), Lib.hid (HB.out _)⟩
    · have d2 : (r0 == 0) = false := by simpa using c1
      have HN := Lib.hid c1
      simp only [mCells, hk1]
      clear hk1 c1
      go_enter Tryz.func47, Tryz.ntmps47
      go_wp2
      go_ret
      exact ⟨ret_int (HMO.out.2 fun h => by have h1 := HN.out; have h2 := HK1.out; have h3 := h.2.1; have h4 := h.2.2.1; simp only [h2] at h3 h4; omega), Lib.hid (HB.out _)⟩
  · have HK1 := Lib.hid hk1
    clear hk
    by_cases c1 : r0 = 0
    · by_cases c2 : 1 ≤ q
      · by_cases c3 : q ≤ 4
        · have HC := Lib.hid (And.intro c2 c3)
          subst c1
          simp only [mCells, hk1]
          clear hk1
          go_enter Tryz.func47, Tryz.ntmps47
          go_wp2
          go_ret
          exact ⟨ret_int (HMO.out.1 ⟨by first | rfl | trivial, fun h => by have := HK1.out; omega, fun h => by have := HK1.out; omega, HC.out.1, HC.out.2⟩), Lib.hid (HB.out _)⟩
        · subst c1
          have d3 : decide (q ≤ 4) = false := decide_eq_false c3
          have HN := Lib.hid c3
          simp only [mCells, hk1]
          clear hk1
          go_enter Tryz.func47, Tryz.ntmps47
          go_wp2
          go_ret
          exact ⟨ret_int (HMO.out.2 fun h => by have h1 := HN.out; have h2 := HK1.out; have h3 := h.2.1; have h4 := h.2.2.1; simp only [h2] at h3 h4; omega), Lib.hid (HB.out _)⟩
      · subst c1
        have d3 : decide (1 ≤ q) = false := decide_eq_false c2
        have HN := Lib.hid c2
        simp only [mCells, hk1]
        clear hk1
        go_enter Tryz.func47, Tryz.ntmps47
        go_wp2
        go_ret
        exact ⟨ret_int (HMO.out.2 fun h => by have h1 := HN.out; have h2 := HK1.out; have h3 := h.2.1; have h4 := h.2.2.1; simp only [h2] at h3 h4; omega), Lib.hid (HB.out _)⟩
    · have d2 : (r0 == 0) = false := by simpa using c1
      have HN := Lib.hid c1
      simp only [mCells, hk1]
      clear hk1 c1
      go_enter Tryz.func47, Tryz.ntmps47
      go_wp2
      go_ret
      exact ⟨ret_int (HMO.out.2 fun h => by have h1 := HN.out; have h2 := HK1.out; have h3 := h.2.1; have h4 := h.2.2.1; simp only [h2] at h3 h4; omega), Lib.hid (HB.out _)⟩
end Go.Proofs.YtplkchmcojnimaaGreatDoor
