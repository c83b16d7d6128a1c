/-
  weftref1: ModelFault.
-/
import Derived.Laws.EntriesVeiled
import Derived.Test.YtplkchmcojnimaaGreatDoorSa5
/-
  weftref1: ModelFault.
-/
namespace Go.Proofs.YtplkchmcojnimaaGreatDoor
open Go.RowKit

theorem MD.ok_iff {m : MD} (h1 : 1 ≤ m.kind ∧ m.kind ≤ 3) (h2 : 2 ≤ m.vocab ∧ m.vocab ≤ 16) (h3 : 1 ≤ m.width ∧ m.width ≤ 5) (h4 : 1 ≤ m.top ∧ m.top ≤ m.vocab) (h5 : (m.cuts.length : Int) = 4) (h6 : (m.embed.length : Int) = m.vocab * m.width)
    (h7 : (m.place.length : Int) % m.width = 0) (h8 : 1 ≤ (m.place.length : Int) / m.width ∧ (m.place.length : Int) / m.width ≤ 16) (h9 : MixOk m) (h10 : (m.out.length : Int) = m.vocab * m.width) (h11 : 1 ≤ (m.soft.length : Int) ∧ (m.soft.length : Int) ≤ 64) (h12 : 1 ≤ (m.odds.length : Int) ∧ (m.odds.length : Int) ≤ 64)
    (h13 : (m.cuts.all fun x => withinB x 1 15) = true) (h14 : ((wCat m).all fun x => withinB x (-128) 127) = true) (h15 : ((m.soft ++ m.odds).all fun x => withinB x 0 1000) = true) (h16 : m.odds.getD 0 0 ≠ 0) : m.Ok := by
  rw [List.all_eq_true] at h13 h14 h15
  exact ⟨h1, h2, h3, h4, by omega, h6, h10, ⟨h7, h8⟩, h9, ⟨by omega, by omega⟩, ⟨by omega, by omega⟩, fun x hx => withinB_true (h13 x hx), fun x hx => withinB_true (h14 x (wCat_mem.2 (.inl hx))), fun x hx => withinB_true (h14 x (wCat_mem.2 (.inr (.inl hx)))),
    fun x hx => withinB_true (h14 x (wCat_mem.2 (.inr (.inr (.inl hx))))), fun x hx => withinB_true (h14 x (wCat_mem.2 (.inr (.inr (.inr hx))))), fun x hx => withinB_true (h15 x (List.mem_append_left _ hx)), fun x hx => withinB_true (h15 x (List.mem_append_right _ hx)), h16⟩
def sVals (m : MD) (p : MP) : List Value := [.slice p.soft.A m.soft.length p.soft.c, .slice p.odds.A m.odds.length p.odds.c]
def sLs (m : MD) : Nat → List Int
  | 0 => m.soft
  | _ => m.odds
def sPl (p : MP) : Nat → SP
  | 0 => p.soft
  | _ => p.odds
theorem two {P : Nat → Prop} (h0 : P 0) (h1 : P 1) : ∀ i, i < 2 → P i := by
  intro i hi
  have : i = 0 ∨ i = 1 := by omega
  rcases this with rfl | rfl
  · exact h0
  · exact h1
def sCat (m : MD) : List Int := m.soft ++ m.odds
theorem concat_s (m : MD) (p : MP) (w : World) (hd : MAt w m p) (hpos : 0 < m.soft.length ∧ 0 < m.odds.length) (htot : (sCat m).length ≤ 1000) (pb : Nat) (hp : Blk w pb (sVals m p) 22) :
    Calls Tryz.prog 48 #[.slice (some ⟨pb, 0, none⟩) 2 2] w fun e w' => ∃ g c, e = .returned (.slice (some ⟨g, 0, none⟩) (sCat m).length c) ∧ Hid (Below w.heap.size w w') ∧ Hid (Rd w' (.slice (some ⟨g, 0, none⟩) (sCat m).length c) (sCat m)) := by
  have hE : catN (sLs m) 2 = sCat m := by simp only [catN, sLs, List.nil_append, sCat]
  have := concat_any 2 (by omega) (by omega) (sLs m) (sPl p) pb w (fun i hi => by
    rw [hp.cell]
    exact two (P := fun i => (sVals m p)[i]? = some (.slice (sPl p i).A (sLs m i).length (sPl p i).c)) rfl rfl i hi) (two hd.soft hd.odds) (two hpos.1 hpos.2) (by rw [hE]; exact htot)
  rw [hE] at this
  refine this.mono ?_
  rintro e w1 ⟨g, c, rfl, hb, ho⟩
  exact ⟨g, c, rfl, hb, Lib.hid (rd_own ho.out)⟩
theorem lens_of {m : MD} (hv : 2 ≤ m.vocab ∧ m.vocab ≤ 16) (hw : 1 ≤ m.width ∧ m.width ≤ 5) (h6 : (m.embed.length : Int) = m.vocab * m.width) (h8 : (m.place.length : Int) % m.width = 0 ∧ 1 ≤ (m.place.length : Int) / m.width ∧ (m.place.length : Int) / m.width ≤ 16) (h9 : MixOk m) (h10 : (m.out.length : Int) = m.vocab * m.width) :
    (0 < m.embed.length ∧ 0 < m.place.length ∧ 0 < m.mix.length ∧ 0 < m.out.length) ∧ (wCat m).length ≤ 1000 := by
  have e1 : m.vocab * m.width ≤ 16 * 5 := mul_le (by omega) (by omega)
  have e2 : 2 * 1 ≤ m.vocab * m.width := mul_le (by omega) (by omega)
  have hww : m.width * m.width ≤ 5 * 5 := mul_le (by omega) (by omega)
  have hww1 : 1 * 1 ≤ m.width * m.width := mul_le (by omega) (by omega)
  have p1 : 0 < m.place.length ∧ m.place.length ≤ 100 := by
    have e := Int.mul_ediv_add_emod m.place.length m.width
    have : m.width * ((m.place.length : Int) / m.width) ≤ 5 * 16 := mul_le (by omega) (by omega)
    have : 1 * 1 ≤ m.width * ((m.place.length : Int) / m.width) := mul_le (by omega) (by omega)
    omega
  have p2 : 0 < m.mix.length ∧ m.mix.length ≤ 100 := by
    obtain ⟨g1, -, -, g2, g3⟩ := h9
    have e := Int.mul_ediv_add_emod m.mix.length (m.width * m.width)
    have : (m.width * m.width) * ((m.mix.length : Int) / (m.width * m.width)) ≤ 25 * 4 := mul_le (by omega) (by omega)
    have : 1 * 1 ≤ (m.width * m.width) * ((m.mix.length : Int) / (m.width * m.width)) := mul_le (by omega) (by omega)
    omega
  rw [wCat_len]
  omega
theorem notTrue {b : Bool} (h : ¬ b = true) : b = false := by cases b <;> simp_all
set_option maxRecDepth 100000 in
set_option maxHeartbeats 6400000 in
theorem fault_any (m : MD) (p : MP) (w : World) (h : MAt w m p) :
    Calls Tryz.prog 19 #[.agg (mCells m p).toArray] w fun e w' => ∃ k, e = .returned (.int .i64 k) ∧ (k = 0 → m.Ok) ∧ Hid (Below w.heap.size w w') := by
  obtain ⟨wb, hwb, hbb, hk0, hk1⟩ : ∃ wb, (w.alloc (.cells (mCells m p).toArray 27)).alloc (.cells #[.nilFunc] 55) = wb ∧ Below w.heap.size w wb ∧ Blk wb w.heap.size (mCells m p) 27 ∧ Blk wb (w.heap.size + 1) [.nilFunc] 55 := by
    refine ⟨_, rfl, ((Below.refl _ _).alloc (Nat.le_refl _) _).alloc (by simp only [World.size_alloc]; omega) _, (news_blk w (mCells m p) 27).alloc _, ?_⟩
    have := news_blk (w.alloc (.cells (mCells m p).toArray 27)) [.nilFunc] 55
    simp only [World.size_alloc] at this
    exact this
  obtain ⟨wc, hwc, hbc, hc0, hc1⟩ : ∃ wc, wb.setCell ⟨w.heap.size + 1, 0, none⟩ (.func (.func 43) #[] #[]) = wc ∧ Below w.heap.size w wc ∧ Blk wc w.heap.size (mCells m p) 27 ∧ wc.cell? ⟨w.heap.size + 1, 0, none⟩ = some (.func (.func 43) #[] #[]) :=
    ⟨_, rfl, hbb.setCell (show w.heap.size ≤ w.heap.size + 1 by omega) _, hk0.far (by simp) _, by rw [(hk1.set 0 _).cell]; rfl⟩
  have fb := hk1.frozen 0
  have cb0 := hk1.cell 0
  have HBC := Lib.hid hbc
  have HD := Lib.hid (h.below hbc)
  have HQ := Lib.hid (fun (wx : World) (hb : Below wc.heap.size wc wx) => (hc0.below hb).cell)
  have HF := Lib.hid (fun (wx : World) (hb : Below wc.heap.size wc wx) => show wx.cell? ⟨w.heap.size + 1, 0, none⟩ = some (.func (.func 43) #[] #[]) by rw [hb.cell (p := ⟨w.heap.size + 1, 0, none⟩) (World.block_lt_of_cell? wc _ hc1)]; exact hc1)
  have q0 := hc0.cell
  have HM := Lib.hid (show m.mix.length ≤ maxLen by obtain ⟨A, c, e, h1, h2, -⟩ := h.mix; omega)
  clear hbb hk0 hbc hc0 h
  simp only [mCells] at q0 HQ hwb ⊢
  go_enter Tryz.func19, Tryz.ntmps19
  go_upto_region 3 with fail
  clear fb cb0 hk1 hwb
  by_cases c1 : withinB m.kind 1 3 = true
  rotate_left
  · have W1 := Lib.hid (notTrue c1)
    clear c1
    go_wp2_with ((go_at_call 43; refine (in_any _ _ _ _).mono ?_; rintro e wz ⟨rfl, hz⟩; subst wz; first | rw [W1.out]))
    go_ret
    exact ⟨_, rfl, fun h => absurd h (by decide), HBC⟩
  have W1 := Lib.hid c1
  clear c1
  go_upto_region 5 with ((go_at_call 43; refine (in_any _ _ _ _).mono ?_; rintro e wz ⟨rfl, hz⟩; subst wz; first | rw [W1.out]))
  by_cases c2 : withinB m.vocab 2 16 = true
  rotate_left
  · have W2 := Lib.hid (notTrue c2)
    clear c2
    go_wp2_with ((go_at_call 43; refine (in_any _ _ _ _).mono ?_; rintro e wz ⟨rfl, hz⟩; subst wz; first | rw [W2.out]))
    go_ret
    exact ⟨_, rfl, fun h => absurd h (by decide), HBC⟩
  have W2 := Lib.hid c2
  clear c2
  by_cases c3 : withinB m.width 1 5 = true
  rotate_left
  · have W3 := Lib.hid (notTrue c3)
    clear c3
    go_wp2_with ((go_at_call 43; refine (in_any _ _ _ _).mono ?_; rintro e wz ⟨rfl, hz⟩; subst wz; first | rw [W2.out] | rw [W3.out]))
    go_ret
    exact ⟨_, rfl, fun h => absurd h (by decide), HBC⟩
  have W3 := Lib.hid c3
  clear c3
  by_cases c4 : withinB m.top 1 m.vocab = true
  rotate_left
  · have W4 := Lib.hid (notTrue c4)
    clear c4
    go_wp2_with ((go_at_call 43; refine (in_any _ _ _ _).mono ?_; rintro e wz ⟨rfl, hz⟩; subst wz; first | rw [W2.out] | rw [W3.out] | rw [W4.out]))
    go_ret
    exact ⟨_, rfl, fun h => absurd h (by decide), HBC⟩
  have W4 := Lib.hid c4
  clear c4
  go_upto_region 7 with ((go_at_call 43; refine (in_any _ _ _ _).mono ?_; rintro e wz ⟨rfl, hz⟩; subst wz; first | rw [W2.out] | rw [W3.out] | rw [W4.out]))
  have hw := withinB_true W3.out
  have hv := withinB_true W2.out
  have hvw : m.vocab * m.width ≤ 16 * 5 := mul_le (by omega) (by omega)
  have hvw1 : 2 * 1 ≤ m.vocab * m.width := mul_le (by omega) (by omega)
  have e2 : wrap64 (m.vocab * m.width) = m.vocab * m.width := wrap64_in (by omega)
  have t0 : m.width ≠ 0 := by omega
  have hpl : m.place.length ≤ maxLen := by obtain ⟨A, c, e, h1, h2, -⟩ := HD.out.place; omega
  have hq0 := Int.ediv_nonneg (a := (m.place.length : Int)) (b := m.width) (by omega) (by omega)
  have hq1 : (m.place.length : Int) / m.width ≤ (m.place.length : Int) := Int.ediv_le_self _ (by omega)
  have t1 : Int.tmod (m.place.length : Int) m.width = (m.place.length : Int) % m.width := Int.tmod_eq_emod_of_nonneg (by omega)
  have t2 : Int.tdiv (m.place.length : Int) m.width = (m.place.length : Int) / m.width := Int.tdiv_eq_ediv_of_nonneg (by omega)
  have t3 : wrap64 ((m.place.length : Int) / m.width) = (m.place.length : Int) / m.width := by unfold maxLen at hpl; exact wrap64_in (by omega)
  have HP1 := Lib.hid (show (m.place.length : Int) / m.width = (m.place.length : Int) / m.width from rfl)
  generalize hQ : (m.place.length : Int) / m.width = q at t2 t3
  generalize hR : (m.place.length : Int) % m.width = r0 at t1
  have HQQ := Lib.hid hQ
  have HRR := Lib.hid hR
  have HMAT := Lib.hid (fun wx => matrices_any m p wx (withinB_true W1.out) hw HM.out)
  simp only [mCells] at HMAT
  clear hw hv hvw hvw1 hpl hq0 hq1 hQ hR HP1
  go_upto_region 9 with fail
  by_cases c5 : ((m.cuts.length : Int)) = 4
  rotate_left
  · have d : (((m.cuts.length : Int)) == 4) = false := by simpa using c5
    have dd : (((m.cuts.length : Int)) != 4) = true := by simpa using c5
    clear c5
    go_wp2_with ( first | fail)
    go_ret
    exact ⟨_, rfl, fun h => absurd h (by decide), HBC⟩
  have dc5 : (((m.cuts.length : Int)) == 4) = true := by simpa using c5
  have ddc5 : (((m.cuts.length : Int)) != 4) = false := by simpa using c5
  have Hc5 := Lib.hid c5
  clear c5
  by_cases c6 : ((m.embed.length : Int)) = m.vocab * m.width
  rotate_left
  · have d : (((m.embed.length : Int)) == m.vocab * m.width) = false := by simpa using c6
    have dd : (((m.embed.length : Int)) != m.vocab * m.width) = true := by simpa using c6
    clear c6
    go_wp2_with ( first | fail)
    go_ret
    exact ⟨_, rfl, fun h => absurd h (by decide), HBC⟩
  have dc6 : (((m.embed.length : Int)) == m.vocab * m.width) = true := by simpa using c6
  have ddc6 : (((m.embed.length : Int)) != m.vocab * m.width) = false := by simpa using c6
  have Hc6 := Lib.hid c6
  clear c6
  by_cases c7 : (r0) = 0
  rotate_left
  · have d : ((r0) == 0) = false := by simpa using c7
    have dd : ((r0) != 0) = true := by simpa using c7
    clear c7
    go_wp2_with ( first | fail)
    go_ret
    exact ⟨_, rfl, fun h => absurd h (by decide), HBC⟩
  have dc7 : ((r0) == 0) = true := by simpa using c7
  have ddc7 : ((r0) != 0) = false := by simpa using c7
  have Hc7 := Lib.hid c7
  clear c7
  by_cases c8 : withinB q 1 16 = true
  rotate_left
  · have W8 := Lib.hid (notTrue c8)
    clear c8
    go_wp2_with (first | (go_at_call 43; refine (in_any _ _ _ _).mono ?_; rintro e wz ⟨rfl, hz⟩; subst wz; first | rw [W8.out]))
    go_ret
    exact ⟨_, rfl, fun h => absurd h (by decide), HBC⟩
  have W8 := Lib.hid c8
  clear c8
  by_cases c9 : matF m < 0
  · have d : decide (matF m < 0) = true := decide_eq_true c9
    go_wp2_with (first | (go_at_call 47; refine (HMAT.out _).mono ?_; rintro e w1 ⟨rfl, HB1⟩; have q1 := HQ.out _ HB1.out; have f1 := HF.out _ HB1.out) | (go_at_call 43; refine (in_any _ _ _ _).mono ?_; rintro e wz ⟨rfl, hz⟩; subst wz; first | rw [W8.out]))
    go_ret
    exact ⟨_, rfl, fun h => absurd h (by decide), Lib.hid (HBC.out.trans (HB1.out.mono HBC.out.size))⟩
  have dc9 : decide (matF m < 0) = false := decide_eq_false c9
  have HC9 := Lib.hid c9
  clear c9
  by_cases c10 : ((m.out.length : Int)) = m.vocab * m.width
  rotate_left
  · have d : (((m.out.length : Int)) == m.vocab * m.width) = false := by simpa using c10
    have dd : (((m.out.length : Int)) != m.vocab * m.width) = true := by simpa using c10
    clear c10
    go_wp2_with ( first | (go_at_call 47; refine (HMAT.out _).mono ?_; rintro e w1 ⟨rfl, HB1⟩; have q1 := HQ.out _ HB1.out; have f1 := HF.out _ HB1.out) | (go_at_call 43; refine (in_any _ _ _ _).mono ?_; rintro e wz ⟨rfl, hz⟩; subst wz; first | rw [W8.out]))
    go_ret
    exact ⟨_, rfl, fun h => absurd h (by decide), Lib.hid (HBC.out.trans (HB1.out.mono HBC.out.size))⟩
  have dc10 : (((m.out.length : Int)) == m.vocab * m.width) = true := by simpa using c10
  have ddc10 : (((m.out.length : Int)) != m.vocab * m.width) = false := by simpa using c10
  have Hc10 := Lib.hid c10
  clear c10
  by_cases c11 : withinB m.soft.length 1 64 = true
  rotate_left
  · have W11 := Lib.hid (notTrue c11)
    clear c11
    go_wp2_with (first | (go_at_call 47; refine (HMAT.out _).mono ?_; rintro e w1 ⟨rfl, HB1⟩; have q1 := HQ.out _ HB1.out; have f1 := HF.out _ HB1.out) | (go_at_call 43; refine (in_any _ _ _ _).mono ?_; rintro e wz ⟨rfl, hz⟩; subst wz; first | rw [W8.out] | rw [W11.out]))
    go_ret
    exact ⟨_, rfl, fun h => absurd h (by decide), Lib.hid (HBC.out.trans (HB1.out.mono HBC.out.size))⟩
  have W11 := Lib.hid c11
  clear c11
  by_cases c12 : withinB m.odds.length 1 64 = true
  rotate_left
  · have W12 := Lib.hid (notTrue c12)
    clear c12
    go_wp2_with (first | (go_at_call 47; refine (HMAT.out _).mono ?_; rintro e w1 ⟨rfl, HB1⟩; have q1 := HQ.out _ HB1.out; have f1 := HF.out _ HB1.out) | (go_at_call 43; refine (in_any _ _ _ _).mono ?_; rintro e wz ⟨rfl, hz⟩; subst wz; first | rw [W8.out] | rw [W11.out] | rw [W12.out]))
    go_ret
    exact ⟨_, rfl, fun h => absurd h (by decide), Lib.hid (HBC.out.trans (HB1.out.mono HBC.out.size))⟩
  have W12 := Lib.hid c12
  clear c12
  go_upto_region 11 with (first | (go_at_call 47; refine (HMAT.out _).mono ?_; rintro e w1 ⟨rfl, HB1⟩; have q1 := HQ.out _ HB1.out; have f1 := HF.out _ HB1.out) | (go_at_call 43; refine (in_any _ _ _ _).mono ?_; rintro e wz ⟨rfl, hz⟩; subst wz; first | rw [W8.out] | rw [W11.out] | rw [W12.out]))
  have hw := withinB_true W3.out
  have hv := withinB_true W2.out
  have hq := withinB_true W8.out
  have hs1 := withinB_true W11.out
  have hs2 := withinB_true W12.out
  have HPL := Lib.hid (show (m.place.length : Int) % m.width = 0 ∧ 1 ≤ (m.place.length : Int) / m.width ∧ (m.place.length : Int) / m.width ≤ 16 by rw [HQQ.out, HRR.out]; exact ⟨Hc7.out, hq⟩)
  have HMX := Lib.hid (matF_ok (by have := HC9.out; omega))
  have HLN := Lib.hid (lens_of hv hw Hc6.out HPL.out HMX.out Hc10.out)
  have HLS := Lib.hid (show (0 < m.soft.length ∧ 0 < m.odds.length) ∧ (sCat m).length ≤ 1000 by rw [sCat, List.length_append]; omega)
  have hodd : 0 < m.odds.length := by omega
  obtain ⟨b0, o0, hA0, -⟩ := HD.out.odds.at hodd
  have HA0 := Lib.hid hA0
  have HO0 := Lib.hid (fun (wx : World) (hb : Below wc.heap.size wc wx) => show wx.cell? ⟨b0, o0, none⟩ = some (.int .i64 (m.odds.getD 0 0)) by
    obtain ⟨b, o, e, hc⟩ := (HD.out.below hb).odds.at hodd
    rw [hA0] at e
    injection e with e
    injection e with e1 e2
    subst e1 e2
    exact hc)
  have HO1 := Lib.hid (out_any m.cuts 1 15 p.cuts.A m.cuts.length p.cuts.c (w.heap.size + 1) w1 (HD.out.below HB1.out).cuts f1 rfl (by have := Hc5.out; omega))
  simp only [hA0] at q1 HQ ⊢
  clear hA0 hw hv hq hs1 hs2 q0 dc5 ddc5 dc6 ddc6 dc7 ddc7 dc9 dc10 ddc10 e2 t0 t1 t2 t3 hc1 hwc HMAT
  by_cases d13 : (m.cuts.all fun x => withinB x 1 15) = true
  rotate_left
  · have W13 := Lib.hid (notTrue d13)
    clear d13
    go_wp2_with (first | (go_at_call 44; have _g := HO1; clear _g; refine HO1.out.mono ?_; rintro e w2 ⟨rfl, HB2'⟩; rw [W13.out]; have HB2 := Lib.hid (HB1.out.trans (HB2'.out.mono HB1.out.size)); have q2 := HQ.out _ HB2.out; have f2 := HF.out _ HB2.out; obtain ⟨w3, hw3, hb3, hblk3⟩ : ∃ w3, w2.alloc (.cells (wVals m p).toArray 22) = w3 ∧ Below wc.heap.size wc w3 ∧ Blk w3 w2.heap.size (wVals m p) 22 := ⟨_, rfl, HB2.out.alloc HB2.out.size _, heap_alloc_new w2 _⟩; have HB3 := Lib.hid hb3; have HBL3 := Lib.hid hblk3; have q3 := HQ.out _ hb3; have f3 := HF.out _ hb3; simp only [wVals] at hw3; clear hb3 hblk3))
    go_ret
    exact ⟨_, rfl, fun h => absurd h (by decide), Lib.hid (HBC.out.trans (HB2.out.mono HBC.out.size))⟩
  have W13 := Lib.hid d13
  clear d13
  by_cases d14 : ((wCat m).all fun x => withinB x (-128) 127) = true
  rotate_left
  · have W14 := Lib.hid (notTrue d14)
    clear d14
    go_wp2_with (first | (go_at_call 44; have _g := HR4; clear _g; refine (out_any (wCat m) (-128) 127 _ _ _ _ w4 HR4.out (HF.out _ HB4.out) rfl HLN.out.2).mono ?_; rintro e w5 ⟨rfl, HB5'⟩; rw [W14.out]; have HB5 := Lib.hid (HB4.out.trans (HB5'.out.mono HB4.out.size)); have q5 := HQ.out _ HB5.out; have f5 := HF.out _ HB5.out; obtain ⟨w6, hw6, hb6, hblk6⟩ : ∃ w6, w5.alloc (.cells (sVals m p).toArray 22) = w6 ∧ Below wc.heap.size wc w6 ∧ Blk w6 w5.heap.size (sVals m p) 22 := ⟨_, rfl, HB5.out.alloc HB5.out.size _, heap_alloc_new w5 _⟩; have HB6 := Lib.hid hb6; have HBL6 := Lib.hid hblk6; have q6 := HQ.out _ hb6; have f6 := HF.out _ hb6; simp only [sVals, HA0.out] at hw6; clear hb6 hblk6) | (go_at_call 48; have _g := HBL3; clear _g; refine (concat_w m p w3 (HD.out.below HB3.out) HLN.out.1 HLN.out.2 w2.heap.size HBL3.out).mono ?_; rintro e w4 ⟨g4, c4, rfl, HB4', HR4⟩; have HB4 := Lib.hid (HB3.out.trans (HB4'.out.mono HB3.out.size)); have q4 := HQ.out _ HB4.out; have f4 := HF.out _ HB4.out) | (go_at_call 44; have _g := HO1; clear _g; refine HO1.out.mono ?_; rintro e w2 ⟨rfl, HB2'⟩; rw [W13.out]; have HB2 := Lib.hid (HB1.out.trans (HB2'.out.mono HB1.out.size)); have q2 := HQ.out _ HB2.out; have f2 := HF.out _ HB2.out; obtain ⟨w3, hw3, hb3, hblk3⟩ : ∃ w3, w2.alloc (.cells (wVals m p).toArray 22) = w3 ∧ Below wc.heap.size wc w3 ∧ Blk w3 w2.heap.size (wVals m p) 22 := ⟨_, rfl, HB2.out.alloc HB2.out.size _, heap_alloc_new w2 _⟩; have HB3 := Lib.hid hb3; have HBL3 := Lib.hid hblk3; have q3 := HQ.out _ hb3; have f3 := HF.out _ hb3; simp only [wVals] at hw3; clear hb3 hblk3))
    go_ret
    exact ⟨_, rfl, fun h => absurd h (by decide), Lib.hid (HBC.out.trans (HB5.out.mono HBC.out.size))⟩
  have W14 := Lib.hid d14
  clear d14
  by_cases d15 : ((sCat m).all fun x => withinB x 0 1000) = true
  rotate_left
  · have W15 := Lib.hid (notTrue d15)
    clear d15
    go_wp2_with (first | (go_at_call 44; have _g := HR7; clear _g; refine (out_any (sCat m) 0 1000 _ _ _ _ w7 HR7.out (HF.out _ HB7.out) rfl HLS.out.2).mono ?_; rintro e w8 ⟨rfl, HB8'⟩; rw [W15.out]; have HB8 := Lib.hid (HB7.out.trans (HB8'.out.mono HB7.out.size)); have q8 := HQ.out _ HB8.out; have f8 := HF.out _ HB8.out; have o8 := HO0.out _ HB8.out) | (go_at_call 48; have _g := HBL6; clear _g; refine (concat_s m p w6 (HD.out.below HB6.out) HLS.out.1 HLS.out.2 w5.heap.size HBL6.out).mono ?_; rintro e w7 ⟨g7, c7, rfl, HB7', HR7⟩; have HB7 := Lib.hid (HB6.out.trans (HB7'.out.mono HB6.out.size)); have q7 := HQ.out _ HB7.out; have f7 := HF.out _ HB7.out) | (go_at_call 44; have _g := HR4; clear _g; refine (out_any (wCat m) (-128) 127 _ _ _ _ w4 HR4.out (HF.out _ HB4.out) rfl HLN.out.2).mono ?_; rintro e w5 ⟨rfl, HB5'⟩; rw [W14.out]; have HB5 := Lib.hid (HB4.out.trans (HB5'.out.mono HB4.out.size)); have q5 := HQ.out _ HB5.out; have f5 := HF.out _ HB5.out; obtain ⟨w6, hw6, hb6, hblk6⟩ : ∃ w6, w5.alloc (.cells (sVals m p).toArray 22) = w6 ∧ Below wc.heap.size wc w6 ∧ Blk w6 w5.heap.size (sVals m p) 22 := ⟨_, rfl, HB5.out.alloc HB5.out.size _, heap_alloc_new w5 _⟩; have HB6 := Lib.hid hb6; have HBL6 := Lib.hid hblk6; have q6 := HQ.out _ hb6; have f6 := HF.out _ hb6; simp only [sVals, HA0.out] at hw6; clear hb6 hblk6) | (go_at_call 48; have _g := HBL3; clear _g; refine (concat_w m p w3 (HD.out.below HB3.out) HLN.out.1 HLN.out.2 w2.heap.size HBL3.out).mono ?_; rintro e w4 ⟨g4, c4, rfl, HB4', HR4⟩; have HB4 := Lib.hid (HB3.out.trans (HB4'.out.mono HB3.out.size)); have q4 := HQ.out _ HB4.out; have f4 := HF.out _ HB4.out) | (go_at_call 44; have _g := HO1; clear _g; refine HO1.out.mono ?_; rintro e w2 ⟨rfl, HB2'⟩; rw [W13.out]; have HB2 := Lib.hid (HB1.out.trans (HB2'.out.mono HB1.out.size)); have q2 := HQ.out _ HB2.out; have f2 := HF.out _ HB2.out; obtain ⟨w3, hw3, hb3, hblk3⟩ : ∃ w3, w2.alloc (.cells (wVals m p).toArray 22) = w3 ∧ Below wc.heap.size wc w3 ∧ Blk w3 w2.heap.size (wVals m p) 22 := ⟨_, rfl, HB2.out.alloc HB2.out.size _, heap_alloc_new w2 _⟩; have HB3 := Lib.hid hb3; have HBL3 := Lib.hid hblk3; have q3 := HQ.out _ hb3; have f3 := HF.out _ hb3; simp only [wVals] at hw3; clear hb3 hblk3))
    go_ret
    exact ⟨_, rfl, fun h => absurd h (by decide), Lib.hid (HBC.out.trans (HB8.out.mono HBC.out.size))⟩
  have W15 := Lib.hid d15
  clear d15
  obtain ⟨x0, hx0⟩ : ∃ x0, x0 = m.odds.getD 0 0 := ⟨_, rfl⟩
  rw [← hx0] at HO0
  have HX0 := Lib.hid hx0
  clear hx0
  by_cases d16 : x0 = 0
  · have d : (x0 == 0) = true := by simpa using d16
    clear d16
    go_wp2_with (first | (go_at_call 44; have _g := HR7; clear _g; refine (out_any (sCat m) 0 1000 _ _ _ _ w7 HR7.out (HF.out _ HB7.out) rfl HLS.out.2).mono ?_; rintro e w8 ⟨rfl, HB8'⟩; rw [W15.out]; have HB8 := Lib.hid (HB7.out.trans (HB8'.out.mono HB7.out.size)); have q8 := HQ.out _ HB8.out; have f8 := HF.out _ HB8.out; have o8 := HO0.out _ HB8.out) | (go_at_call 48; have _g := HBL6; clear _g; refine (concat_s m p w6 (HD.out.below HB6.out) HLS.out.1 HLS.out.2 w5.heap.size HBL6.out).mono ?_; rintro e w7 ⟨g7, c7, rfl, HB7', HR7⟩; have HB7 := Lib.hid (HB6.out.trans (HB7'.out.mono HB6.out.size)); have q7 := HQ.out _ HB7.out; have f7 := HF.out _ HB7.out) | (go_at_call 44; have _g := HR4; clear _g; refine (out_any (wCat m) (-128) 127 _ _ _ _ w4 HR4.out (HF.out _ HB4.out) rfl HLN.out.2).mono ?_; rintro e w5 ⟨rfl, HB5'⟩; rw [W14.out]; have HB5 := Lib.hid (HB4.out.trans (HB5'.out.mono HB4.out.size)); have q5 := HQ.out _ HB5.out; have f5 := HF.out _ HB5.out; obtain ⟨w6, hw6, hb6, hblk6⟩ : ∃ w6, w5.alloc (.cells (sVals m p).toArray 22) = w6 ∧ Below wc.heap.size wc w6 ∧ Blk w6 w5.heap.size (sVals m p) 22 := ⟨_, rfl, HB5.out.alloc HB5.out.size _, heap_alloc_new w5 _⟩; have HB6 := Lib.hid hb6; have HBL6 := Lib.hid hblk6; have q6 := HQ.out _ hb6; have f6 := HF.out _ hb6; simp only [sVals, HA0.out] at hw6; clear hb6 hblk6) | (go_at_call 48; have _g := HBL3; clear _g; refine (concat_w m p w3 (HD.out.below HB3.out) HLN.out.1 HLN.out.2 w2.heap.size HBL3.out).mono ?_; rintro e w4 ⟨g4, c4, rfl, HB4', HR4⟩; have HB4 := Lib.hid (HB3.out.trans (HB4'.out.mono HB3.out.size)); have q4 := HQ.out _ HB4.out; have f4 := HF.out _ HB4.out) | (go_at_call 44; have _g := HO1; clear _g; refine HO1.out.mono ?_; rintro e w2 ⟨rfl, HB2'⟩; rw [W13.out]; have HB2 := Lib.hid (HB1.out.trans (HB2'.out.mono HB1.out.size)); have q2 := HQ.out _ HB2.out; have f2 := HF.out _ HB2.out; obtain ⟨w3, hw3, hb3, hblk3⟩ : ∃ w3, w2.alloc (.cells (wVals m p).toArray 22) = w3 ∧ Below wc.heap.size wc w3 ∧ Blk w3 w2.heap.size (wVals m p) 22 := ⟨_, rfl, HB2.out.alloc HB2.out.size _, heap_alloc_new w2 _⟩; have HB3 := Lib.hid hb3; have HBL3 := Lib.hid hblk3; have q3 := HQ.out _ hb3; have f3 := HF.out _ hb3; simp only [wVals] at hw3; clear hb3 hblk3))
    go_ret
    exact ⟨_, rfl, fun h => absurd h (by decide), Lib.hid (HBC.out.trans (HB8.out.mono HBC.out.size))⟩
  have d : (x0 == 0) = false := by simpa using d16
  have W16 := Lib.hid d16
  clear d16
  go_wp2_with (first | (go_at_call 44; have _g := HR7; clear _g; refine (out_any (sCat m) 0 1000 _ _ _ _ w7 HR7.out (HF.out _ HB7.out) rfl HLS.out.2).mono ?_; rintro e w8 ⟨rfl, HB8'⟩; rw [W15.out]; have HB8 := Lib.hid (HB7.out.trans (HB8'.out.mono HB7.out.size)); have q8 := HQ.out _ HB8.out; have f8 := HF.out _ HB8.out; have o8 := HO0.out _ HB8.out) | (go_at_call 48; have _g := HBL6; clear _g; refine (concat_s m p w6 (HD.out.below HB6.out) HLS.out.1 HLS.out.2 w5.heap.size HBL6.out).mono ?_; rintro e w7 ⟨g7, c7, rfl, HB7', HR7⟩; have HB7 := Lib.hid (HB6.out.trans (HB7'.out.mono HB6.out.size)); have q7 := HQ.out _ HB7.out; have f7 := HF.out _ HB7.out) | (go_at_call 44; have _g := HR4; clear _g; refine (out_any (wCat m) (-128) 127 _ _ _ _ w4 HR4.out (HF.out _ HB4.out) rfl HLN.out.2).mono ?_; rintro e w5 ⟨rfl, HB5'⟩; rw [W14.out]; have HB5 := Lib.hid (HB4.out.trans (HB5'.out.mono HB4.out.size)); have q5 := HQ.out _ HB5.out; have f5 := HF.out _ HB5.out; obtain ⟨w6, hw6, hb6, hblk6⟩ : ∃ w6, w5.alloc (.cells (sVals m p).toArray 22) = w6 ∧ Below wc.heap.size wc w6 ∧ Blk w6 w5.heap.size (sVals m p) 22 := ⟨_, rfl, HB5.out.alloc HB5.out.size _, heap_alloc_new w5 _⟩; have HB6 := Lib.hid hb6; have HBL6 := Lib.hid hblk6; have q6 := HQ.out _ hb6; have f6 := HF.out _ hb6; simp only [sVals, HA0.out] at hw6; clear hb6 hblk6) | (go_at_call 48; have _g := HBL3; clear _g; refine (concat_w m p w3 (HD.out.below HB3.out) HLN.out.1 HLN.out.2 w2.heap.size HBL3.out).mono ?_; rintro e w4 ⟨g4, c4, rfl, HB4', HR4⟩; have HB4 := Lib.hid (HB3.out.trans (HB4'.out.mono HB3.out.size)); have q4 := HQ.out _ HB4.out; have f4 := HF.out _ HB4.out) | (go_at_call 44; have _g := HO1; clear _g; refine HO1.out.mono ?_; rintro e w2 ⟨rfl, HB2'⟩; rw [W13.out]; have HB2 := Lib.hid (HB1.out.trans (HB2'.out.mono HB1.out.size)); have q2 := HQ.out _ HB2.out; have f2 := HF.out _ HB2.out; obtain ⟨w3, hw3, hb3, hblk3⟩ : ∃ w3, w2.alloc (.cells (wVals m p).toArray 22) = w3 ∧ Below wc.heap.size wc w3 ∧ Blk w3 w2.heap.size (wVals m p) 22 := ⟨_, rfl, HB2.out.alloc HB2.out.size _, heap_alloc_new w2 _⟩; have HB3 := Lib.hid hb3; have HBL3 := Lib.hid hblk3; have q3 := HQ.out _ hb3; have f3 := HF.out _ hb3; simp only [wVals] at hw3; clear hb3 hblk3))
  go_ret
  exact ⟨_, rfl, fun _ => MD.ok_iff (withinB_true W1.out) (withinB_true W2.out) (withinB_true W3.out) (withinB_true W4.out) Hc5.out Hc6.out HPL.out.1 HPL.out.2 HMX.out Hc10.out (withinB_true W11.out) (withinB_true W12.out) W13.out W14.out W15.out (by rw [← HX0.out]; exact W16.out), Lib.hid (HBC.out.trans (HB8.out.mono HBC.out.size))⟩
end Go.Proofs.YtplkchmcojnimaaGreatDoor
