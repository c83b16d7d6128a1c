/-
  models: Check of a model that is right.
  models: small functions: wrap, shift, row, dot, matrix, Max, Clone.
-/
import Derived.Test.YtdbhlkejfecffaaGreatDoorSa10
/-
  models: Check of a model that is right.
-/
namespace Go.Proofs.YtdbhlkejfecffaaGreatDoor
open Go.RowKit

theorem all_yes {l : List Int} {lo hi : Int} (h : ∀ x, x ∈ l → lo ≤ x ∧ x ≤ hi) : (l.all fun x => withinB x lo hi) = true :=
  List.all_eq_true.2 fun x hx => withinB_yes (h x hx)
theorem all_ok (l : List Int) (lo hi : Int) (h : ∀ x, x ∈ l → lo ≤ x ∧ x ≤ hi) (A : Option Addr) (n c : Nat) (w : World) (hr : Rd w (.slice A n c) l) (hn : n = l.length) (hl : l.length ≤ 1000) :
    Calls Tryz.prog 19 #[.slice A n c, .int .i64 lo, .int .i64 hi] w fun e w' => e = .returned (.bool true) ∧ Hid (Below w.heap.size w w') := by
  have := all_any l lo hi A n c w hr hn hl
  rwa [all_yes h] at this
def wLs (m : MD) : Nat → List Int
  | 0 => m.embed
  | 1 => m.place
  | 2 => m.mix
  | _ => m.out
def wPl (p : MP) : Nat → SP
  | 0 => p.embed
  | 1 => p.place
  | 2 => p.mix
  | _ => p.out
theorem four {P : Nat → Prop} (h0 : P 0) (h1 : P 1) (h2 : P 2) (h3 : P 3) : ∀ i, i < 4 → P i := by
  intro i hi
  have : i = 0 ∨ i = 1 ∨ i = 2 ∨ i = 3 := by omega
  rcases this with rfl | rfl | rfl | rfl
  · exact h0
  · exact h1
  · exact h2
  · exact h3
def wCat (m : MD) : List Int := catN (wLs m) 4
theorem wCat_mem {m : MD} {x : Int} : x ∈ wCat m ↔ x ∈ m.embed ∨ x ∈ m.place ∨ x ∈ m.mix ∨ x ∈ m.out := by
  simp only [wCat, catN, wLs, List.mem_append, List.not_mem_nil, false_or, or_assoc]
theorem wCat_in {m : MD} (h : m.Ok) (x : Int) (hx : x ∈ wCat m) : -128 ≤ x ∧ x ≤ 127 := by
  rcases wCat_mem.1 hx with a | a | a | a
  · exact h.embed' x a
  · exact h.place' x a
  · exact h.mix' x a
  · exact h.out' x a
theorem wCat_len (m : MD) : (wCat m).length = m.embed.length + m.place.length + m.mix.length + m.out.length := by
  simp only [wCat, catN, wLs, List.length_append, List.length_nil, Nat.zero_add]
theorem rd_own {w : World} {base n g c : Nat} {xs : List Int} (h : w.ownsRow base 3 1 (.slice (some ⟨g, 0, none⟩) n c) n (ints xs)) : Rd w (.slice (some ⟨g, 0, none⟩) n c) xs := rd_owned h
def wVals (m : MD) (p : MP) : List Value := [.slice p.embed.A m.embed.length p.embed.c, .slice p.place.A m.place.length p.place.c, .slice p.mix.A m.mix.length p.mix.c, .slice p.out.A m.out.length p.out.c]
theorem concat_w (m : MD) (p : MP) (w : World) (hd : MAt w m p) (hpos : 0 < m.embed.length ∧ 0 < m.place.length ∧ 0 < m.mix.length ∧ 0 < m.out.length) (htot : (wCat m).length ≤ 1000) (pb : Nat) (hp : Blk w pb (wVals m p) 22) :
    Calls Tryz.prog 28 #[.slice (some ⟨pb, 0, none⟩) 4 4] w fun e w' => ∃ g c, e = .returned (.slice (some ⟨g, 0, none⟩) (wCat m).length c) ∧ Hid (Below w.heap.size w w') ∧ Hid (Rd w' (.slice (some ⟨g, 0, none⟩) (wCat m).length c) (wCat m)) := by
  refine (concat_any 4 (by omega) (by omega) (wLs m) (wPl p) pb w (fun i hi => ?_) (four hd.embed hd.place hd.mix hd.out) (four hpos.1 hpos.2.1 hpos.2.2.1 hpos.2.2.2) htot).mono ?_
  · rw [hp.cell]
    exact four (P := fun i => (wVals m p)[i]? = some (.slice (wPl p i).A (wLs m i).length (wPl p i).c)) rfl rfl rfl rfl i hi
  · rintro e w1 ⟨g, c, rfl, hb, ho⟩
    exact ⟨g, c, rfl, hb, Lib.hid (rd_own ho.out)⟩
set_option maxRecDepth 100000 in
set_option maxHeartbeats 3200000 in
theorem check_ok (m : MD) (p : MP) (hm : m.Ok) (w : World) (h : MAt w m p) : Calls Tryz.prog 16 #[.agg (mCells m p).toArray] w fun e w' => e = .returned (.int .i64 0) ∧ Hid (Below w.heap.size w w') := by
  obtain ⟨wb, hwb, hbel, hblk⟩ : ∃ wb, w.alloc (.cells (mCells m p).toArray 27) = wb ∧ Below w.heap.size w wb ∧ Blk wb w.heap.size (mCells m p) 27 := ⟨_, rfl, (Below.refl _ _).alloc (Nat.le_refl _) _, heap_alloc_new w _⟩
  have hA := (h.below hbel).odds.at (i := 0) (by have := hm.odds; omega)
  obtain ⟨b0, o0, hA0, -⟩ := hA
  have HA0 := Lib.hid hA0
  have hodd : 0 < m.odds.length := by have := hm.odds; omega
  have HD := Lib.hid (h.below hbel)
  have HQ := Lib.hid (fun (wx : World) (hb : Below wb.heap.size wb wx) => (hblk.below hb).cell)
  have HO := Lib.hid (fun (wx : World) (hb : Below wb.heap.size wb wx) => show wx.cell? ⟨b0, o0, none⟩ = some (.int .i64 (m.odds.getD 0 0)) by
    obtain ⟨b, o, e, hc⟩ := ((h.below hbel).below hb).odds.at (i := 0) (by have := hm.odds; omega)
    rw [hA0] at e
    injection e with e
    injection e with e1 e2
    subst e1 e2
    exact hc)
  have q0 := hblk.cell
  have HB := Lib.hid hbel
  have HWB := Lib.hid hwb
  have HM := Lib.hid hm
  have HF := Lib.hid fun wx => formed_ok m p hm wx
  have HS := Lib.hid fun wx => sized_ok m.kind m.vocab m.width hm.kind hm.vocab hm.width wx
  have HT := Lib.hid (withinB_yes hm.top)
  have hne : (m.odds.getD 0 0 == 0) = false := by simpa using hm.odds0
  generalize m.odds.getD 0 0 = x0 at HO hne
  have hpos : 0 < m.embed.length ∧ 0 < m.place.length ∧ 0 < m.mix.length ∧ 0 < m.out.length := ⟨(hm.len 1 (by omega)).1, (hm.len 2 (by omega)).1, (hm.len 3 (by omega)).1, (hm.len 4 (by omega)).1⟩
  have htot : (wCat m).length ≤ 1000 := by
    have h1 := (hm.len 1 (by omega)).2; have h2 := (hm.len 2 (by omega)).2; have h3 := (hm.len 3 (by omega)).2; have h4 := (hm.len 4 (by omega)).2
    simp only [MD.lst] at h1 h2 h3 h4
    rw [wCat_len]; omega
  have HPOS := Lib.hid hpos
  have HTOT := Lib.hid htot
  clear hbel hblk h hm hpos htot
  simp only [mCells, hA0] at q0 HQ HF hwb ⊢
  clear hA0
  go_enter Tryz.func16, Tryz.ntmps16
  go_upto_region 1 with (fail)
  clear hwb
  go_upto_region 8 with (first | (go_at_call 26; refine (HS.out _).mono ?_; rintro e wz ⟨rfl, hz⟩; subst wz) | (go_at_call 17; refine (within_any _ _ _ _).mono ?_; rintro e wz ⟨rfl, hz⟩; subst wz; rw [HT.out]) | (go_at_call 27; refine (HF.out _).mono ?_; rintro e w1 ⟨rfl, HB1⟩; have q1 := HQ.out _ HB1.out))
  obtain ⟨w2, hw2, hb2, hblk2⟩ : ∃ w2, w1.alloc (.cells (wVals m p).toArray 22) = w2 ∧ Below wb.heap.size wb w2 ∧ Blk w2 w1.heap.size (wVals m p) 22 := ⟨_, rfl, HB1.out.alloc HB1.out.size _, heap_alloc_new w1 _⟩
  have HBL2 := Lib.hid hblk2
  have HB2 := Lib.hid hb2
  have HC := Lib.hid (concat_w m p w2 (HD.out.below hb2) HPOS.out HTOT.out w1.heap.size hblk2)
  have q2 := HQ.out w2 hb2
  simp only [wVals] at hw2
  clear hb2 hblk2 q0
  go_upto_region 9 with (first | (go_at_call 28; refine HC.out.mono ?_; rintro e w3 ⟨g3, c3, rfl, HB3', HR3⟩; have HB3 := Lib.hid (HB2.out.trans (HB3'.out.mono HB2.out.size)); have q3 := HQ.out _ HB3.out))
  clear q1 q2 hw2
  have HH1 := Lib.hid (all_ok m.cuts 1 15 HM.out.cuts' p.cuts.A m.cuts.length p.cuts.c w3 (HD.out.below HB3.out).cuts rfl (by have := HM.out.cuts; omega))
  go_wp2_with (first | (go_at_call 19; have _g := HB6; clear _g; refine (all_ok m.odds 0 1000 HM.out.odds' _ _ _ _ (show Rd w6 (.slice (some ⟨b0, o0, none⟩) m.odds.length p.odds.c) m.odds by rw [← HA0.out]; exact (HD.out.below HB6.out).odds) rfl (by have := HM.out.odds; omega)).mono ?_; rintro e w7 ⟨rfl, HB7'⟩; have HB7 := Lib.hid (HB6.out.trans (HB7'.out.mono HB6.out.size)); have q7 := HQ.out _ HB7.out; have o7 := HO.out _ HB7.out) | (go_at_call 19; have _g := HB5; clear _g; refine (all_ok m.soft 0 1000 HM.out.soft' _ _ _ _ (HD.out.below HB5.out).soft rfl (by have := HM.out.soft; omega)).mono ?_; rintro e w6 ⟨rfl, HB6'⟩; have HB6 := Lib.hid (HB5.out.trans (HB6'.out.mono HB5.out.size)); have q6 := HQ.out _ HB6.out) | (go_at_call 19; have _g := HB4; clear _g; refine (all_ok (wCat m) (-128) 127 (wCat_in HM.out) _ _ _ _ (HR3.out.below HB4'.out) rfl HTOT.out).mono ?_; rintro e w5 ⟨rfl, HB5'⟩; have HB5 := Lib.hid (HB4.out.trans (HB5'.out.mono HB4.out.size)); have q5 := HQ.out _ HB5.out) | (go_at_call 19; refine HH1.out.mono ?_; rintro e w4 ⟨rfl, HB4'⟩; have HB4 := Lib.hid (HB3.out.trans (HB4'.out.mono HB3.out.size)); have q4 := HQ.out _ HB4.out))
  go_ret
  exact ⟨rfl, Lib.hid (HB.out.trans (HB7.out.mono HB.out.size))⟩
end Go.Proofs.YtdbhlkejfecffaaGreatDoor
/-
  models: small functions: wrap, shift, row, dot, matrix, Max, Clone.
-/
namespace Go.Proofs.YtdbhlkejfecffaaGreatDoor
open Go.RowKit

theorem mwithin_yes (x lo hi : Int) (h : lo ≤ x ∧ x ≤ hi) (w : World) : Calls Tryz.prog 17 #[.int .i64 x, .int .i64 lo, .int .i64 hi] w fun e w' => e = .returned (.bool true) ∧ w' = w := by
  have := within_any x lo hi w
  rwa [withinB_yes h] at this
set_option maxRecDepth 100000 in
set_option maxHeartbeats 400000 in
theorem mword_yes (x : Int) (h : -2147483648 ≤ x ∧ x ≤ 2147483647) (w : World) : Calls Tryz.prog 18 #[.int .i64 x] w fun e w' => e = .returned (.bool true) ∧ w' = w := by
  go_enter Tryz.func18, Tryz.ntmps18
  go_wp2_with (go_at_call 17; refine (mwithin_yes _ _ _ h _).mono ?_; rintro e w1 ⟨rfl, rfl⟩)
  go_ret
  exact ⟨rfl, rfl⟩
set_option maxRecDepth 100000 in
set_option maxHeartbeats 400000 in
theorem mwrap_any (n : Int) (w : World) : Calls Tryz.prog 34 #[.int .i64 n] w fun e w' => e = .returned (.int .i64 (w32 n)) ∧ w' = w := by
  go_enter Tryz.func34, Tryz.ntmps34
  go_wp2
  go_ret
  exact ⟨rfl, rfl⟩
set_option maxRecDepth 100000 in
set_option maxHeartbeats 4000000 in
theorem mshift_any (n : Int) (k : Nat) (hk : 1 ≤ k ∧ k ≤ 15) (w : World) : Calls Tryz.prog 35 #[.int .i64 n, .int .i64 k] w fun e w' => e = .returned (.int .i64 (shiftI n k)) ∧ w' = w := by
  rcases (show k = 1 ∨ k = 2 ∨ k = 3 ∨ k = 4 ∨ k = 5 ∨ k = 6 ∨ k = 7 ∨ k = 8 ∨ k = 9 ∨ k = 10 ∨ k = 11 ∨ k = 12 ∨ k = 13 ∨ k = 14 ∨ k = 15 by omega) with h | h | h | h | h | h | h | h | h | h | h | h | h | h | h <;> subst h <;> clear hk <;>
    (go_enter Tryz.func35, Tryz.ntmps35
     go_wp2
     go_ret
     exact ⟨rfl, rfl⟩)
set_option maxRecDepth 100000 in
set_option maxHeartbeats 400000 in
theorem mrow_any (b o c n k W : Nat) (hW : 1 ≤ W ∧ W ≤ 100) (hk : W * (k + 1) ≤ n) (hn : n ≤ c) (hc : n ≤ 1000) (w : World) : Calls Tryz.prog 32 #[.slice (some ⟨b, o, none⟩) n c, .int .i64 k, .int .i64 W] w fun e w' => e = .returned (.slice (some ⟨b, o + W * k, none⟩) W (c - W * k)) ∧ w' = w := by
  rw [Nat.mul_add, Nat.mul_one] at hk
  have hkk : k ≤ W * k := Nat.le_mul_of_pos_left k (by omega)
  have e1 : IntKind.i64.wrap ((k : Int) * W) = ((W * k : Nat) : Int) := by rw [Int.mul_comm, ← Int.natCast_mul, IntWalk.i64_in _ (by omega)]
  have e2 : IntKind.i64.wrap ((k : Int) + 1) = ((k + 1 : Nat) : Int) := by rw [IntWalk.i64_in _ (by omega)]; omega
  have hm : ((k : Int) + 1) * (W : Int) = ((W * k + W : Nat) : Int) := by rw [Int.add_mul, Int.one_mul, Int.natCast_add, Int.natCast_mul, Int.mul_comm]
  have e3 : wrap64 (((k : Int) + 1) * W) = ((W * k + W : Nat) : Int) := by rw [hm, wrap64_in (by omega)]
  have h1 : ¬ c = W * k := by omega
  have he : W * k + W - W * k = W := by omega
  have HE := Lib.hid he
  generalize hp : W * k = p at *
  clear he hm hkk hp
  go_enter Tryz.func32, Tryz.ntmps32
  go_wp2
  go_ret
  exact ⟨by show Ending.returned (.slice _ (p + W - p) _) = _; rw [HE.out], rfl⟩
set_option maxRecDepth 100000 in
set_option maxHeartbeats 800000 in
theorem mdot_any (l m : List Int) (b o c b2 o2 c2 n1 n2 : Nat) (w : World) (ha : RdAt w b o c l) (hb : RdAt w b2 o2 c2 m) (hn1 : n1 = l.length) (hn2 : n2 = m.length) (hlm : n1 ≤ n2) (hl : n1 ≤ 1000) :
    Calls Tryz.prog 36 #[.slice (some ⟨b, o, none⟩) n1 c, .slice (some ⟨b2, o2, none⟩) n2 c2] w fun e w' => e = .returned (.int .i64 (dotI l m)) ∧ ∃ k, w' = w.drewN k := by
  subst hn1 hn2
  have HA := Lib.hid ha
  have HB := Lib.hid hb
  clear ha hb
  go_enter Tryz.func36, Tryz.ntmps36
  go_wp2
  go_loopg [5, 9] l.length (fun gk s5 s9 wx => ∃ i nq : Nat, s9 = .int .i64 i ∧ i ≤ l.length ∧ s5 = .int .i64 (dotTo l m i) ∧ wx = w.drewN nq ∧ gk = l.length - i)
  case atStart => exact ⟨0, 0, rfl, Nat.zero_le _, rfl, rfl, rfl⟩
  case round =>
    obtain ⟨i, nq, rfl, hil, rfl, hwx, rfl⟩ := hrel
    have HA1 := Lib.hid (show RdAt wr b o c l by rw [hwx]; exact HA.out.drewN nq)
    have HB1 := Lib.hid (show RdAt wr b2 o2 c2 m by rw [hwx]; exact HB.out.drewN nq)
    have HWX := Lib.hid hwx
    clear hwx
    by_cases hlt : i < l.length
    · have c1 := HA1.out.2.2 i hlt
      have c2 := HB1.out.2.2 i (by omega)
      have t1 : ((i : Nat) : Int) < (m.length : Int) := by omega
      have hd : dotTo l m (i + 1) = w32 (wrap64 (dotTo l m i + w32 (wrap64 (l.getD i 0 * m.getD i 0)))) := rfl
      have HD := Lib.hid hd
      clear hd
      generalize l.getD i 0 = x at c1 HD
      generalize m.getD i 0 = y at c2 HD
      generalize dotTo l m i = z at HD ⊢
      go_upto_region 5 with fail
      go_quiet ((go_at_call 34; exact Calls.quiet_of_same (mwrap_any _ _)))
      go_wp2
      go_roundg (l.length - (i + 1))
      case measure => omega
      case rel => exact ⟨i + 1, _, by go_num, by omega, by rw [HD.out], by rw [HWX.out, World.drewN_drewN], rfl⟩
    · have : i = l.length := by omega
      subst this
      go_wp2
      go_ret
      exact ⟨rfl, _, HWX.out⟩
set_option maxRecDepth 100000 in
set_option maxHeartbeats 400000 in
theorem mmatrix_any (m : MD) (p : MPl) (W k : Nat) (hW : m.width = W) (hW1 : 1 ≤ W ∧ W ≤ 5) (hk : W * W * (k + 1) ≤ m.mix.length) (hc : m.mix.length ≤ p.mix.c) (hl : m.mix.length ≤ 1000) (w : World) : Calls Tryz.prog 37 #[.agg (modC m p).toArray, .int .i64 k] w fun e w' => e = .returned (.slice (some ⟨p.mix.b, p.mix.o + W * W * k, none⟩) (W * W) (p.mix.c - W * W * k)) ∧ Below w.heap.size w w' := by
  have hb : ∀ o, Below w.heap.size w (w.alloc o) := fun o => (Below.refl _ _).alloc (Nat.le_refl _) o
  have HB := Lib.hid hb
  have hww : W * W ≤ 5 * 5 := Nat.mul_le_mul hW1.2 hW1.2
  have hww1 : 1 * 1 ≤ W * W := Nat.mul_le_mul hW1.1 hW1.1
  have e1 : IntKind.i64.wrap ((W : Int) * W) = ((W * W : Nat) : Int) := by rw [← Int.natCast_mul, IntWalk.i64_in _ (by omega)]
  have HR := Lib.hid (fun wx => mrow_any p.mix.b p.mix.o p.mix.c m.mix.length k (W * W) (by omega) hk hc hl wx)
  generalize W * W = q at *
  clear hb hww hww1 hW1 hk hc hl
  simp only [modC, hW]
  clear hW
  go_enter Tryz.func37, Tryz.ntmps37
  go_wp2_with (go_at_call 32; refine (HR.out _).mono ?_; rintro e w1 ⟨rfl, rfl⟩)
  go_ret
  exact ⟨rfl, HB.out _⟩
set_option maxRecDepth 100000 in
set_option maxHeartbeats 800000 in
theorem imax_any (l : List Int) (b o c n : Nat) (hn : n = l.length) (h0 : 0 < n) (hl : n ≤ 1000) (w : World) (hr : RdAt w b o c l) :
    Calls Tryz.prog 47 #[.slice (some ⟨b, o, none⟩) n c] w fun e w' => e = .returned (.int .i64 (maxI l)) ∧ w' = w := by
  subst hn
  have H := Lib.hid hr
  have c0 := hr.2.2 0 h0
  rw [Nat.add_zero] at c0
  have t1 : ¬ ((l.length : Nat) : Int) < 1 := by omega
  have t2 : decide ((l.length : Int) < 1) = false := decide_eq_false (by omega)
  clear hr
  have HM0 := Lib.hid (show l.getD 0 0 = maxTo l 0 from rfl)
  generalize l.getD 0 0 = x0 at c0 HM0
  go_enter Tryz.func47, Tryz.ntmps47
  go_wp2
  go_loopg [3, 4] (l.length - 1) (fun gk s3 s4 wx => ∃ i : Nat, s4 = .int .i64 ((i + 1 : Nat) : Int) ∧ i + 1 ≤ l.length ∧ s3 = .int .i64 (maxTo l i) ∧ wx = w ∧ gk = l.length - (i + 1))
  case atStart => exact ⟨0, rfl, by omega, by rw [HM0.out], rfl, rfl⟩
  case round =>
    obtain ⟨i, rfl, hil, rfl, rfl, rfl⟩ := hrel
    by_cases hlt : i + 1 < l.length
    · have c1 := H.out.2.2 (i + 1) hlt
      have hd : maxTo l (i + 1) = max (maxTo l i) (l.getD (i + 1) 0) := rfl
      have HD := Lib.hid hd
      clear hd c0
      generalize l.getD (i + 1) 0 = x at c1 HD
      generalize maxTo l i = z at HD ⊢
      by_cases hx : x ≤ z
      · have hm : max z x = z := by omega
        have HM := Lib.hid hm
        clear hm
        go_wp2
        go_roundg (l.length - (i + 2))
        case measure => omega
        case rel => exact ⟨i + 1, by go_num, by omega, by rw [HD.out, HM.out], rfl, rfl⟩
      · have hm : max z x = x := by omega
        have HM := Lib.hid hm
        clear hm
        go_wp2
        go_roundg (l.length - (i + 2))
        case measure => omega
        case rel => exact ⟨i + 1, by go_num, by omega, by rw [HD.out, HM.out], rfl, rfl⟩
    · have : i = l.length - 1 := by omega
      subst this
      clear c0
      go_wp2
      go_ret
      exact ⟨rfl, rfl⟩
theorem make_ints (n : Nat) (hn : n ≤ 1000) (w : World) : Sem.run Tryz.prog (Instr.makeSlice 22 (.int .i64 (n : Int)) (.int .i64 (n : Int))) w = .ok (.slice (some ⟨w.heap.size, 0, none⟩) n n) (w.alloc (.cells (ints (List.replicate n 0)).toArray 3)) := by
  obtain ⟨i0, hi, hz0, hz1, hz2⟩ := info_parts info3
  have h := run_makeSlice (P := Tryz.prog) w 22 3 i0 (.int .i64 0) Tryz.underlying22 hi hz0 .i64 .i64 (n : Int) (n : Int) (by omega) (by omega) (by rw [hz1]; omega) (by rw [hz2]; omega) (by omega)
  have e : madeCells (Value.int .i64 0).cells (((n : Int)).toNat * i0.size) = (ints (List.replicate n 0)).toArray := by
    rw [hz1]
    apply Array.ext
    · simp [size_madeCells, ints]
    · intro j h1 h2
      simp [madeCells, ints, Value.cells, Nat.mod_one]
  rw [e] at h
  exact h
/-- A copy in a block of its own, whole. -/
theorem iclone_blk (l : List Int) (b o c n : Nat) (hn : n = l.length) (w : World) (h : RdAt w b o c l) (h0 : 0 < n) (h1 : n ≤ 1000) :
    Calls Tryz.prog 31 #[.slice (some ⟨b, o, none⟩) n c] w fun e w' => ∃ g c' rest, e = .returned (.slice (some ⟨g, 0, none⟩) n c') ∧ Hid (Below w.heap.size w w') ∧ Hid (Blk w' g (ints l ++ rest) 3 ∧ w.heap.size ≤ g ∧ n ≤ c' ∧ c' ≤ maxLen) := by
  subst hn
  refine (Tryz.slices_Clone_int b o l.length c l w (Nat.le_refl _) (by omega) h.2.2).mono ?_
  rintro e w1 ⟨v, rfl, ho, -, hb⟩
  rw [List.take_length] at ho
  rcases ho.2 with ⟨_, h⟩ | ⟨g, cap, cur, hv, h3, h4, h5, h6, h7, h8⟩
  · omega
  · refine ⟨g, cap, cur.toList.drop l.length, by rw [hv], Lib.hid hb, Lib.hid ⟨?_, h3, h5, h6⟩⟩
    unfold Blk
    have : ints l ++ cur.toList.drop l.length = cur.toList := by
      have h9 : cur.toList.take (l.length * 1) = ints l := h8
      rw [← h9, Nat.mul_one, List.take_append_drop]
    rw [this]; exact h4
theorem ints_set (l : List Int) (k : Nat) (x : Int) : (ints l).set k (.int .i64 x) = ints (l.set k x) := by simp [ints, List.map_set]
theorem wrapEq (x : Int) : IntKind.i64.wrap x = wrap64 x := by rw [IntKind.wrap_i64]; unfold wrap64; omega
theorem RdAt.grown {w w' : World} {row : Option Nat} (hg : w.grownBy w' row) {b o c : Nat} {l : List Int} (h : RdAt w b o c l) (hne : some b ≠ row) : RdAt w' b o c l := by
  by_cases h0 : 0 < l.length
  · have hlt := h.lt h0
    refine ⟨h.1, h.2.1, fun i hi => ?_⟩
    rw [World.cell?_of_block (a := ⟨b, o + i, none⟩) (w := w) (hg.block b hlt hne)]
    exact h.2.2 i hi
  · exact ⟨h.1, h.2.1, fun i hi => absurd hi (by omega)⟩
theorem rdat_own {w : World} {base g c : Nat} {n : Nat} {l : List Int} (h : w.ownsRow base 3 1 (.slice (some ⟨g, 0, none⟩) n c) n (ints l)) : RdAt w g 0 c l := by
  obtain ⟨A, c', hv, h1, h2, h3⟩ := rd_owned h
  have hl : l.length = n := by have := h.1; rw [ints_length] at this; omega
  injection hv with e1 e2 e3
  subst e3
  refine ⟨h1, h2, fun i hi => ?_⟩
  obtain ⟨b, o, hA, hc⟩ := h3 (by omega)
  rw [← e1] at hA
  injection hA with hA
  injection hA with a1 a2
  subst a1 a2
  rw [hc i hi]; simp [List.getD, hi]
end Go.Proofs.YtdbhlkejfecffaaGreatDoor
