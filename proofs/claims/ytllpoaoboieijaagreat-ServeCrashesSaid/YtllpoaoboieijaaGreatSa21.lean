/-
  Models: sample, next, Next.
-/
import Derived.Test.YtllpoaoboieijaaGreatSa20
/-
  Models: sample, next, Next.
-/
namespace Go.Proofs.YtllpoaoboieijaaGreat
open Go.RowKit

def sumTo (l : List Int) : Nat → Int
  | 0 => 0
  | i + 1 => sumTo l i + l.getD i 0
def smpL : List Int → Int → Nat
  | [], _ => 0
  | x :: xs, a => if x ≤ a then 1 + smpL xs (a - x) else 0
def sumL : List Int → Int
  | [] => 0
  | x :: xs => x + sumL xs
theorem sumTo_drop (l : List Int) (n : Nat) (h : n ≤ l.length) : sumTo l n + sumL (l.drop n) = sumL l := by
  induction n with
  | zero => simp [sumTo]
  | succ n ih =>
    have := ih (by omega)
    rw [List.drop_eq_getElem_cons (by omega : n < l.length)] at this
    simp only [sumL] at this
    simp only [sumTo, List.getD, List.getElem?_eq_getElem (by omega : n < l.length), Option.getD_some]
    omega
theorem sumL_nonneg (l : List Int) (h : ∀ x, x ∈ l → 0 ≤ x) : 0 ≤ sumL l := by
  induction l with
  | nil => simp [sumL]
  | cons a l ih => simp only [sumL]; have := h a (by simp); have := ih (fun x hx => h x (by simp [hx])); omega
theorem sumTo_bnd (l : List Int) (n : Nat) (h : ∀ x, x ∈ l → 0 ≤ x ∧ x ≤ 1000) : 0 ≤ sumTo l n ∧ sumTo l n ≤ 1000 * n := by
  induction n with
  | zero => simp [sumTo]
  | succ n ih =>
    simp only [sumTo]
    have : 0 ≤ l.getD n 0 ∧ l.getD n 0 ≤ 1000 := by
      by_cases hn : n < l.length
      · rw [show l.getD n 0 = l[n] by simp [List.getD, hn]]; exact h _ (List.getElem_mem _)
      · rw [show l.getD n 0 = 0 by simp [List.getD, List.getElem?_eq_none (by omega : l.length ≤ n)]]; omega
    omega
theorem smpL_lt (l : List Int) (h : ∀ x, x ∈ l → 0 ≤ x) : ∀ a : Int, 0 ≤ a → a < sumL l → smpL l a < l.length := by
  induction l with
  | nil => intro a h0 ha; simp only [sumL] at ha; omega
  | cons x l ih =>
    intro a h0 ha
    simp only [sumL] at ha
    simp only [smpL, List.length_cons]
    split
    · have := ih (fun y hy => h y (by simp [hy])) (a - x) (by omega) (by omega); omega
    · omega
def smpI (l : List Int) (draw : Int) : Nat := smpL l (draw * sumL l / 4294967296)

set_option maxRecDepth 100000 in
set_option maxHeartbeats 1600000 in
theorem sample_any (b o c n : Nat) (l : List Int) (hn : n = l.length) (hl : n ≤ 64) (hin : ∀ x, x ∈ l → 0 ≤ x ∧ x ≤ 1000) (hpos : 0 < sumL l) (draw : Int) (hd : 0 ≤ draw ∧ draw ≤ 4294967295) (w : World) (hr : RdAt w b o c l) :
    Calls Tryz.prog 82 #[.slice (some ⟨b, o, none⟩) n c, .int .i64 draw] w fun e w' => e = .returned (.int .i64 (smpI l draw)) ∧ w' = w := by
  subst hn
  have HR := Lib.hid hr
  have HIN := Lib.hid hin
  have HPOS := Lib.hid hpos
  have HL := Lib.hid hl
  have hs := sumTo_drop l l.length (Nat.le_refl _)
  rw [List.drop_length] at hs
  have hs' : sumTo l l.length = sumL l := by simpa [sumL] using hs
  have HS := Lib.hid hs'
  have HD := Lib.hid hd
  clear hr hin hpos hl hs hs' hd
  go_enter Tryz.func82, Tryz.ntmps82
  go_wp2
  go_loopg [5, 12] l.length (fun gk s5 s12 wx => ∃ k : Nat, s12 = .int .i64 k ∧ k ≤ l.length ∧ s5 = .int .i64 (sumTo l k) ∧ wx = w ∧ gk = l.length - k)
  case atStart => exact ⟨0, rfl, by omega, rfl, rfl, rfl⟩
  case round =>
    obtain ⟨k, rfl, hk, rfl, hw0, rfl⟩ := hrel
    subst wr
    by_cases hlt : k < l.length
    · have c1 := HR.out.2.2 k hlt
      have b1 := sumTo_bnd l (k + 1) HIN.out
      have hk64 : k < 64 := by have := HL.out; omega
      have e1 : IntKind.i64.wrap (sumTo l k + l.getD k 0) = sumTo l (k + 1) := IntWalk.i64_in _ (by show _ ≤ sumTo l (k + 1) ∧ sumTo l (k + 1) ≤ _; omega)
      have e1' : wrap64 (sumTo l k + l.getD k 0) = sumTo l (k + 1) := by rw [← wrapEq]; exact e1
      generalize hs1 : sumTo l (k + 1) = s1 at e1 e1' b1
      generalize l.getD k 0 = x at c1 e1 e1'
      have HS1 := Lib.hid hs1
      clear hs1
      go_wp2
      go_roundg (l.length - (k + 1))
      case measure => omega
      case rel => exact ⟨k + 1, by go_num, by omega, by rw [HS1.out], rfl, rfl⟩
    · have : k = l.length := by omega
      subst this
      rw [HS.out]
      have hT := HPOS.out
      have hT2 : sumL l ≤ 64000 := by rw [← HS.out]; have := (sumTo_bnd l l.length HIN.out).2; have := HL.out; omega
      have hd := HD.out
      have hm1 : 0 ≤ draw * sumL l := Int.mul_nonneg hd.1 (by omega)
      have hm2 : draw * sumL l ≤ 4294967295 * sumL l := Int.mul_le_mul_of_nonneg_right hd.2 (by omega)
      have HA := Lib.hid (show smpI l draw = smpL l (draw * sumL l / 4294967296) from rfl)
      have e2 : wrap64 (draw * sumL l) = draw * sumL l := by unfold wrap64; omega
      have e2' : IntKind.i64.wrap (draw * sumL l) = draw * sumL l := by rw [wrapEq, e2]
      have ha0 : 0 ≤ draw * sumL l / 4294967296 := by omega
      have ha1 : draw * sumL l / 4294967296 < sumL l := by omega
      have HAA := Lib.hid (And.intro ha0 ha1)
      clear hT hT2 hd hm1 hm2 ha0 ha1
      generalize hmm : draw * sumL l = mm at e2 e2' HA HAA
      go_wp2
      generalize mm / 4294967296 = a0 at HA HAA ⊢
      go_loopg [8, 9] l.length (fun gk s8 s9 wx => ∃ (t : Nat) (a : Int), s9 = .int .i64 t ∧ s8 = .int .i64 a ∧ Hid (t < l.length ∧ 0 ≤ a ∧ a < sumL (l.drop t) ∧ t + smpL (l.drop t) a = smpI l draw) ∧ wx = w ∧ gk = l.length - t)
      case atStart => exact ⟨0, a0, rfl, rfl, Lib.hid ⟨by
        rcases Nat.eq_zero_or_pos l.length with h | h
        · have : l = [] := List.length_eq_zero_iff.1 h
          rw [this] at HAA; have := HAA.out; simp only [sumL] at this; omega
        · exact h, HAA.out.1, by simpa using HAA.out.2, by rw [HA.out]; simp⟩, rfl, rfl⟩
      case round =>
        obtain ⟨t, a, rfl, rfl, HT, hw0, rfl⟩ := hrel
        subst wr
        have htl := HT.out.1
        have c1 := HR.out.2.2 t htl
        have hdr := List.drop_eq_getElem_cons htl
        have hx : l.getD t 0 = l[t] := by simp [List.getD, htl]
        rw [← hx] at hdr
        have HDR := Lib.hid hdr
        have hxb : 0 ≤ l.getD t 0 ∧ l.getD t 0 ≤ 1000 := by rw [hx]; exact HIN.out _ (List.getElem_mem _)
        have HXB := Lib.hid hxb
        have hl64 := HL.out
        clear hdr hx hxb
        generalize l.getD t 0 = x at c1 HDR HXB
        by_cases hc : x ≤ a
        · have hsum := sumL_nonneg (l.drop (t + 1)) (fun y hy => (HIN.out y (List.mem_of_mem_drop hy)).1)
          have h3 := HT.out.2.2.1
          rw [HDR.out] at h3
          simp only [sumL] at h3
          have h4 := HT.out.2.2.2
          rw [HDR.out] at h4
          simp only [smpL, if_pos hc] at h4
          have htl2 : t + 1 < l.length := by
            rcases Nat.lt_or_ge (t + 1) l.length with h | h
            · exact h
            · rw [List.drop_eq_nil_of_le h] at h3; simp only [sumL] at h3; omega
          have h5 := HT.out.2.1
          have h6 : a < 9223372036854775807 := by
            have := sumTo_drop l (t + 1) (by omega)
            have := sumTo_bnd l (t + 1) HIN.out
            have := (sumTo_bnd l l.length HIN.out).2
            rw [HS.out] at this
            have := HXB.out
            omega
          have e3 : IntKind.i64.wrap (a - x) = a - x := IntWalk.i64_in _ (by have := HXB.out; omega)
          have e3' : wrap64 (a - x) = a - x := by rw [← wrapEq]; exact e3
          have HN := Lib.hid (show t + 1 < l.length ∧ 0 ≤ a - x ∧ a - x < sumL (l.drop (t + 1)) ∧ t + 1 + smpL (l.drop (t + 1)) (a - x) = smpI l draw from ⟨htl2, by omega, by omega, by omega⟩)
          clear h3 h4 h6 hsum
          go_wp2
          go_roundg (l.length - (t + 1))
          case measure => omega
          case rel => exact ⟨t + 1, a - x, by go_num, by first | rfl | rw [e3] | rw [e3'], HN, rfl, rfl⟩
        · have hc' : decide (x ≤ a) = false := decide_eq_false hc
          have h4 := HT.out.2.2.2
          rw [HDR.out] at h4
          simp only [smpL, if_neg hc] at h4
          have H4 := Lib.hid (show t = smpI l draw by omega)
          clear h4
          go_wp2
          go_ret
          exact ⟨by rw [← H4.out]; rfl, rfl⟩

theorem wtL_in (sl : List Int) : ∀ x, x ∈ wtL sl → 0 ≤ x ∧ x ≤ 1000 := by
  intro x hx
  simp only [wtL, List.mem_map] at hx
  obtain ⟨v, -, rfl⟩ := hx
  unfold wtJ
  generalize (min ((maxI sl - sl.getD v 0) / 8) 5).toNat = k
  have h : ∀ x, x ∈ demoM.odds → 0 ≤ x ∧ x ≤ 1000 := by decide
  by_cases hk : k < demoM.odds.length
  · rw [show demoM.odds.getD k 0 = demoM.odds[k] by simp [List.getD, hk]]; exact h _ (List.getElem_mem _)
  · rw [show demoM.odds.getD k 0 = 0 by simp [List.getD, List.getElem?_eq_none (by omega : demoM.odds.length ≤ k)]]; omega
theorem sumL_mem (l : List Int) (h : ∀ x, x ∈ l → 0 ≤ x) {x : Int} (hx : x ∈ l) : x ≤ sumL l := by
  induction l with
  | nil => cases hx
  | cons a l ih =>
    simp only [sumL]
    have h0 := h a (by simp)
    have h1 := sumL_nonneg l (fun y hy => h y (by simp [hy]))
    rcases List.mem_cons.1 hx with rfl | hm
    · omega
    · have := ih (fun y hy => h y (by simp [hy])) hm; omega
theorem wtL_pos (sl : List Int) (hl : sl.length = 8) : 0 < sumL (wtL sl) := by
  obtain ⟨i, hi, e⟩ := maxTo_mem sl (sl.length - 1) (by omega)
  have hm : wtJ sl i ∈ wtL sl := List.mem_map_of_mem (List.mem_range.2 (by omega))
  have h32 : wtJ sl i = 32 := by
    unfold wtJ maxI
    rw [e, Int.sub_self]; decide
  have := sumL_mem (wtL sl) (fun x hx => (wtL_in sl x hx).1) hm
  omega

/-- The token that is made of n entries and a draw. -/
def tokI (es : Nat → List Int) (n : Nat) (draw : Int) : Nat := smpI (wtL (scTo (attOut es n) 8)) draw
theorem tokI_lt (es : Nat → List Int) (n : Nat) (draw : Int) (hd : 0 ≤ draw ∧ draw ≤ 4294967295) : tokI es n draw < 8 := by
  have hp := wtL_pos (scTo (attOut es n) 8) (scTo_len _ _)
  have h0 := Int.mul_nonneg hd.1 (Int.le_of_lt hp)
  have h1 : draw * sumL (wtL (scTo (attOut es n) 8)) ≤ 4294967295 * sumL (wtL (scTo (attOut es n) 8)) := Int.mul_le_mul_of_nonneg_right hd.2 (by omega)
  have := smpL_lt (wtL (scTo (attOut es n) 8)) (fun x hx => (wtL_in _ x hx).1) (draw * sumL (wtL (scTo (attOut es n) 8)) / 4294967296) (by omega) (by omega)
  have hl : (wtL (scTo (attOut es n) 8)).length = 8 := by simp [wtL]
  unfold tokI smpI
  omega

set_option maxRecDepth 100000 in
set_option maxHeartbeats 1600000 in
theorem next_any (p : MPl) (b o c n : Nat) (es : Nat → List Int) (P : Nat → Pl) (hn : 0 < n) (hn2 : n ≤ 64) (draw : Int) (hd : 0 ≤ draw ∧ draw ≤ 4294967295) (w : World) (h : DemoAt w p) (he : EntsAt w b o n es P) :
    Calls Tryz.prog 45 #[.agg (demoCells p).toArray, .slice (some ⟨b, o, none⟩) n c, .int .i64 draw] w fun e w' => e = .returned (.int .i64 (tokI es n draw)) ∧ Below w.heap.size w w' := by
  obtain ⟨wb, hwb, hbel, hblk⟩ : ∃ wb, w.alloc (.cells (demoCells p).toArray 27) = wb ∧ Below w.heap.size w wb ∧ Blk wb w.heap.size (demoCells p) 27 := ⟨_, rfl, (Below.refl _ _).alloc (Nat.le_refl _) _, heap_alloc_new w _⟩
  have HQ := Lib.hid (fun (wx : World) (hb : Below wb.heap.size wb wx) => (hblk.below hb).cell)
  have q0 := hblk.cell
  have HB := Lib.hid hbel
  have HWB := Lib.hid hwb
  have HD := Lib.hid (h.below hbel)
  have HE := Lib.hid (he.below hbel)
  have HA := Lib.hid (scores_any p b o c n es P hn hn2 wb.drew (h.below hbel.drew) (he.below hbel.drew))
  have HW := Lib.hid (fun (wx : World) (hb : Below wb.heap.size wb wx) (sb sc : Nat) (hs : RdAt wx sb 0 sc (scTo (attOut es n) 8)) => weights_any p sb 0 sc (scTo (attOut es n) 8) (scTo_len _ _) (scTo_in _ _) wx ((h.below hbel).below hb) hs)
  have HS := Lib.hid (fun (wx : World) (sb : Nat) (hs : RdAt wx sb 0 8 (wtL (scTo (attOut es n) 8))) => sample_any sb 0 8 8 (wtL (scTo (attOut es n) 8)) (by simp [wtL]) (by omega) (wtL_in _) (wtL_pos _ (scTo_len _ _)) draw hd wx hs)
  clear hbel hblk h he hd
  simp only [demoCells] at q0 HQ HA HW hwb ⊢
  go_enter Tryz.func45, Tryz.ntmps45
  go_upto_region 1 with fail
  go_region_held3 (fun wy : World => (∀ o, wy.cell? ⟨w.heap.size, o, none⟩ = ([Value.int .i64 1, .int .i64 8, .int .i64 4, .int .i64 8, .slice (some ⟨p.cuts.b, p.cuts.o, none⟩) 4 p.cuts.c, .slice (some ⟨p.embed.b, p.embed.o, none⟩) 32 p.embed.c, .slice (some ⟨p.place.b, p.place.o, none⟩) 16 p.place.c, .slice (some ⟨p.mix.b, p.mix.o, none⟩) 48 p.mix.c, .slice (some ⟨p.out.b, p.out.o, none⟩) 32 p.out.c, .slice (some ⟨p.soft.b, p.soft.o, none⟩) 7 p.soft.c, .slice (some ⟨p.odds.b, p.odds.o, none⟩) 6 p.odds.c] : List Value)[o]?)) (first | exact HQ.out _ HB3.out | exact HQ.out _ HB2.out | exact q0) (first
    | (go_at_call 82; refine (HS.out _ _ HR3.out).mono ?_; rintro e wz ⟨rfl, hz⟩; subst wz; dsimp only)
    | (go_at_call 83; refine (HW.out _ HB2.out _ _ HR2.out).mono ?_; rintro e w3 ⟨g3, rfl, HB3', HR3⟩; have HB3 := Lib.hid (HB2.out.trans (HB3'.out.mono HB2.out.size)); dsimp only)
    | (go_at_call 84; refine HA.out.mono ?_; rintro e w2 ⟨g2, c2, rfl, HB2', HR2⟩; have HB2 := Lib.hid (below_undrew HB2'.out); dsimp only))
  go_wp2
  go_ret
  exact ⟨rfl, HB.out.trans (HB3.out.mono HB.out.size)⟩

set_option maxRecDepth 100000 in
set_option maxHeartbeats 1600000 in
theorem entriesOK_any (p : MPl) (b o c n : Nat) (es : Nat → List Int) (P : Nat → Pl) (hn : 0 < n) (hn2 : n ≤ 64) (hin : ∀ i, i < n → ∀ x, x ∈ es i → -2147483648 ≤ x ∧ x ≤ 2147483647) (w : World) (he : EntsAt w b o n es P) :
    Calls Tryz.prog 116 #[.agg (demoCells p).toArray, .slice (some ⟨b, o, none⟩) n c] w fun e w' => e = .returned (.int .i64 0) ∧ Below w.heap.size w w' := by
  obtain ⟨wb, hwb, hbel, hblk⟩ : ∃ wb, w.alloc (.cells (demoCells p).toArray 27) = wb ∧ Below w.heap.size w wb ∧ Blk wb w.heap.size (demoCells p) 27 := ⟨_, rfl, (Below.refl _ _).alloc (Nat.le_refl _) _, heap_alloc_new w _⟩
  have HQ := Lib.hid (fun (wx : World) (hb : Below wb.heap.size wb wx) => (hblk.below hb).cell)
  have q0 := hblk.cell
  have HB := Lib.hid hbel
  have HWB := Lib.hid hwb
  have HE := Lib.hid (he.below hbel)
  have HIN := Lib.hid hin
  have HL := Lib.hid (fun wx : World => length_any p wx)
  have t1 : ((n : Int) == 0) = false := by simp; omega
  have t2 : decide ((n : Int) > 64) = false := decide_eq_false (by omega)
  have t3 : ¬ (n : Int) > 64 := by omega
  have t4 : ¬ (n : Int) = 0 := by omega
  clear hbel hblk he hin
  simp only [demoCells] at q0 HQ HL hwb ⊢
  go_enter Tryz.func116, Tryz.ntmps116
  go_wp2
  go_loopg [15] n (fun gk s15 wx => ∃ k : Nat, s15 = .int .i64 k ∧ k ≤ n ∧ Hid (Below wb.heap.size wb wx) ∧ gk = n - k)
  case atStart => exact ⟨0, rfl, by omega, Lib.hid (Below.refl _ _), rfl⟩
  case round =>
    obtain ⟨k, rfl, hk, HB2, rfl⟩ := hrel
    by_cases hlt : k < n
    · have q2 := HQ.out _ HB2.out
      have c1 := (HE.out.below HB2.out).cell k hlt
      have HC := Lib.hid (fun (wx : World) (hb : Below wr.heap.size wr wx) => (by
        have := ent_has (es k) (-2147483648) 2147483647 (HIN.out k hlt) (by omega) (P k).b (P k).o (P k).c (by rw [HE.out.len k hlt]; omega) wx (((HE.out.below HB2.out).below hb).rd k hlt)
        rw [HE.out.len k hlt] at this
        exact this : Calls Tryz.prog 62 #[.slice (some ⟨(P k).b, (P k).o, none⟩) 12 (P k).c, .func (.func 127) #[] #[]] wx fun e w' => e = .returned (.bool false) ∧ w' = wx))
      clear q0
      go_wp2_with (first | (go_at_call 126; refine (HL.out _).mono ?_; rintro e w3 ⟨rfl, hb3⟩; have HB3 := Lib.hid hb3; clear hb3) | (go_at_call 62; refine (HC.out _ HB3.out).mono ?_; rintro e wz ⟨rfl, hz⟩; subst wz))
      go_roundg (n - (k + 1))
      case measure => omega
      case rel => exact ⟨k + 1, by go_num, by omega, Lib.hid (HB2.out.trans (HB3.out.mono HB2.out.size)), rfl⟩
    · have : k = n := by omega
      subst this
      clear q0
      go_wp2
      go_ret
      exact ⟨rfl, HB.out.trans (HB2.out.mono HB.out.size)⟩

set_option maxRecDepth 100000 in
set_option maxHeartbeats 1600000 in
theorem Next_any (p : MPl) (b o c n : Nat) (es : Nat → List Int) (P : Nat → Pl) (hn : 0 < n) (hn2 : n ≤ 64) (hin : ∀ i, i < n → ∀ x, x ∈ es i → -2147483648 ≤ x ∧ x ≤ 2147483647) (draw : Int) (hd : 0 ≤ draw ∧ draw ≤ 4294967295) (w : World) (h : DemoAt w p) (he : EntsAt w b o n es P) :
    Calls Tryz.prog 95 #[.agg (demoCells p).toArray, .slice (some ⟨b, o, none⟩) n c, .int .i64 draw] w fun e w' => e = .returned (.tuple #[.int .i64 (tokI es n draw), .int .i64 0]) ∧ Below w.heap.size w w' := by
  obtain ⟨wb, hwb, hbel, hblk⟩ : ∃ wb, w.alloc (.cells (demoCells p).toArray 27) = wb ∧ Below w.heap.size w wb ∧ Blk wb w.heap.size (demoCells p) 27 := ⟨_, rfl, (Below.refl _ _).alloc (Nat.le_refl _) _, heap_alloc_new w _⟩
  have HQ := Lib.hid (fun (wx : World) (hb : Below wb.heap.size wb wx) => (hblk.below hb).cell)
  have q0 := hblk.cell
  have HB := Lib.hid hbel
  have HWB := Lib.hid hwb
  have HD := Lib.hid (h.below hbel)
  have HE := Lib.hid (he.below hbel)
  have HC := Lib.hid fun wx (hx : DemoAt wx p) => check_any p wx hx
  have HO := Lib.hid fun wx (hx : EntsAt wx b o n es P) => entriesOK_any p b o c n es P hn hn2 hin wx hx
  have HN := Lib.hid fun wx (hx : DemoAt wx p) (hy : EntsAt wx b o n es P) => next_any p b o c n es P hn hn2 draw hd wx hx hy
  clear hbel hblk h he hin
  simp only [demoCells] at q0 HQ HC HO HN hwb ⊢
  go_enter Tryz.func95, Tryz.ntmps95
  go_wp2_with (first | (go_at_call 40; refine (HC.out wb HD.out).mono ?_; rintro e w1 ⟨rfl, hb1⟩; have HB1 := Lib.hid hb1; clear hb1; have q1 := HQ.out _ HB1.out) | (go_at_call 116; refine (HO.out w1 (HE.out.below HB1.out)).mono ?_; rintro e w2 ⟨rfl, hb2⟩; have HB2 := Lib.hid (HB1.out.trans (hb2.mono HB1.out.size)); clear hb2; have q2 := HQ.out _ HB2.out) | (go_at_call 117; refine (drawOK_yes _ hd _).mono ?_; rintro e wz ⟨rfl, hz⟩; subst wz) | (go_at_call 45; refine (HN.out w2 (HD.out.below HB2.out) (HE.out.below HB2.out)).mono ?_; rintro e w3 ⟨rfl, hb3⟩; have HB3 := Lib.hid (HB2.out.trans (hb3.mono HB2.out.size)); clear hb3))
  go_ret2
  exact ⟨rfl, HB.out.trans (HB3.out.mono HB.out.size)⟩
end Go.Proofs.YtllpoaoboieijaaGreat
