/-
  models: sample, next; num: Draw.
  ModelSteady: the tokens of a request as a list: a shorter answer is a part of a longer one. No program in sight.
-/
import Derived.Test.YtdbhlkejfecffaaGreatDoorSa16
/-
  models: sample, next; num: Draw.
-/
namespace Go.Proofs.YtdbhlkejfecffaaGreatDoor
open Go.RowKit

set_option maxRecDepth 100000 in
set_option maxHeartbeats 1600000 in
theorem sample_any (b o c n : Nat) (l : List Int) (hn : n = l.length) (hl : n ≤ 64) (hin : ∀ x, x ∈ l → 0 ≤ x ∧ x ≤ 1000) (hpos : 0 < sumL l) (draw : Int) (hd : 0 ≤ draw ∧ draw ≤ 4294967295) (w : World) (hr : RdAt w b o c l) :
    Calls Tryz.prog 38 #[.slice (some ⟨b, o, none⟩) n c, .int .i64 draw] w fun e w' => e = .returned (.int .i64 (smpI l draw)) ∧ w' = w := by
  subst hn
  have HR := Lib.hid hr
  have HIN := Lib.hid hin
  have HPOS := Lib.hid hpos
  have HL := Lib.hid hl
  have hs := sumTo_drop l l.length (Nat.le_refl _)
  rw [List.drop_length] at hs
  have hs' : sumTo l l.length = sumL l := by simpa [sumL] using hs
  have HS := Lib.hid hs'
  have HD := Lib.hid hd
  clear hr hin hpos hl hs hs' hd
  go_enter Tryz.func38, Tryz.ntmps38
  go_wp2
  go_loopg [5, 12] l.length (fun gk s5 s12 wx => ∃ k : Nat, s12 = .int .i64 k ∧ k ≤ l.length ∧ s5 = .int .i64 (sumTo l k) ∧ wx = w ∧ gk = l.length - k)
  case atStart => exact ⟨0, rfl, by omega, rfl, rfl, rfl⟩
  case round =>
    obtain ⟨k, rfl, hk, rfl, hw0, rfl⟩ := hrel
    subst wr
    by_cases hlt : k < l.length
    · have c1 := HR.out.2.2 k hlt
      have b1 := sumTo_bnd l (k + 1) HIN.out
      have hk64 : k < 64 := by have := HL.out; omega
      have e1 : IntKind.i64.wrap (sumTo l k + l.getD k 0) = sumTo l (k + 1) := IntWalk.i64_in _ (by show _ ≤ sumTo l (k + 1) ∧ sumTo l (k + 1) ≤ _; omega)
      have e1' : wrap64 (sumTo l k + l.getD k 0) = sumTo l (k + 1) := by rw [← wrapEq]; exact e1
      generalize hs1 : sumTo l (k + 1) = s1 at e1 e1' b1
      generalize l.getD k 0 = x at c1 e1 e1'
      have HS1 := Lib.hid hs1
      clear hs1
      go_wp2
      go_roundg (l.length - (k + 1))
      case measure => omega
      case rel => exact ⟨k + 1, by go_num, by omega, by rw [HS1.out], rfl, rfl⟩
    · have : k = l.length := by omega
      subst this
      rw [HS.out]
      have hT := HPOS.out
      have hT2 : sumL l ≤ 64000 := by rw [← HS.out]; have := (sumTo_bnd l l.length HIN.out).2; have := HL.out; omega
      have hd := HD.out
      have hm1 : 0 ≤ draw * sumL l := Int.mul_nonneg hd.1 (by omega)
      have hm2 : draw * sumL l ≤ 4294967295 * sumL l := Int.mul_le_mul_of_nonneg_right hd.2 (by omega)
      have HA := Lib.hid (show smpI l draw = smpL l (draw * sumL l / 4294967296) from rfl)
      have e2 : wrap64 (draw * sumL l) = draw * sumL l := by unfold wrap64; omega
      have e2' : IntKind.i64.wrap (draw * sumL l) = draw * sumL l := by rw [wrapEq, e2]
      have ha0 : 0 ≤ draw * sumL l / 4294967296 := by omega
      have ha1 : draw * sumL l / 4294967296 < sumL l := by omega
      have HAA := Lib.hid (And.intro ha0 ha1)
      clear hT hT2 hd hm1 hm2 ha0 ha1
      generalize hmm : draw * sumL l = mm at e2 e2' HA HAA
      go_wp2
      generalize mm / 4294967296 = a0 at HA HAA ⊢
      go_loopg [8, 9] l.length (fun gk s8 s9 wx => ∃ (t : Nat) (a : Int), s9 = .int .i64 t ∧ s8 = .int .i64 a ∧ Hid (t < l.length ∧ 0 ≤ a ∧ a < sumL (l.drop t) ∧ t + smpL (l.drop t) a = smpI l draw) ∧ wx = w ∧ gk = l.length - t)
      case atStart => exact ⟨0, a0, rfl, rfl, Lib.hid ⟨by
        rcases Nat.eq_zero_or_pos l.length with h | h
        · have : l = [] := List.length_eq_zero_iff.1 h
          rw [this] at HAA; have := HAA.out; simp only [sumL] at this; omega
        · exact h, HAA.out.1, by simpa using HAA.out.2, by rw [HA.out]; simp⟩, rfl, rfl⟩
      case round =>
        obtain ⟨t, a, rfl, rfl, HT, hw0, rfl⟩ := hrel
        subst wr
        have htl := HT.out.1
        have c1 := HR.out.2.2 t htl
        have hdr := List.drop_eq_getElem_cons htl
        have hx : l.getD t 0 = l[t] := by simp [List.getD, htl]
        rw [← hx] at hdr
        have HDR := Lib.hid hdr
        have hxb : 0 ≤ l.getD t 0 ∧ l.getD t 0 ≤ 1000 := by rw [hx]; exact HIN.out _ (List.getElem_mem _)
        have HXB := Lib.hid hxb
        have hl64 := HL.out
        clear hdr hx hxb
        generalize l.getD t 0 = x at c1 HDR HXB
        by_cases hc : x ≤ a
        · have hsum := sumL_nonneg (l.drop (t + 1)) (fun y hy => (HIN.out y (List.mem_of_mem_drop hy)).1)
          have h3 := HT.out.2.2.1
          rw [HDR.out] at h3
          simp only [sumL] at h3
          have h4 := HT.out.2.2.2
          rw [HDR.out] at h4
          simp only [smpL, if_pos hc] at h4
          have htl2 : t + 1 < l.length := by
            rcases Nat.lt_or_ge (t + 1) l.length with h | h
            · exact h
            · rw [List.drop_eq_nil_of_le h] at h3; simp only [sumL] at h3; omega
          have h5 := HT.out.2.1
          have h6 : a < 9223372036854775807 := by
            have := sumTo_drop l (t + 1) (by omega)
            have := sumTo_bnd l (t + 1) HIN.out
            have := (sumTo_bnd l l.length HIN.out).2
            rw [HS.out] at this
            have := HXB.out
            omega
          have e3 : IntKind.i64.wrap (a - x) = a - x := IntWalk.i64_in _ (by have := HXB.out; omega)
          have e3' : wrap64 (a - x) = a - x := by rw [← wrapEq]; exact e3
          have HN := Lib.hid (show t + 1 < l.length ∧ 0 ≤ a - x ∧ a - x < sumL (l.drop (t + 1)) ∧ t + 1 + smpL (l.drop (t + 1)) (a - x) = smpI l draw from ⟨htl2, by omega, by omega, by omega⟩)
          clear h3 h4 h6 hsum
          go_wp2
          go_roundg (l.length - (t + 1))
          case measure => omega
          case rel => exact ⟨t + 1, a - x, by go_num, by first | rfl | rw [e3] | rw [e3'], HN, rfl, rfl⟩
        · have hc' : decide (x ≤ a) = false := decide_eq_false hc
          have h4 := HT.out.2.2.2
          rw [HDR.out] at h4
          simp only [smpL, if_neg hc] at h4
          have H4 := Lib.hid (show t = smpI l draw by omega)
          clear h4
          go_wp2
          go_ret
          exact ⟨by rw [← H4.out]; rfl, rfl⟩


set_option maxRecDepth 100000 in
set_option maxHeartbeats 1600000 in
theorem next_any (m : MD) (p : MPl) (W V T Q : Nat) (hm : m.Ok) (hd : m.Dim W V T Q) (b o c n : Nat) (E : List (List Int)) (P : Nat → Pl) (hn : n = E.length) (h0 : 0 < n) (hn2 : n ≤ 64) (draw : Int) (hdr : 0 ≤ draw ∧ draw ≤ 4294967295) (w : World) (h : ModAt w m p) (he : EntsAt w b o E (lenE m W) P) :
    Calls Tryz.prog 21 #[.agg (modV m p W).toArray, .slice (some ⟨b, o, none⟩) n c, .int .i64 draw] w fun e w' => e = .returned (.int .i64 (tokI m W V E draw)) ∧ Below w.heap.size w w' := by
  obtain ⟨wb, hwb, hbel, hblk⟩ : ∃ wb, w.alloc (.cells (modV m p W).toArray 27) = wb ∧ Below w.heap.size w wb ∧ Blk wb w.heap.size (modV m p W) 27 := ⟨_, rfl, (Below.refl _ _).alloc (Nat.le_refl _) _, heap_alloc_new w _⟩
  have HQ := Lib.hid (fun (wx : World) (hb : Below wb.heap.size wb wx) => (hblk.below hb).cell)
  have q0 := hblk.cell
  have HB := Lib.hid hbel
  have HWB := Lib.hid hwb
  have hv1 := hd.v1
  have hsl : (scL m W E V).length = V := mkL_len _ _
  have hwl : (wtL m (scL m W E V)).length = V := by rw [wtL_len, hsl]
  have HA := Lib.hid (scores_any m p W V T Q hm hd b o c n E P hn h0 hn2 wb.drew (h.below hbel.drew) (he.below hbel.drew))
  have HW := Lib.hid (fun (wx : World) (hb : Below wb.heap.size wb wx) (sb sc : Nat) (hs : RdAt wx sb 0 sc (scL m W E V)) => weights_any m p W V T Q hm hd sb sc (scL m W E V) hsl (scL_in m W E V) wx ((h.below hbel).below hb) hs)
  have HS := Lib.hid (fun (wx : World) (sb : Nat) (hs : RdAt wx sb 0 V (wtL m (scL m W E V))) => (show Calls Tryz.prog 38 #[.slice (some ⟨sb, 0, none⟩) V V, .int .i64 draw] wx fun e w' => e = .returned (.int .i64 (tokI m W V E draw)) ∧ w' = wx from sample_any sb 0 V V (wtL m (scL m W E V)) hwl.symm (by omega) (wtL_in hm _) (wtL_pos hm _ (by omega)) draw hdr wx hs))
  clear hbel hblk h he hdr hn hsl hwl
  simp only [modV] at q0 HQ HA HW hwb ⊢
  go_enter Tryz.func21, Tryz.ntmps21
  go_upto_region 1 with fail
  go_region_held3 (fun wy : World => (∀ o, wy.cell? ⟨w.heap.size, o, none⟩ = ([Value.int .i64 m.kind, .int .i64 m.vocab, .int .i64 W, .int .i64 m.top, .slice (some ⟨p.cuts.b, p.cuts.o, none⟩) 4 p.cuts.c, .slice (some ⟨p.embed.b, p.embed.o, none⟩) m.embed.length p.embed.c, .slice (some ⟨p.place.b, p.place.o, none⟩) m.place.length p.place.c, .slice (some ⟨p.mix.b, p.mix.o, none⟩) m.mix.length p.mix.c, .slice (some ⟨p.out.b, p.out.o, none⟩) m.out.length p.out.c, .slice (some ⟨p.soft.b, p.soft.o, none⟩) m.soft.length p.soft.c, .slice (some ⟨p.odds.b, p.odds.o, none⟩) m.odds.length p.odds.c] : List Value)[o]?)) (first | exact HQ.out _ HB3.out | exact HQ.out _ HB2.out | exact q0) (first
    | (go_at_call 38; refine (HS.out _ _ HR3.out).mono ?_; rintro e wz ⟨rfl, hz⟩; subst wz; dsimp only)
    | (go_at_call 39; refine (HW.out _ HB2.out _ _ HR2.out).mono ?_; rintro e w3 ⟨g3, rfl, HB3', HR3⟩; have HB3 := Lib.hid (HB2.out.trans (HB3'.out.mono HB2.out.size)); dsimp only)
    | (go_at_call 40; refine HA.out.mono ?_; rintro e w2 ⟨g2, c2, rfl, HB2', HR2⟩; have HB2 := Lib.hid (below_undrew HB2'.out); dsimp only))
  go_wp2
  go_ret
  exact ⟨rfl, HB.out.trans (HB3.out.mono HB.out.size)⟩
def u64 (x : Int) : Int := IntKind.u64.wrap x
def xshr (z n : Int) : Int := bits BinOp.xor IntKind.u64 z (z / n)
def mix0 (seed k : Int) : Int := u64 (u64 seed + u64 (u64 (u64 k + 1) * 11400714819323198485))
def mix1 (z : Int) : Int := u64 (xshr z 1073741824 * 13787848793156543929)
def mix2 (z : Int) : Int := u64 (xshr z 134217728 * 10723151780598845931)
def drawI (seed k : Int) : Int := wrap64 (xshr (mix2 (mix1 (mix0 seed k))) 2147483648 / 4294967296)

set_option maxRecDepth 100000 in
set_option maxHeartbeats 800000 in
theorem draw_any (seed k : Int) (w : World) : Calls Tryz.prog 22 #[.int .i64 seed, .int .i64 k] w fun e w' => e = .returned (.int .i64 (drawI seed k)) ∧ w' = w := by
  go_enter Tryz.func22, Tryz.ntmps22
  go_wp2
  go_ret
  exact ⟨rfl, rfl⟩
theorem u64_inD (x : Int) : 0 ≤ IntKind.u64.wrap x ∧ IntKind.u64.wrap x < 18446744073709551616 := by
  have : IntKind.u64.wrap x = x % 18446744073709551616 := by simp [IntKind.wrap, IntKind.signed, IntKind.bits]
  omega
theorem drawI_in (seed k : Int) : 0 ≤ drawI seed k ∧ drawI seed k < 4294967296 := by
  unfold drawI
  generalize mix2 (mix1 (mix0 seed k)) = z
  have : 0 ≤ xshr z 2147483648 ∧ xshr z 2147483648 < 18446744073709551616 := by
    unfold xshr bits
    exact u64_inD _
  unfold wrap64
  omega

end Go.Proofs.YtdbhlkejfecffaaGreatDoor
/-
  ModelSteady: the tokens of a request as a list: a shorter answer is a part of a longer one. No program in sight.
-/
namespace SteadyPlain

/-- The tokens that are made: 'nx' tells the next one of the entries and its place, 'en' the entry of a token at a place. -/
def gen (nx : List (List Int) → Nat → Int) (en : Int → Nat → List Int) : Nat → Nat → List (List Int) → List Int
  | 0, _, _ => []
  | n + 1, k, E => if nx E k = 0 then [0] else nx E k :: gen nx en n (k + 1) (E ++ [en (nx E k) E.length])
variable {nx : List (List Int) → Nat → Int} {en : Int → Nat → List Int}
theorem gen_take : ∀ (m n k : Nat) (E : List (List Int)), m ≤ n → gen nx en m k E = (gen nx en n k E).take m
  | 0, n, k, E, _ => by simp [gen]
  | m + 1, n + 1, k, E, h => by
    unfold gen
    by_cases h0 : nx E k = 0
    · rw [if_pos h0, if_pos h0]; simp
    · rw [if_neg h0, if_neg h0, List.take_succ_cons, gen_take m n (k + 1) _ (by omega)]
theorem gen_len : ∀ (n k : Nat) (E : List (List Int)), (gen nx en n k E).length ≤ n
  | 0, k, E => by simp [gen]
  | n + 1, k, E => by
    unfold gen
    split
    · simp
    · have := gen_len n (k + 1) (E ++ [en (nx E k) E.length])
      simp; omega
theorem gen_pos (n k : Nat) (E : List (List Int)) : 0 < (gen nx en (n + 1) k E).length := by
  unfold gen
  split <;> simp
/-- Before the last token there is no end. -/
theorem gen_inner : ∀ (n k : Nat) (E : List (List Int)) (i : Nat), i + 1 < (gen nx en n k E).length → (gen nx en n k E).getD i 0 ≠ 0
  | 0, k, E, i, h => by simp [gen] at h
  | n + 1, k, E, i, h => by
    unfold gen at h ⊢
    by_cases h0 : nx E k = 0
    · rw [if_pos h0] at h; simp at h
    · rw [if_neg h0] at h ⊢
      cases i with
      | zero => simpa using h0
      | succ i =>
        have := gen_inner n (k + 1) (E ++ [en (nx E k) E.length]) i (by simpa using h)
        simpa using this
/-- It ends by itself, or it is as long as was asked for. -/
theorem gen_end : ∀ (n k : Nat) (E : List (List Int)), (gen nx en n k E).length = n ∨ ((gen nx en n k E).getLast? = some 0)
  | 0, k, E => by simp [gen]
  | n + 1, k, E => by
    unfold gen
    by_cases h0 : nx E k = 0
    · rw [if_pos h0]; simp
    · rw [if_neg h0]
      rcases gen_end n (k + 1) (E ++ [en (nx E k) E.length]) with h | h
      · left; simp [h]
      · right
        rw [List.getLast?_cons, h]; rfl
/-- The part of a longer answer that the law compares with. -/
theorem gen_part (m n k : Nat) (E : List (List Int)) (h : m ≤ n) : gen nx en m k E = (gen nx en n k E).take (min (gen nx en n k E).length m) := by
  rw [gen_take m n k E h]
  by_cases hl : (gen nx en n k E).length ≤ m
  · rw [Nat.min_eq_left hl, List.take_of_length_le (Nat.le_refl _), List.take_of_length_le hl]
  · rw [Nat.min_eq_right (by omega)]
end SteadyPlain
