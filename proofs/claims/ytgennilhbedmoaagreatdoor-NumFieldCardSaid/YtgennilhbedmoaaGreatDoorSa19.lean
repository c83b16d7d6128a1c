/-
  frac: Quotient; num: Make.
  The stream of numbers: Below, Next, Range, Flip, Pick.
  The stream of numbers: Word.
-/
import Derived.IntWalk
import Derived.Test.YtgennilhbedmoaaGreatDoorSa14
import Derived.Test.YtgennilhbedmoaaGreatDoorSa16
/-
  frac: Quotient; num: Make.
-/
namespace Go.Proofs.YtgennilhbedmoaaGreatDoor
open Go.RowKit KeepPlain

theorem sz_nat (x : Nat) (h : x < 9223372036854775808) : Sz (x : Rat) 200 := by
  have h1 : (nd x).length ≤ 200 := Nat.le_trans (nd_len_le x 3 (Nat.lt_of_lt_of_le h (by decide))) (by decide)
  exact ⟨by simpa using h1, by simpa using (Nat.le_trans (nd_len_le 1 3 (by decide)) (by decide) : (nd 1).length ≤ 200)⟩
set_option maxRecDepth 100000 in
set_option maxHeartbeats 1600000 in
theorem quotient_any (x y : Nat) (hx : x < 9223372036854775808) (hy : y < 9223372036854775808) (h0 : y ≠ 0) (w : World) : Calls Tryz.prog 36 #[.int .i64 x, .int .i64 y] w fun e w' => ∃ v, e = .returned v ∧ Hid (FV w' v ((x : Rat) / (y : Rat))) ∧ Hid (Below w.heap.size w w') := by
  obtain ⟨w0, hw0, hb0, hk0⟩ := newF w
  have HB0 := Lib.hid hb0
  have HK0 := Lib.hid hk0
  have HI := Lib.hid (int_any x hx w0)
  have HJ := Lib.hid (fun wx => int_any y hy wx)
  have hq : (y : Rat) ≠ 0 := fun h => h0 (by exact_mod_cast h)
  have HD := Lib.hid (fun a b wx (ha : FV wx a (x : Rat)) (hb : FV wx b (y : Rat)) => fdiv_any _ _ a b wx ha hb (sz_nat x hx) (sz_nat y hy) hq)
  clear hb0 hk0 hx hy h0 hq
  generalize (x : Rat) / (y : Rat) = q at *
  generalize (x : Rat) = qx at *
  generalize (y : Rat) = qy at *
  go_enter Tryz.func36, Tryz.ntmps36
  go_wp2_with (first | (go_at_call 23; have _g := HB2; clear _g; refine (HD.out _ _ w2 (HF1.out.below HB2.out) HF2.out).mono ?_; rintro e w3 ⟨r3, rfl, HF3, HB3⟩; obtain ⟨u3, d3, rfl, n7, n8⟩ := HF3.out; obtain ⟨g7, c7, rfl⟩ := n7.shape; obtain ⟨g8, c8, rfl⟩ := n8.shape; have HN7 := Lib.hid n7; have HN8 := Lib.hid n8; clear n7 n8; have HK3 := Lib.hid (((HK0.out.below HB1.out).below HB2.out).below HB3.out); have q3 := Blk.cell HK3.out; have r3 := Blk.frozen HK3.out) | (go_at_call 51; have _g := HB1; clear _g; refine (HJ.out w1).mono ?_; rintro e w2 ⟨r2, rfl, HF2, HB2⟩) | (go_at_call 51; refine HI.out.mono ?_; rintro e w1 ⟨r1, rfl, HF1, HB1⟩))
  refine bodyPost_ret (results_frac rfl _ _ w.heap.size _ _ _ rfl (blk3 w3 _ _ _ _ _ _ _ HK3.out)) rfl ?_
  exact ⟨_, rfl, Lib.hid ⟨_, _, rfl, nvF HN7.out HK3.out _ _ _, nvF HN8.out HK3.out _ _ _⟩, Lib.hid ((((HB0.out.trans (HB1.out.mono HB0.out.size)).trans (HB2.out.mono (Nat.le_trans HB0.out.size HB1.out.size))).trans (HB3.out.mono (Nat.le_trans (Nat.le_trans HB0.out.size HB1.out.size) HB2.out.size))).trans (belowF _ _ _ _ _))⟩
set_option maxRecDepth 100000 in
set_option maxHeartbeats 1600000 in
theorem make_any (x y : Nat) (hx : x < 9223372036854775808) (hy : y < 9223372036854775808) (h0 : y ≠ 0) (hs : Sz ((x : Rat) / (y : Rat)) 500) (w : World) (ht : Pow10 w) : Calls Tryz.prog 20 #[.int .i64 x, .int .i64 y] w fun e w' => e = .returned (.tuple #[RT ((x : Rat) / (y : Rat)), .int .i64 0]) ∧ Hid (Below w.heap.size w w') := by
  obtain ⟨w0, hw0, hb0, hk0⟩ : ∃ w0, w.alloc (.cells #[.string ⟨#[]⟩, .string ⟨#[]⟩] 27) = w0 ∧ Below w.heap.size w w0 ∧ Blk w0 w.heap.size [.string ⟨#[]⟩, .string ⟨#[]⟩] 27 := ⟨_, rfl, (Below.refl _ _).alloc (Nat.le_refl _) _, heap_alloc_new w _⟩
  have HB0 := Lib.hid hb0
  have HK0 := Lib.hid hk0
  have HQ := Lib.hid (quotient_any x y hx hy h0 w0)
  have HP := Lib.hid (fun (wx : World) (hb : Below w0.heap.size w0 wx) => (ht.below hb0).below hb)
  have HR := Lib.hid (fun v wx (h : FV wx v ((x : Rat) / (y : Rat))) (hp : Pow10 wx) => rat_any _ hs v wx h hp)
  generalize (x : Rat) / (y : Rat) = q at *
  unfold RT at HR ⊢
  generalize (⟨(Lib.itoa q.num).toArray⟩ : ByteArray) = NC at *
  generalize (⟨(Lib.decDigits q.den).toArray⟩ : ByteArray) = DC at *
  have hy0 : ¬ ((y : Int) = 0) := by omega
  clear hb0 hk0 ht hs
  go_enter Tryz.func20, Tryz.ntmps20
  go_wp2_with (first | (go_at_call 36; refine HQ.out.mono ?_; rintro e w1 ⟨v1, rfl, HF1, HB1⟩) | (go_at_call 28; refine (HR.out _ w1 HF1.out (HP.out _ HB1.out)).mono ?_; rintro e w2 ⟨rfl, HB2⟩; have HK2 := Lib.hid ((HK0.out.below HB1.out).below HB2.out); have q2 := HK2.out.cell; have r2 := HK2.out.frozen))
  refine bodyPost_ret (results_rat2 rfl _ _ w.heap.size _ _ rfl (blkR w2 _ _ _ _ _ HK2.out)) rfl ?_
  exact ⟨rfl, Lib.hid (((HB0.out.trans (HB1.out.mono HB0.out.size)).trans (HB2.out.mono (Nat.le_trans HB0.out.size HB1.out.size))).trans (belowR _ _ _ _))⟩
end Go.Proofs.YtgennilhbedmoaaGreatDoor
/-
  The stream of numbers: Below, Next, Range, Flip, Pick.
-/
namespace Go.Proofs.YtgennilhbedmoaaGreatDoor
open Go.RowKit

def RdAt (w : World) (b o c : Nat) (l : List Int) : Prop := l.length ≤ c ∧ c ≤ maxLen ∧ ∀ i, i < l.length → w.cell? ⟨b, o + i, none⟩ = some (.int .i64 (l.getD i 0))
theorem RdAt.lt {w : World} {b o c : Nat} {l : List Int} (h : RdAt w b o c l) (h0 : 0 < l.length) : b < w.heap.size := World.block_lt_of_cell? w _ (h.2.2 0 h0)
theorem RdAt.below {w w' : World} {b o c : Nat} {l : List Int} (h : RdAt w b o c l) (hb : Below w.heap.size w w') : RdAt w' b o c l := by
  refine ⟨h.1, h.2.1, fun i hi => ?_⟩
  rw [World.cell?_of_block (a := ⟨b, o + i, none⟩) (hb.block b (h.lt (by omega)))]
  exact h.2.2 i hi
theorem RdAt.drewN {w : World} {b o c : Nat} {l : List Int} (h : RdAt w b o c l) (n : Nat) : RdAt (w.drewN n) b o c l := h
theorem Blk.rdat {w : World} {b : Nat} {l : List Int} {rest : List Value} {c : Nat} (h : Blk w b (ints l ++ rest) 3) (h1 : l.length ≤ c) (h2 : c ≤ maxLen) : RdAt w b 0 c l :=
  ⟨h1, h2, fun i hi => by rw [Nat.zero_add, h.cell, List.getElem?_append_left (by rw [ints_length]; exact hi)]; simp [ints, List.getD, hi]⟩

structure KeepX (d : Nat) (w w' : World) : Prop where
  os : w'.os = w.os
  tape : w'.tape = w.tape
  output : w'.output = w.output
  size : w.heap.size ≤ w'.heap.size
  block : ∀ b, b < w.heap.size → b ≠ d → w'.heap[b]? = w.heap[b]?
theorem KeepX.blk {d : Nat} {w w' : World} (h : KeepX d w w') {b : Nat} {l : List Value} {t : TypeId} (hb : Blk w b l t) (hne : b ≠ d) : Blk w' b l t := by
  have := hb.lt; unfold Blk at hb ⊢
  rw [h.block b this hne]; exact hb
theorem KeepX.rd {d : Nat} {w w' : World} (h : KeepX d w w') {b o c : Nat} {l : List Int} (hr : RdAt w b o c l) (h0 : 0 < l.length) (hne : b ≠ d) : RdAt w' b o c l := by
  refine ⟨hr.1, hr.2.1, fun i hi => ?_⟩
  rw [World.cell?_of_block (a := ⟨b, o + i, none⟩) (w := w) (h.block b (hr.lt h0) hne)]
  exact hr.2.2 i hi
theorem KeepX.below {d : Nat} {w0 w w' : World} (h : KeepX d w w') (hb : Below w0.heap.size w0 w) (hd : w0.heap.size ≤ d) : Below w0.heap.size w0 w' :=
  ⟨h.os.trans hb.os, h.tape.trans hb.tape, h.output.trans hb.output, Nat.le_trans hb.size h.size, fun b hlt => by
    rw [h.block b (Nat.lt_of_lt_of_le hlt hb.size) (by omega)]; exact hb.block b hlt⟩
theorem KeepX.of_below {d : Nat} {w w' : World} (h : Below w.heap.size w w') : KeepX d w w' := ⟨h.os, h.tape, h.output, h.size, fun b hb _ => h.block b hb⟩
theorem KeepX.trans {d : Nat} {a b c : World} (h : KeepX d a b) (k : KeepX d b c) : KeepX d a c :=
  ⟨k.os.trans h.os, k.tape.trans h.tape, k.output.trans h.output, Nat.le_trans h.size k.size, fun x hx hn => (k.block x (Nat.lt_of_lt_of_le hx h.size) hn).trans (h.block x hx hn)⟩
theorem KeepX.setNew {d g : Nat} {w w' : World} (h : KeepX d w w') (hg : w.heap.size ≤ g) (o : Nat) (v : Value) : KeepX d w (w'.setCell ⟨g, o, none⟩ v) :=
  ⟨h.os, h.tape, h.output, Nat.le_trans h.size (by simp [World.setCell]), fun x hx hn => by
    rw [Below.heap_setCell _ _ _ _ (show x ≠ g by omega)]; exact h.block x hx hn⟩
theorem KeepX.setD {d : Nat} {w w' : World} (h : KeepX d w w') (o : Nat) (v : Value) : KeepX d w (w'.setCell ⟨d, o, none⟩ v) :=
  ⟨h.os, h.tape, h.output, Nat.le_trans h.size (by simp [World.setCell]), fun x hx hn => by
    rw [Below.heap_setCell _ _ _ _ hn]; exact h.block x hx hn⟩

theorem Pow10.keep {d : Nat} {w w' : World} {V : Value} {x : Int} {t : TypeId} (h : Pow10 w) (k : KeepX d w w') (hd : Blk w d [V, .int .i64 x] t) : Pow10 w' := by
  unfold Pow10 Lib.TabIs World.var? at *
  cases hg : Tryz.prog.globalNamed "internal/strconv.uint64pow10" with
  | none => simp [hg] at h
  | some g =>
    simp only [hg, Option.bind_some] at h ⊢
    have hlt : g < w.heap.size := by
      rcases Nat.lt_or_ge g w.heap.size with h' | h'
      · exact h'
      · rw [Array.getElem?_eq_none h'] at h; simp at h
    have hne : g ≠ d := by
      intro e
      subst e
      unfold Blk at hd
      rw [hd] at h
      simp at h
      exact absurd (congrArg List.length h) (by simp [Lib.pow10Tab])
    rw [k.block g hlt hne]
    exact h
set_option maxRecDepth 100000 in
set_option maxHeartbeats 800000 in
theorem below_any (x n : Int) (hn : 1 ≤ n ∧ n ≤ 1099511627776) (w : World) : Calls Tryz.prog 24 #[.int .i64 x, .int .i64 n] w fun e w' => (∃ r : Int, e = .returned (.int .i64 r) ∧ 0 ≤ r ∧ r < n) ∧ w' = w := by
  have t1 : decide (n < 1) = false := decide_eq_false (by omega)
  have t2 : ¬ n = 0 := by omega
  have hb1 : x.tmod n < n := Int.tmod_lt_of_pos x (by omega)
  have hb2 : -n < x.tmod n := Int.lt_tmod_of_pos x (by omega)
  obtain ⟨m, hm⟩ : ∃ m, x.tmod n = m := ⟨_, rfl⟩
  rw [hm] at hb1 hb2
  by_cases hneg : m < 0
  · have e1 : IntKind.i64.wrap (m + n) = m + n := IntWalk.i64_in _ (by omega)
    have HR := Lib.hid (show 0 ≤ m + n ∧ m + n < n by omega)
    have hb : decide (m < 0) = true := decide_eq_true hneg
    go_enter Tryz.func24, Tryz.ntmps24
    go_wp2
    go_ret
    exact ⟨⟨_, rfl, HR.out.1, HR.out.2⟩, rfl⟩
  · have HR := Lib.hid (show 0 ≤ m ∧ m < n by omega)
    have hb : decide (m < 0) = false := decide_eq_false hneg
    go_enter Tryz.func24, Tryz.ntmps24
    go_wp2
    go_ret
    exact ⟨⟨_, rfl, HR.out.1, HR.out.2⟩, rfl⟩

/-- A stream over L, that was asked at most K times. -/
def St (w : World) (xb : Nat) (V : Value) (L : List Int) (K : Nat) : Prop := ∃ at' : Nat, at' ≤ K ∧ Blk w xb [V, .int .i64 at'] 25 ∧ Rd w V L ∧ (0 < L.length → V.ownBlock ≠ some xb)
theorem St.mono {w : World} {xb : Nat} {V : Value} {L : List Int} {K K' : Nat} (h : St w xb V L K) (hk : K ≤ K') : St w xb V L K' := by
  obtain ⟨a, h1, h2⟩ := h
  exact ⟨a, by omega, h2⟩
theorem Rd.block {w w' : World} {v : Value} {xs : List Int} (h : Rd w v xs) (hb : ∀ b, b < w.heap.size → v.ownBlock = some b → 0 < xs.length → w'.heap[b]? = w.heap[b]?) : Rd w' v xs := by
  by_cases h0 : 0 < xs.length
  · exact h.of_cells fun b hv => hb b (h.lt h0 b hv) hv h0
  · obtain ⟨A, c, rfl, h1, h2, h3⟩ := h
    exact ⟨A, c, rfl, h1, h2, fun h => absurd h h0⟩
theorem St.below {w w' : World} {xb : Nat} {V : Value} {L : List Int} {K : Nat} (h : St w xb V L K) (hb : Below w.heap.size w w') : St w' xb V L K := by
  obtain ⟨a, h1, h2, h3, h4⟩ := h
  exact ⟨a, h1, h2.below hb, h3.below hb, h4⟩
theorem St.lt {w : World} {xb : Nat} {V : Value} {L : List Int} {K : Nat} (h : St w xb V L K) : xb < w.heap.size := by
  obtain ⟨a, h1, h2, h3, h4⟩ := h
  exact h2.lt
/-- What a question of the stream leaves. -/
def Asks (xb : Nat) (V : Value) (L : List Int) (K : Nat) (w w' : World) : Prop := KeepX xb w w' ∧ St w' xb V L K
theorem Asks.trans {xb : Nat} {V : Value} {L : List Int} {K K' : Nat} {a b c : World} (h : Asks xb V L K a b) (k : Asks xb V L K' b c) : Asks xb V L K' a c := ⟨h.1.trans k.1, k.2⟩

set_option maxRecDepth 100000 in
set_option maxHeartbeats 1600000 in
theorem Next_st (xb : Nat) (V : Value) (L : List Int) (K : Nat) (hK : K ≤ 1000000) (n : Int) (hn : 1 ≤ n ∧ n ≤ 1099511627776) (w : World) (h : St w xb V L K) :
    Calls Tryz.prog 11 #[.pointer (some ⟨xb, 0, none⟩), .int .i64 n] w fun e w' => ∃ r : Int, e = .returned (.int .i64 r) ∧ Hid (0 ≤ r ∧ r < n) ∧ Hid (Asks xb V L (K + 1) w w') := by
  obtain ⟨a, ha, hb, hr, hv⟩ := h
  have c1 := hb.cell
  have f1 := hb.frozen
  have ew : IntKind.i64.wrap ((a : Int) + 1) = (a : Int) + 1 := IntWalk.i64_in _ (by omega)
  obtain ⟨w1, hw1, hk1, hb1⟩ : ∃ w1, w.setCell ⟨xb, 1, none⟩ (.int .i64 ((a : Int) + 1)) = w1 ∧ KeepX xb w w1 ∧ Blk w1 xb [V, .int .i64 ((a + 1 : Nat) : Int)] 25 := ⟨_, rfl, (KeepX.of_below (Below.refl _ _)).setD _ _, hb.set 1 _⟩
  have hr1 : Rd w1 V L := hr.block fun b hlt hvb h0 => hk1.block b hlt (fun e => hv h0 (by rw [hvb, e]))
  have HST := Lib.hid (show St w1 xb V L (K + 1) from ⟨a + 1, by omega, hb1, hr1, hv⟩)
  have HK1 := Lib.hid hk1
  have HB1 := Lib.hid hb1
  have d1 := hb1.cell
  rw [show ((a + 1 : Nat) : Int) = (a : Int) + 1 by omega] at d1
  obtain ⟨A, c, hV, hc1, hc2, hcell⟩ := hr1
  subst hV
  have HBL := Lib.hid fun (x : Int) (wx : World) => below_any x n hn wx
  have HCELL := Lib.hid hcell
  have hlm : L.length ≤ maxLen := by omega
  have HC1 := Lib.hid hc1
  unfold maxLen at hlm
  have HLM := Lib.hid hlm
  clear hb hr hv hk1 hb1 hcell hc1 hc2 hlm
  by_cases hl : L.length = 0
  · have hl0 : ((L.length : Nat) : Int) = 0 := by omega
    have b0 : (((L.length : Nat) : Int) == 0) = true := by simp [hl0]
    go_enter Tryz.func11, Tryz.ntmps11
    go_wp2_with (go_at_call 24; refine (HBL.out _ _).mono ?_; rintro e wz ⟨⟨r, rfl, h0, h1⟩, hz⟩; subst wz; have HR := Lib.hid (And.intro h0 h1); clear h0 h1)
    go_ret
    exact ⟨_, rfl, HR, Lib.hid ⟨HK1.out, HST.out⟩⟩
  · have b0 : (((L.length : Nat) : Int) == 0) = false := by
      have : ¬ ((L.length : Nat) : Int) = 0 := by omega
      simpa using this
    have b1 : ¬ ((L.length : Nat) : Int) = 0 := by omega
    obtain ⟨b, o, hA, hcell⟩ := HCELL.out (Nat.pos_of_ne_zero hl)
    subst hA
    obtain ⟨i, hi, hil⟩ : ∃ i : Nat, (a : Int).tmod (L.length : Int) = (i : Int) ∧ i < L.length := ⟨a % L.length, by rw [Int.tmod_eq_emod_of_nonneg (Int.natCast_nonneg a)]; rfl, Nat.mod_lt a (Nat.pos_of_ne_zero hl)⟩
    have hi2 : (a : Int) % (L.length : Int) = (i : Int) := by rw [← hi, Int.tmod_eq_emod_of_nonneg (Int.natCast_nonneg a)]
    obtain ⟨q, hq⟩ : ∃ q : Int, (a : Int).tdiv (L.length : Int) = q := ⟨_, rfl⟩
    have c5 := hcell i hil
    have ti : (i : Int) < (L.length : Int) := by omega
    have ew2 : IntKind.i64.wrap ((a : Int)) = (a : Int) := IntWalk.i64_in _ (by omega)
    generalize L[i] = xv at c5
    have HBL2 := Lib.hid fun (x : Int) (wx : World) => below_any x 1073741824 (by omega) wx
    clear hcell
    go_enter Tryz.func11, Tryz.ntmps11
    go_wp2
    go_quiet (fail)
    go_wp2
    go_quiet (fail)
    go_wp2_with (first | (go_at_call 24; have _g := HR1; clear _g; refine (HBL.out _ _).mono ?_; rintro e wz ⟨⟨r, rfl, h0, h1⟩, hz⟩; subst wz; have HR := Lib.hid (And.intro h0 h1); clear h0 h1) | (go_at_call 24; refine (HBL2.out _ _).mono ?_; rintro e wz ⟨⟨r1, rfl, h0, h1⟩, hz⟩; subst wz; have HR1 := Lib.hid (And.intro h0 h1); clear h0 h1))
    go_ret
    obtain ⟨a2, s1, s2, s3, s4⟩ := HST.out
    exact ⟨_, rfl, HR, Lib.hid ⟨⟨HK1.out.os, HK1.out.tape, HK1.out.output, HK1.out.size, HK1.out.block⟩, a2, s1, s2, s3, s4⟩⟩

/-- .. as a fact for later walks: the stream is asked once. -/
def Asked1 (xb : Nat) (V : Value) (L : List Int) (lo hi : Int) (K : Nat) (w : World) (e : Ending) (w' : World) : Prop := ∃ r : Int, e = .returned (.int .i64 r) ∧ Hid (lo ≤ r ∧ r ≤ hi) ∧ Hid (Asks xb V L K w w')
set_option maxRecDepth 100000 in
set_option maxHeartbeats 800000 in
theorem Range_st (xb : Nat) (V : Value) (L : List Int) (K : Nat) (hK : K ≤ 1000000) (lo hi : Int) (hlo : -1000 ≤ lo ∧ lo ≤ hi ∧ hi ≤ 1000) (w : World) (h : St w xb V L K) :
    Calls Tryz.prog 10 #[.pointer (some ⟨xb, 0, none⟩), .int .i64 lo, .int .i64 hi] w fun e w' => ∃ r : Int, e = .returned (.int .i64 r) ∧ Hid (lo ≤ r ∧ r ≤ hi) ∧ Hid (Asks xb V L (K + 1) w w') := by
  have HN := Lib.hid (Next_st xb V L K hK (hi - lo + 1) (by omega) w h)
  have t1 : decide (hi < lo) = false := decide_eq_false (by omega)
  have e1 : IntKind.i64.wrap (hi - lo) = hi - lo := IntWalk.i64_in _ (by omega)
  have e2 : IntKind.i64.wrap (hi - lo + 1) = hi - lo + 1 := IntWalk.i64_in _ (by omega)
  have HB := Lib.hid hlo
  clear h hlo
  go_enter Tryz.func10, Tryz.ntmps10
  go_wp2_with (go_at_call 11; refine HN.out.mono ?_; rintro e w1 ⟨r, rfl, HR, HA⟩; have e3 : IntKind.i64.wrap (lo + r) = lo + r := IntWalk.i64_in _ (by have := HR.out; have := HB.out; omega))
  go_ret
  exact ⟨_, rfl, Lib.hid (by have := HR.out; omega), HA⟩
set_option maxRecDepth 100000 in
set_option maxHeartbeats 800000 in
theorem Flip_st (xb : Nat) (V : Value) (L : List Int) (K : Nat) (hK : K ≤ 1000000) (n : Int) (hn : 1 ≤ n ∧ n ≤ 1000) (w : World) (h : St w xb V L K) :
    Calls Tryz.prog 25 #[.pointer (some ⟨xb, 0, none⟩), .int .i64 n] w fun e w' => ∃ r : Bool, e = .returned (.bool r) ∧ Hid (Asks xb V L (K + 1) w w') := by
  have HN := Lib.hid (Next_st xb V L K hK n (by omega) w h)
  clear h
  go_enter Tryz.func25, Tryz.ntmps25
  go_wp2_with (go_at_call 11; refine HN.out.mono ?_; rintro e w1 ⟨r, rfl, HR, HA⟩)
  go_ret
  exact ⟨_, rfl, HA⟩
theorem pick_cell {xb : Nat} {V : Value} {L : List Int} {K g c : Nat} {l : List Int} {w w1 : World} {r : Int} (hr : RdAt w g 0 c l) (ha : Asks xb V L K w w1) (hg : g ≠ xb) (h0 : 0 < l.length) (hlt : 0 ≤ r ∧ r < (l.length : Int)) : w1.cell? ⟨g, r.toNat, none⟩ = some (.int .i64 (l.getD r.toNat 0)) := by
  have := (ha.1.rd hr h0 hg).2.2 r.toNat (by omega)
  rw [Nat.zero_add] at this
  exact this
theorem pick_mem {l : List Int} {r : Int} (hlt : 0 ≤ r ∧ r < (l.length : Int)) : l.getD r.toNat 0 ∈ l := by
  have h : r.toNat < l.length := by omega
  rw [show l.getD r.toNat 0 = l[r.toNat] by simp [List.getD, h]]
  exact List.getElem_mem h
set_option maxRecDepth 100000 in
set_option maxHeartbeats 800000 in
theorem Pick_st (xb : Nat) (V : Value) (L : List Int) (K : Nat) (hK : K ≤ 1000000) (g n c : Nat) (l : List Int) (hn : n = l.length) (h0 : 0 < n) (hl : n ≤ 100) (w : World) (h : St w xb V L K) (hr : RdAt w g 0 c l) (hg : g ≠ xb) :
    Calls Tryz.prog 12 #[.pointer (some ⟨xb, 0, none⟩), .slice (some ⟨g, 0, none⟩) n c] w fun e w' => ∃ r : Int, e = .returned (.int .i64 r) ∧ Hid (r ∈ l) ∧ Hid (Asks xb V L (K + 1) w w') := by
  subst hn
  have HN := Lib.hid (Next_st xb V L K hK l.length (by omega) w h)
  have HR := Lib.hid hr
  have HG := Lib.hid hg
  have H0 := Lib.hid h0
  clear h hr hg
  go_enter Tryz.func12, Tryz.ntmps12
  go_wp2_with (go_at_call 11; refine HN.out.mono ?_; rintro e w1 ⟨r, rfl, HRR, HA⟩; have hlt : 0 ≤ r ∧ r < (l.length : Int) := HRR.out; have hlt1 := hlt.1; have hlt2 := hlt.2; have hc : w1.cell? ⟨g, r.toNat, none⟩ = some (.int .i64 (l.getD r.toNat 0)) := pick_cell HR.out HA.out HG.out H0.out hlt)
  go_ret
  exact ⟨_, rfl, Lib.hid (List.getElem_mem _), HA⟩
end Go.Proofs.YtgennilhbedmoaaGreatDoor
/-
  The stream of numbers: Word.
-/
namespace Go.Proofs.YtgennilhbedmoaaGreatDoor
open Go.RowKit

/-- A choice among numbers that were just laid down. -/
theorem Pick_lit (xb : Nat) (V : Value) (L : List Int) (K : Nat) (hK : K ≤ 1000000) (l : List Int) (cs : Array Value) (hcs : cs = (ints l).toArray) (n : Nat) (hn : n = l.length) (h0 : 0 < l.length) (hl : l.length ≤ 100) (w : World) (h : St w xb V L K) :
    Calls Tryz.prog 12 #[.pointer (some ⟨xb, 0, none⟩), .slice (some ⟨w.heap.size, 0, none⟩) n n] (w.alloc (.cells cs 3)) fun e w' => ∃ r : Int, e = .returned (.int .i64 r) ∧ Hid (r ∈ l) ∧ Hid (Asks xb V L (K + 1) w w') := by
  subst hcs hn
  have hb : Below w.heap.size w (w.alloc (.cells (ints l).toArray 3)) := (Below.refl _ _).alloc (Nat.le_refl _) _
  have hk : Blk (w.alloc (.cells (ints l).toArray 3)) w.heap.size (ints l ++ []) 3 := by rw [List.append_nil]; exact heap_alloc_new w _
  refine (Pick_st xb V L K hK w.heap.size l.length l.length l rfl h0 hl _ (h.below hb) (hk.rdat (Nat.le_refl _) (by unfold maxLen; omega)) (by have := h.lt; omega)).mono ?_
  rintro e w1 ⟨r, rfl, hr, ha⟩
  exact ⟨r, rfl, hr, Lib.hid ⟨(KeepX.of_below hb).trans ha.out.1, ha.out.2⟩⟩

set_option maxRecDepth 100000 in
set_option maxHeartbeats 1600000 in
theorem Word_st (xb : Nat) (V : Value) (L : List Int) (K : Nat) (hK : K ≤ 900000) (w : World) (h : St w xb V L K) :
    Calls Tryz.prog 13 #[.pointer (some ⟨xb, 0, none⟩)] w fun e w' => ∃ r : Int, e = .returned (.int .i64 r) ∧ Hid (-2147483648 ≤ r ∧ r ≤ 2147483647) ∧ Hid (Asks xb V L (K + 3) w w') := by
  have HN := Lib.hid (Next_st xb V L K (by omega) 6 (by omega) w h)
  clear h
  go_enter Tryz.func13, Tryz.ntmps13
  go_upto_region 2 with (go_at_call 11; refine HN.out.mono ?_; rintro e w1 ⟨r, rfl, HR, HA⟩)
  have HB := Lib.hid (Next_st xb V L (K + 1) (by omega) 3 (by omega) w1 HA.out.2)
  have HC := Lib.hid (Next_st xb V L (K + 1) (by omega) 1073741824 (by omega) w1 HA.out.2)
  have HE := Lib.hid (Range_st xb V L (K + 1) (by omega) (-9) 9 (by omega) w1 HA.out.2)
  have HD := Lib.hid (fun (w2 : World) (h2 : St w2 xb V L (K + 2)) => Next_st xb V L (K + 2) (by omega) 4 (by omega) w2 h2)
  by_cases r0 : r = 0
  · have b0 : (r == 0) = true := by simp [r0]
    go_wp2_with (go_at_call 11; refine HB.out.mono ?_; rintro e w2 ⟨r2, rfl, HR2, HA2⟩; have e1 : IntKind.i64.wrap (-2147483648 + r2) = -2147483648 + r2 := IntWalk.i64_in _ (by have := HR2.out; omega))
    go_ret
    exact ⟨_, rfl, Lib.hid (by have := HR2.out; omega), Lib.hid ⟨(HA.out.trans HA2.out).1, (HA2.out.2).mono (by omega)⟩⟩
  · have b0 : (r == 0) = false := by simp [r0]
    by_cases r1 : r = 1
    · have b1 : (r == 1) = true := by simp [r1]
      go_wp2_with (go_at_call 11; refine HB.out.mono ?_; rintro e w2 ⟨r2, rfl, HR2, HA2⟩; have e1 : IntKind.i64.wrap (2147483647 - r2) = 2147483647 - r2 := IntWalk.i64_in _ (by have := HR2.out; omega))
      go_ret
      exact ⟨_, rfl, Lib.hid (by have := HR2.out; omega), Lib.hid ⟨(HA.out.trans HA2.out).1, (HA2.out.2).mono (by omega)⟩⟩
    · have b1 : (r == 1) = false := by simp [r1]
      by_cases r2 : r = 2
      · have b2 : (r == 2) = true := by simp [r2]
        go_wp2_with (first | (go_at_call 11; have _g := HA2; clear _g; refine (HD.out w2 HA2.out.2).mono ?_; rintro e w3 ⟨r3, rfl, HR3, HA3⟩; have e2 : IntKind.i64.wrap (r2 * 4 + r3) = r2 * 4 + r3 := IntWalk.i64_in _ (by have := HR2.out; have := HR3.out; omega); have e3 : IntKind.i64.wrap (r2 * 4 + r3 + -2147483648) = r2 * 4 + r3 + -2147483648 := IntWalk.i64_in _ (by have := HR2.out; have := HR3.out; omega)) | (go_at_call 11; refine HC.out.mono ?_; rintro e w2 ⟨r2, rfl, HR2, HA2⟩; have e1 : IntKind.i64.wrap (r2 * 4) = r2 * 4 := IntWalk.i64_in _ (by have := HR2.out; omega)))
        go_ret
        exact ⟨_, rfl, Lib.hid (by have := HR2.out; have := HR3.out; omega), Lib.hid ((HA.out.trans HA2.out).trans HA3.out)⟩
      · have b2 : (r == 2) = false := by simp [r2]
        go_wp2_with (go_at_call 10; refine HE.out.mono ?_; rintro e w2 ⟨r2, rfl, HR2, HA2⟩)
        go_ret
        exact ⟨_, rfl, Lib.hid (by have := HR2.out; omega), Lib.hid ⟨(HA.out.trans HA2.out).1, (HA2.out.2).mono (by omega)⟩⟩
end Go.Proofs.YtgennilhbedmoaaGreatDoor
