/-
  The stream of numbers: Below, Next, Range, Flip, Pick.
  Where a model lies.
  The stream: what a question leaves.
-/
import Derived.IntWalk
import Derived.Test.YtdbhlkejfecffaaGreatDoorSa2
import Derived.Test.YtdbhlkejfecffaaGreatDoorSa6
/-
  The stream of numbers: Below, Next, Range, Flip, Pick.
-/
namespace Go.Proofs.YtdbhlkejfecffaaGreatDoor
open Go.RowKit

def RdAt (w : World) (b o c : Nat) (l : List Int) : Prop := l.length ≤ c ∧ c ≤ maxLen ∧ ∀ i, i < l.length → w.cell? ⟨b, o + i, none⟩ = some (.int .i64 (l.getD i 0))
theorem RdAt.lt {w : World} {b o c : Nat} {l : List Int} (h : RdAt w b o c l) (h0 : 0 < l.length) : b < w.heap.size := World.block_lt_of_cell? w _ (h.2.2 0 h0)
theorem RdAt.below {w w' : World} {b o c : Nat} {l : List Int} (h : RdAt w b o c l) (hb : Below w.heap.size w w') : RdAt w' b o c l := by
  refine ⟨h.1, h.2.1, fun i hi => ?_⟩
  rw [World.cell?_of_block (a := ⟨b, o + i, none⟩) (hb.block b (h.lt (by omega)))]
  exact h.2.2 i hi
theorem RdAt.drewN {w : World} {b o c : Nat} {l : List Int} (h : RdAt w b o c l) (n : Nat) : RdAt (w.drewN n) b o c l := h
theorem Blk.rdat {w : World} {b : Nat} {l : List Int} {rest : List Value} {c : Nat} (h : Blk w b (ints l ++ rest) 3) (h1 : l.length ≤ c) (h2 : c ≤ maxLen) : RdAt w b 0 c l :=
  ⟨h1, h2, fun i hi => by rw [Nat.zero_add, h.cell, List.getElem?_append_left (by rw [ints_length]; exact hi)]; simp [ints, List.getD, hi]⟩

structure KeepX (d : Nat) (w w' : World) : Prop where
  os : w'.os = w.os
  tape : w'.tape = w.tape
  output : w'.output = w.output
  size : w.heap.size ≤ w'.heap.size
  block : ∀ b, b < w.heap.size → b ≠ d → w'.heap[b]? = w.heap[b]?
theorem KeepX.blk {d : Nat} {w w' : World} (h : KeepX d w w') {b : Nat} {l : List Value} {t : TypeId} (hb : Blk w b l t) (hne : b ≠ d) : Blk w' b l t := by
  have := hb.lt; unfold Blk at hb ⊢
  rw [h.block b this hne]; exact hb
theorem KeepX.rd {d : Nat} {w w' : World} (h : KeepX d w w') {b o c : Nat} {l : List Int} (hr : RdAt w b o c l) (h0 : 0 < l.length) (hne : b ≠ d) : RdAt w' b o c l := by
  refine ⟨hr.1, hr.2.1, fun i hi => ?_⟩
  rw [World.cell?_of_block (a := ⟨b, o + i, none⟩) (w := w) (h.block b (hr.lt h0) hne)]
  exact hr.2.2 i hi
theorem KeepX.below {d : Nat} {w0 w w' : World} (h : KeepX d w w') (hb : Below w0.heap.size w0 w) (hd : w0.heap.size ≤ d) : Below w0.heap.size w0 w' :=
  ⟨h.os.trans hb.os, h.tape.trans hb.tape, h.output.trans hb.output, Nat.le_trans hb.size h.size, fun b hlt => by
    rw [h.block b (Nat.lt_of_lt_of_le hlt hb.size) (by omega)]; exact hb.block b hlt⟩
theorem KeepX.of_below {d : Nat} {w w' : World} (h : Below w.heap.size w w') : KeepX d w w' := ⟨h.os, h.tape, h.output, h.size, fun b hb _ => h.block b hb⟩
theorem KeepX.trans {d : Nat} {a b c : World} (h : KeepX d a b) (k : KeepX d b c) : KeepX d a c :=
  ⟨k.os.trans h.os, k.tape.trans h.tape, k.output.trans h.output, Nat.le_trans h.size k.size, fun x hx hn => (k.block x (Nat.lt_of_lt_of_le hx h.size) hn).trans (h.block x hx hn)⟩
theorem KeepX.setNew {d g : Nat} {w w' : World} (h : KeepX d w w') (hg : w.heap.size ≤ g) (o : Nat) (v : Value) : KeepX d w (w'.setCell ⟨g, o, none⟩ v) :=
  ⟨h.os, h.tape, h.output, Nat.le_trans h.size (by simp [World.setCell]), fun x hx hn => by
    rw [Below.heap_setCell _ _ _ _ (show x ≠ g by omega)]; exact h.block x hx hn⟩
theorem KeepX.setD {d : Nat} {w w' : World} (h : KeepX d w w') (o : Nat) (v : Value) : KeepX d w (w'.setCell ⟨d, o, none⟩ v) :=
  ⟨h.os, h.tape, h.output, Nat.le_trans h.size (by simp [World.setCell]), fun x hx hn => by
    rw [Below.heap_setCell _ _ _ _ hn]; exact h.block x hx hn⟩

theorem Pow10.keep {d : Nat} {w w' : World} {V : Value} {x : Int} {t : TypeId} (h : Pow10 w) (k : KeepX d w w') (hd : Blk w d [V, .int .i64 x] t) : Pow10 w' := by
  unfold Pow10 Lib.TabIs World.var? at *
  cases hg : Tryz.prog.globalNamed "internal/strconv.uint64pow10" with
  | none => simp [hg] at h
  | some g =>
    simp only [hg, Option.bind_some] at h ⊢
    have hlt : g < w.heap.size := by
      rcases Nat.lt_or_ge g w.heap.size with h' | h'
      · exact h'
      · rw [Array.getElem?_eq_none h'] at h; simp at h
    have hne : g ≠ d := by
      intro e
      subst e
      unfold Blk at hd
      rw [hd] at h
      simp at h
      exact absurd (congrArg List.length h) (by simp [Lib.pow10Tab])
    rw [k.block g hlt hne]
    exact h
set_option maxRecDepth 100000 in
set_option maxHeartbeats 800000 in
theorem below_any (x n : Int) (hn : 1 ≤ n ∧ n ≤ 1099511627776) (w : World) : Calls Tryz.prog 15 #[.int .i64 x, .int .i64 n] w fun e w' => (∃ r : Int, e = .returned (.int .i64 r) ∧ 0 ≤ r ∧ r < n) ∧ w' = w := by
  have t1 : decide (n < 1) = false := decide_eq_false (by omega)
  have t2 : ¬ n = 0 := by omega
  have hb1 : x.tmod n < n := Int.tmod_lt_of_pos x (by omega)
  have hb2 : -n < x.tmod n := Int.lt_tmod_of_pos x (by omega)
  obtain ⟨m, hm⟩ : ∃ m, x.tmod n = m := ⟨_, rfl⟩
  rw [hm] at hb1 hb2
  by_cases hneg : m < 0
  · have e1 : IntKind.i64.wrap (m + n) = m + n := IntWalk.i64_in _ (by omega)
    have HR := Lib.hid (show 0 ≤ m + n ∧ m + n < n by omega)
    have hb : decide (m < 0) = true := decide_eq_true hneg
    go_enter Tryz.func15, Tryz.ntmps15
    go_wp2
    go_ret
    exact ⟨⟨_, rfl, HR.out.1, HR.out.2⟩, rfl⟩
  · have HR := Lib.hid (show 0 ≤ m ∧ m < n by omega)
    have hb : decide (m < 0) = false := decide_eq_false hneg
    go_enter Tryz.func15, Tryz.ntmps15
    go_wp2
    go_ret
    exact ⟨⟨_, rfl, HR.out.1, HR.out.2⟩, rfl⟩

/-- A stream over L, that was asked at most K times. -/
def St (w : World) (xb : Nat) (V : Value) (L : List Int) (K : Nat) : Prop := ∃ at' : Nat, at' ≤ K ∧ Blk w xb [V, .int .i64 at'] 25 ∧ Rd w V L ∧ (0 < L.length → V.ownBlock ≠ some xb)
theorem St.mono {w : World} {xb : Nat} {V : Value} {L : List Int} {K K' : Nat} (h : St w xb V L K) (hk : K ≤ K') : St w xb V L K' := by
  obtain ⟨a, h1, h2⟩ := h
  exact ⟨a, by omega, h2⟩
theorem Rd.block {w w' : World} {v : Value} {xs : List Int} (h : Rd w v xs) (hb : ∀ b, b < w.heap.size → v.ownBlock = some b → 0 < xs.length → w'.heap[b]? = w.heap[b]?) : Rd w' v xs := by
  by_cases h0 : 0 < xs.length
  · exact h.of_cells fun b hv => hb b (h.lt h0 b hv) hv h0
  · obtain ⟨A, c, rfl, h1, h2, h3⟩ := h
    exact ⟨A, c, rfl, h1, h2, fun h => absurd h h0⟩
theorem St.below {w w' : World} {xb : Nat} {V : Value} {L : List Int} {K : Nat} (h : St w xb V L K) (hb : Below w.heap.size w w') : St w' xb V L K := by
  obtain ⟨a, h1, h2, h3, h4⟩ := h
  exact ⟨a, h1, h2.below hb, h3.below hb, h4⟩
theorem St.lt {w : World} {xb : Nat} {V : Value} {L : List Int} {K : Nat} (h : St w xb V L K) : xb < w.heap.size := by
  obtain ⟨a, h1, h2, h3, h4⟩ := h
  exact h2.lt
/-- What a question of the stream leaves. -/
def Asks (xb : Nat) (V : Value) (L : List Int) (K : Nat) (w w' : World) : Prop := KeepX xb w w' ∧ St w' xb V L K
theorem Asks.trans {xb : Nat} {V : Value} {L : List Int} {K K' : Nat} {a b c : World} (h : Asks xb V L K a b) (k : Asks xb V L K' b c) : Asks xb V L K' a c := ⟨h.1.trans k.1, k.2⟩

set_option maxRecDepth 100000 in
set_option maxHeartbeats 1600000 in
theorem Next_st (xb : Nat) (V : Value) (L : List Int) (K : Nat) (hK : K ≤ 1000000) (n : Int) (hn : 1 ≤ n ∧ n ≤ 1099511627776) (w : World) (h : St w xb V L K) :
    Calls Tryz.prog 7 #[.pointer (some ⟨xb, 0, none⟩), .int .i64 n] w fun e w' => ∃ r : Int, e = .returned (.int .i64 r) ∧ Hid (0 ≤ r ∧ r < n) ∧ Hid (Asks xb V L (K + 1) w w') := by
  obtain ⟨a, ha, hb, hr, hv⟩ := h
  have c1 := hb.cell
  have f1 := hb.frozen
  have ew : IntKind.i64.wrap ((a : Int) + 1) = (a : Int) + 1 := IntWalk.i64_in _ (by omega)
  obtain ⟨w1, hw1, hk1, hb1⟩ : ∃ w1, w.setCell ⟨xb, 1, none⟩ (.int .i64 ((a : Int) + 1)) = w1 ∧ KeepX xb w w1 ∧ Blk w1 xb [V, .int .i64 ((a + 1 : Nat) : Int)] 25 := ⟨_, rfl, (KeepX.of_below (Below.refl _ _)).setD _ _, hb.set 1 _⟩
  have hr1 : Rd w1 V L := hr.block fun b hlt hvb h0 => hk1.block b hlt (fun e => hv h0 (by rw [hvb, e]))
  have HST := Lib.hid (show St w1 xb V L (K + 1) from ⟨a + 1, by omega, hb1, hr1, hv⟩)
  have HK1 := Lib.hid hk1
  have HB1 := Lib.hid hb1
  have d1 := hb1.cell
  rw [show ((a + 1 : Nat) : Int) = (a : Int) + 1 by omega] at d1
  obtain ⟨A, c, hV, hc1, hc2, hcell⟩ := hr1
  subst hV
  have HBL := Lib.hid fun (x : Int) (wx : World) => below_any x n hn wx
  have HCELL := Lib.hid hcell
  have hlm : L.length ≤ maxLen := by omega
  have HC1 := Lib.hid hc1
  unfold maxLen at hlm
  have HLM := Lib.hid hlm
  clear hb hr hv hk1 hb1 hcell hc1 hc2 hlm
  by_cases hl : L.length = 0
  · have hl0 : ((L.length : Nat) : Int) = 0 := by omega
    have b0 : (((L.length : Nat) : Int) == 0) = true := by simp [hl0]
    go_enter Tryz.func7, Tryz.ntmps7
    go_wp2_with (go_at_call 15; refine (HBL.out _ _).mono ?_; rintro e wz ⟨⟨r, rfl, h0, h1⟩, hz⟩; subst wz; have HR := Lib.hid (And.intro h0 h1); clear h0 h1)
    go_ret
    exact ⟨_, rfl, HR, Lib.hid ⟨HK1.out, HST.out⟩⟩
  · have b0 : (((L.length : Nat) : Int) == 0) = false := by
      have : ¬ ((L.length : Nat) : Int) = 0 := by omega
      simpa using this
    have b1 : ¬ ((L.length : Nat) : Int) = 0 := by omega
    obtain ⟨b, o, hA, hcell⟩ := HCELL.out (Nat.pos_of_ne_zero hl)
    subst hA
    obtain ⟨i, hi, hil⟩ : ∃ i : Nat, (a : Int).tmod (L.length : Int) = (i : Int) ∧ i < L.length := ⟨a % L.length, by rw [Int.tmod_eq_emod_of_nonneg (Int.natCast_nonneg a)]; rfl, Nat.mod_lt a (Nat.pos_of_ne_zero hl)⟩
    have hi2 : (a : Int) % (L.length : Int) = (i : Int) := by rw [← hi, Int.tmod_eq_emod_of_nonneg (Int.natCast_nonneg a)]
    obtain ⟨q, hq⟩ : ∃ q : Int, (a : Int).tdiv (L.length : Int) = q := ⟨_, rfl⟩
    have c5 := hcell i hil
    have ti : (i : Int) < (L.length : Int) := by omega
    have ew2 : IntKind.i64.wrap ((a : Int)) = (a : Int) := IntWalk.i64_in _ (by omega)
    generalize L[i] = xv at c5
    have HBL2 := Lib.hid fun (x : Int) (wx : World) => below_any x 1073741824 (by omega) wx
    clear hcell
    go_enter Tryz.func7, Tryz.ntmps7
    go_wp2
    go_quiet (fail)
    go_wp2
    go_quiet (fail)
    go_wp2_with (first | (go_at_call 15; have _g := HR1; clear _g; refine (HBL.out _ _).mono ?_; rintro e wz ⟨⟨r, rfl, h0, h1⟩, hz⟩; subst wz; have HR := Lib.hid (And.intro h0 h1); clear h0 h1) | (go_at_call 15; refine (HBL2.out _ _).mono ?_; rintro e wz ⟨⟨r1, rfl, h0, h1⟩, hz⟩; subst wz; have HR1 := Lib.hid (And.intro h0 h1); clear h0 h1))
    go_ret
    obtain ⟨a2, s1, s2, s3, s4⟩ := HST.out
    exact ⟨_, rfl, HR, Lib.hid ⟨⟨HK1.out.os, HK1.out.tape, HK1.out.output, HK1.out.size, HK1.out.block⟩, a2, s1, s2, s3, s4⟩⟩

/-- .. as a fact for later walks: the stream is asked once. -/
def Asked1 (xb : Nat) (V : Value) (L : List Int) (lo hi : Int) (K : Nat) (w : World) (e : Ending) (w' : World) : Prop := ∃ r : Int, e = .returned (.int .i64 r) ∧ Hid (lo ≤ r ∧ r ≤ hi) ∧ Hid (Asks xb V L K w w')
set_option maxRecDepth 100000 in
set_option maxHeartbeats 800000 in
theorem Range_st (xb : Nat) (V : Value) (L : List Int) (K : Nat) (hK : K ≤ 1000000) (lo hi : Int) (hlo : -1000 ≤ lo ∧ lo ≤ hi ∧ hi ≤ 1000) (w : World) (h : St w xb V L K) :
    Calls Tryz.prog 5 #[.pointer (some ⟨xb, 0, none⟩), .int .i64 lo, .int .i64 hi] w fun e w' => ∃ r : Int, e = .returned (.int .i64 r) ∧ Hid (lo ≤ r ∧ r ≤ hi) ∧ Hid (Asks xb V L (K + 1) w w') := by
  have HN := Lib.hid (Next_st xb V L K hK (hi - lo + 1) (by omega) w h)
  have t1 : decide (hi < lo) = false := decide_eq_false (by omega)
  have e1 : IntKind.i64.wrap (hi - lo) = hi - lo := IntWalk.i64_in _ (by omega)
  have e2 : IntKind.i64.wrap (hi - lo + 1) = hi - lo + 1 := IntWalk.i64_in _ (by omega)
  have HB := Lib.hid hlo
  clear h hlo
  go_enter Tryz.func5, Tryz.ntmps5
  go_wp2_with (go_at_call 7; refine HN.out.mono ?_; rintro e w1 ⟨r, rfl, HR, HA⟩; have e3 : IntKind.i64.wrap (lo + r) = lo + r := IntWalk.i64_in _ (by have := HR.out; have := HB.out; omega))
  go_ret
  exact ⟨_, rfl, Lib.hid (by have := HR.out; omega), HA⟩
set_option maxRecDepth 100000 in
set_option maxHeartbeats 800000 in
theorem Flip_st (xb : Nat) (V : Value) (L : List Int) (K : Nat) (hK : K ≤ 1000000) (n : Int) (hn : 1 ≤ n ∧ n ≤ 1000) (w : World) (h : St w xb V L K) :
    Calls Tryz.prog 13 #[.pointer (some ⟨xb, 0, none⟩), .int .i64 n] w fun e w' => ∃ r : Bool, e = .returned (.bool r) ∧ Hid (Asks xb V L (K + 1) w w') := by
  have HN := Lib.hid (Next_st xb V L K hK n (by omega) w h)
  clear h
  go_enter Tryz.func13, Tryz.ntmps13
  go_wp2_with (go_at_call 7; refine HN.out.mono ?_; rintro e w1 ⟨r, rfl, HR, HA⟩)
  go_ret
  exact ⟨_, rfl, HA⟩
theorem pick_cell {xb : Nat} {V : Value} {L : List Int} {K g c : Nat} {l : List Int} {w w1 : World} {r : Int} (hr : RdAt w g 0 c l) (ha : Asks xb V L K w w1) (hg : g ≠ xb) (h0 : 0 < l.length) (hlt : 0 ≤ r ∧ r < (l.length : Int)) : w1.cell? ⟨g, r.toNat, none⟩ = some (.int .i64 (l.getD r.toNat 0)) := by
  have := (ha.1.rd hr h0 hg).2.2 r.toNat (by omega)
  rw [Nat.zero_add] at this
  exact this
theorem pick_mem {l : List Int} {r : Int} (hlt : 0 ≤ r ∧ r < (l.length : Int)) : l.getD r.toNat 0 ∈ l := by
  have h : r.toNat < l.length := by omega
  rw [show l.getD r.toNat 0 = l[r.toNat] by simp [List.getD, h]]
  exact List.getElem_mem h
set_option maxRecDepth 100000 in
set_option maxHeartbeats 800000 in
theorem Pick_st (xb : Nat) (V : Value) (L : List Int) (K : Nat) (hK : K ≤ 1000000) (g n c : Nat) (l : List Int) (hn : n = l.length) (h0 : 0 < n) (hl : n ≤ 100) (w : World) (h : St w xb V L K) (hr : RdAt w g 0 c l) (hg : g ≠ xb) :
    Calls Tryz.prog 12 #[.pointer (some ⟨xb, 0, none⟩), .slice (some ⟨g, 0, none⟩) n c] w fun e w' => ∃ r : Int, e = .returned (.int .i64 r) ∧ Hid (r ∈ l) ∧ Hid (Asks xb V L (K + 1) w w') := by
  subst hn
  have HN := Lib.hid (Next_st xb V L K hK l.length (by omega) w h)
  have HR := Lib.hid hr
  have HG := Lib.hid hg
  have H0 := Lib.hid h0
  clear h hr hg
  go_enter Tryz.func12, Tryz.ntmps12
  go_wp2_with (go_at_call 7; refine HN.out.mono ?_; rintro e w1 ⟨r, rfl, HRR, HA⟩; have hlt : 0 ≤ r ∧ r < (l.length : Int) := HRR.out; have hlt1 := hlt.1; have hlt2 := hlt.2; have hc : w1.cell? ⟨g, r.toNat, none⟩ = some (.int .i64 (l.getD r.toNat 0)) := pick_cell HR.out HA.out HG.out H0.out hlt)
  go_ret
  exact ⟨_, rfl, Lib.hid (List.getElem_mem _), HA⟩
end Go.Proofs.YtdbhlkejfecffaaGreatDoor
/-
  Where a model lies.
-/
namespace Go.Proofs.YtdbhlkejfecffaaGreatDoor
open Go.RowKit

theorem Rd.at {w : World} {A : Option Addr} {n c : Nat} {l : List Int} (h : Rd w (.slice A n c) l) {i : Nat} (hi : i < l.length) : ∃ b o, A = some ⟨b, o, none⟩ ∧ w.cell? ⟨b, o + i, none⟩ = some (.int .i64 (l.getD i 0)) := by
  obtain ⟨A0, c0, hv, h1, h2, h3⟩ := h
  injection hv with e1 e2 e3
  subst e1 e3
  obtain ⟨b, o, rfl, hr⟩ := h3 (by omega)
  exact ⟨b, o, rfl, by rw [hr i hi]; simp [List.getD, hi]⟩
/-- Where a slice lies. -/
structure SP where
  A : Option Addr
  c : Nat
structure MP where
  cuts : SP
  embed : SP
  place : SP
  mix : SP
  out : SP
  soft : SP
  odds : SP
def MD.num (m : MD) : Nat → Int
  | 0 => m.kind
  | 1 => m.vocab
  | 2 => m.width
  | _ => m.top
def MD.lst (m : MD) : Nat → List Int
  | 0 => m.cuts
  | 1 => m.embed
  | 2 => m.place
  | 3 => m.mix
  | 4 => m.out
  | 5 => m.soft
  | _ => m.odds
def MP.pl (p : MP) : Nat → SP
  | 0 => p.cuts
  | 1 => p.embed
  | 2 => p.place
  | 3 => p.mix
  | 4 => p.out
  | 5 => p.soft
  | _ => p.odds
def mCells (m : MD) (p : MP) : List Value := [.int .i64 m.kind, .int .i64 m.vocab, .int .i64 m.width, .int .i64 m.top, .slice p.cuts.A m.cuts.length p.cuts.c, .slice p.embed.A m.embed.length p.embed.c, .slice p.place.A m.place.length p.place.c,
  .slice p.mix.A m.mix.length p.mix.c, .slice p.out.A m.out.length p.out.c, .slice p.soft.A m.soft.length p.soft.c, .slice p.odds.A m.odds.length p.odds.c]
structure MAt (w : World) (m : MD) (p : MP) : Prop where
  cuts : Rd w (.slice p.cuts.A m.cuts.length p.cuts.c) m.cuts
  embed : Rd w (.slice p.embed.A m.embed.length p.embed.c) m.embed
  place : Rd w (.slice p.place.A m.place.length p.place.c) m.place
  mix : Rd w (.slice p.mix.A m.mix.length p.mix.c) m.mix
  out : Rd w (.slice p.out.A m.out.length p.out.c) m.out
  soft : Rd w (.slice p.soft.A m.soft.length p.soft.c) m.soft
  odds : Rd w (.slice p.odds.A m.odds.length p.odds.c) m.odds
theorem MAt.below {w w' : World} {m : MD} {p : MP} (h : MAt w m p) (hb : Below w.heap.size w w') : MAt w' m p :=
  ⟨h.cuts.below hb, h.embed.below hb, h.place.below hb, h.mix.below hb, h.out.below hb, h.soft.below hb, h.odds.below hb⟩
theorem MAt.drewN {w : World} {m : MD} {p : MP} (h : MAt w m p) (n : Nat) : MAt (w.drewN n) m p := ⟨h.cuts, h.embed, h.place, h.mix, h.out, h.soft, h.odds⟩
theorem seven {P : Nat → Prop} (h0 : P 0) (h1 : P 1) (h2 : P 2) (h3 : P 3) (h4 : P 4) (h5 : P 5) (h6 : P 6) : ∀ i, i < 7 → P i := by
  intro i hi
  have : i = 0 ∨ i = 1 ∨ i = 2 ∨ i = 3 ∨ i = 4 ∨ i = 5 ∨ i = 6 := by omega
  rcases this with rfl | rfl | rfl | rfl | rfl | rfl | rfl
  · exact h0
  · exact h1
  · exact h2
  · exact h3
  · exact h4
  · exact h5
  · exact h6
theorem MAt.ith {w : World} {m : MD} {p : MP} (h : MAt w m p) : ∀ i, i < 7 → Rd w (.slice (p.pl i).A (m.lst i).length (p.pl i).c) (m.lst i) :=
  seven h.cuts h.embed h.place h.mix h.out h.soft h.odds
theorem mCells_ith (m : MD) (p : MP) : ∀ i, i < 7 → (mCells m p)[4 + i]? = some (.slice (p.pl i).A (m.lst i).length (p.pl i).c) :=
  seven rfl rfl rfl rfl rfl rfl rfl
theorem mul_le {a b A B : Int} (h1 : 0 ≤ a ∧ a ≤ A) (h2 : 0 ≤ b ∧ b ≤ B) : a * b ≤ A * B := Int.le_trans (Int.mul_le_mul_of_nonneg_right h1.2 h2.1) (Int.mul_le_mul_of_nonneg_left h2.2 (by omega))
theorem MD.Ok.len {m : MD} (h : m.Ok) : ∀ k, k < 7 → 0 < (m.lst k).length ∧ (m.lst k).length ≤ 100 := by
  have hw := h.width
  have hv := h.vocab
  have e1 : m.vocab * m.width ≤ 16 * 5 := mul_le (by omega) (by omega)
  have e2 : 2 * 1 ≤ m.vocab * m.width := mul_le (by omega) (by omega)
  have hww : m.width * m.width ≤ 5 * 5 := mul_le (by omega) (by omega)
  have hww1 : 1 * 1 ≤ m.width * m.width := mul_le (by omega) (by omega)
  refine seven ?_ ?_ ?_ ?_ ?_ ?_ ?_ <;> simp only [MD.lst]
  · have := h.cuts; omega
  · have := h.embed; omega
  · have h1 := h.place
    have e := Int.mul_ediv_add_emod m.place.length m.width
    have : m.width * ((m.place.length : Int) / m.width) ≤ 5 * 16 := mul_le (by omega) (by omega)
    have : 1 * 1 ≤ m.width * ((m.place.length : Int) / m.width) := mul_le (by omega) (by omega)
    omega
  · have h1 := h.mix
    have e := Int.mul_ediv_add_emod m.mix.length (m.width * m.width)
    have : (m.width * m.width) * ((m.mix.length : Int) / (m.width * m.width)) ≤ 25 * 4 := mul_le (by omega) (by omega)
    have : 1 * 1 ≤ (m.width * m.width) * ((m.mix.length : Int) / (m.width * m.width)) := mul_le (by omega) (by omega)
    omega
  · have := h.out; omega
  · exact ⟨by have := h.soft; omega, by have := h.soft; omega⟩
  · exact ⟨by have := h.odds; omega, by have := h.odds; omega⟩
/-- The places of a model's lists, none of which is empty. -/
structure Pl where
  b : Nat
  o : Nat
  c : Nat
def Pl.sp (p : Pl) : SP := ⟨some ⟨p.b, p.o, none⟩, p.c⟩
structure MPl where
  cuts : Pl
  embed : Pl
  place : Pl
  mix : Pl
  out : Pl
  soft : Pl
  odds : Pl
def MPl.mp (q : MPl) : MP := ⟨q.cuts.sp, q.embed.sp, q.place.sp, q.mix.sp, q.out.sp, q.soft.sp, q.odds.sp⟩
/-- A model as a value. -/
def modC (m : MD) (p : MPl) : List Value := [.int .i64 m.kind, .int .i64 m.vocab, .int .i64 m.width, .int .i64 m.top, .slice (some ⟨p.cuts.b, p.cuts.o, none⟩) m.cuts.length p.cuts.c, .slice (some ⟨p.embed.b, p.embed.o, none⟩) m.embed.length p.embed.c, .slice (some ⟨p.place.b, p.place.o, none⟩) m.place.length p.place.c,
  .slice (some ⟨p.mix.b, p.mix.o, none⟩) m.mix.length p.mix.c, .slice (some ⟨p.out.b, p.out.o, none⟩) m.out.length p.out.c, .slice (some ⟨p.soft.b, p.soft.o, none⟩) m.soft.length p.soft.c, .slice (some ⟨p.odds.b, p.odds.o, none⟩) m.odds.length p.odds.c]
theorem modC_mp (m : MD) (q : MPl) : mCells m q.mp = modC m q := rfl
structure ModAt (w : World) (m : MD) (p : MPl) : Prop where
  cuts : RdAt w p.cuts.b p.cuts.o p.cuts.c m.cuts
  embed : RdAt w p.embed.b p.embed.o p.embed.c m.embed
  place : RdAt w p.place.b p.place.o p.place.c m.place
  mix : RdAt w p.mix.b p.mix.o p.mix.c m.mix
  out : RdAt w p.out.b p.out.o p.out.c m.out
  soft : RdAt w p.soft.b p.soft.o p.soft.c m.soft
  odds : RdAt w p.odds.b p.odds.o p.odds.c m.odds
theorem ModAt.below {w w' : World} {m : MD} {p : MPl} (h : ModAt w m p) (hb : Below w.heap.size w w') : ModAt w' m p :=
  ⟨h.cuts.below hb, h.embed.below hb, h.place.below hb, h.mix.below hb, h.out.below hb, h.soft.below hb, h.odds.below hb⟩
theorem ModAt.drewN {w : World} {m : MD} {p : MPl} (h : ModAt w m p) (n : Nat) : ModAt (w.drewN n) m p := ⟨h.cuts, h.embed, h.place, h.mix, h.out, h.soft, h.odds⟩
theorem Rd.rdat {w : World} {A : Option Addr} {n c : Nat} {l : List Int} (h : Rd w (.slice A n c) l) (h0 : 0 < l.length) : ∃ p : Pl, A = some ⟨p.b, p.o, none⟩ ∧ c = p.c ∧ RdAt w p.b p.o p.c l := by
  obtain ⟨A', c', hv, h1, h2, h3⟩ := h
  injection hv with e1 e2 e3
  subst e1 e3
  obtain ⟨b, o, hA, hc⟩ := h3 h0
  exact ⟨⟨b, o, c⟩, hA, rfl, h1, h2, fun i hi => by rw [hc i hi]; simp [List.getD, hi]⟩
theorem RdAt.rd {w : World} {b o c : Nat} {l : List Int} (h : RdAt w b o c l) : Rd w (.slice (some ⟨b, o, none⟩) l.length c) l :=
  ⟨_, c, rfl, h.1, h.2.1, fun _ => ⟨b, o, rfl, fun i hi => by rw [h.2.2 i hi]; simp [List.getD, hi]⟩⟩
theorem MAt.places {w : World} {m : MD} {p : MP} (h : MAt w m p) (hm : m.Ok) : ∃ q : MPl, p = q.mp ∧ ModAt w m q := by
  obtain ⟨⟨a1, c1⟩, ⟨a2, c2⟩, ⟨a3, c3⟩, ⟨a4, c4⟩, ⟨a5, c5⟩, ⟨a6, c6⟩, ⟨a7, c7⟩⟩ := p
  obtain ⟨p1, e1, f1, r1⟩ := h.cuts.rdat (hm.len 0 (by omega)).1
  obtain ⟨p2, e2, f2, r2⟩ := h.embed.rdat (hm.len 1 (by omega)).1
  obtain ⟨p3, e3, f3, r3⟩ := h.place.rdat (hm.len 2 (by omega)).1
  obtain ⟨p4, e4, f4, r4⟩ := h.mix.rdat (hm.len 3 (by omega)).1
  obtain ⟨p5, e5, f5, r5⟩ := h.out.rdat (hm.len 4 (by omega)).1
  obtain ⟨p6, e6, f6, r6⟩ := h.soft.rdat (hm.len 5 (by omega)).1
  obtain ⟨p7, e7, f7, r7⟩ := h.odds.rdat (hm.len 6 (by omega)).1
  simp only at e1 e2 e3 e4 e5 e6 e7 f1 f2 f3 f4 f5 f6 f7
  subst e1 e2 e3 e4 e5 e6 e7 f1 f2 f3 f4 f5 f6 f7
  exact ⟨⟨p1, p2, p3, p4, p5, p6, p7⟩, rfl, ⟨r1, r2, r3, r4, r5, r6, r7⟩⟩
theorem ModAt.mat {w : World} {m : MD} {q : MPl} (h : ModAt w m q) : MAt w m q.mp := ⟨h.cuts.rd, h.embed.rd, h.place.rd, h.mix.rd, h.out.rd, h.soft.rd, h.odds.rd⟩
theorem RdAt.part {w : World} {b o c : Nat} {l : List Int} (h : RdAt w b o c l) (i n : Nat) (hn : i + n ≤ l.length) : RdAt w b (o + i) (c - i) ((l.drop i).take n) := by
  have hl : ((l.drop i).take n).length = n := by simp; omega
  refine ⟨by rw [hl]; have := h.1; omega, by have := h.2.1; omega, fun j hj => ?_⟩
  rw [hl] at hj
  rw [Nat.add_assoc, h.2.2 (i + j) (by omega)]
  simp [List.getD, List.getElem?_drop, hj]
theorem RdAt.row {w : World} {b o c : Nat} {l : List Int} (h : RdAt w b o c l) (k n : Nat) (hn : n * (k + 1) ≤ l.length) : RdAt w b (o + n * k) (c - n * k) (rowL l k n) :=
  h.part (n * k) n (by rw [Nat.mul_add, Nat.mul_one] at hn; exact hn)
end Go.Proofs.YtdbhlkejfecffaaGreatDoor
/-
  The stream: what a question leaves.
-/
namespace Go.Proofs.YtdbhlkejfecffaaGreatDoor
open Go.RowKit

theorem Pow10.asks {xb : Nat} {V : Value} {L : List Int} {K : Nat} {w w' : World} (h : Pow10 w) (hs : St w xb V L K) (k : KeepX xb w w') : Pow10 w' := by
  obtain ⟨a, ha, hb, hr, hv⟩ := hs
  exact h.keep k hb
theorem Asks.refl {w : World} {xb : Nat} {V : Value} {L : List Int} {K : Nat} (h : St w xb V L K) : Asks xb V L K w w := ⟨KeepX.of_below (Below.refl _ _), h⟩
theorem Asks.below {xb : Nat} {V : Value} {L : List Int} {K : Nat} {a b c : World} (h : Asks xb V L K a b) (hb : Below b.heap.size b c) : Asks xb V L K a c := ⟨h.1.trans (KeepX.of_below hb), h.2.below hb⟩
theorem Asks.up {xb : Nat} {V : Value} {L : List Int} {K K' : Nat} {a b : World} (h : Asks xb V L K a b) (hk : K ≤ K') : Asks xb V L K' a b := ⟨h.1, h.2.mono hk⟩
theorem KeepX.own {xb : Nat} {w w' : World} (h : KeepX xb w w') {base : Nat} {e : TypeId} {size : Nat} {v : Value} {n : Nat} {xs : List Value} (ho : w.ownsRow base e size v n xs) (hb : xb < base) : w'.ownsRow base e size v n xs :=
  ownsRow_block ho fun b hlt hv => h.block b hlt (by have := ownsRow_base ho b hv; omega)
theorem KeepX.app {xb : Nat} {a b c : World} (h : KeepX xb a b) (k : Below a.heap.size b c) : KeepX xb a c :=
  ⟨k.os.trans h.os, k.tape.trans h.tape, k.output.trans h.output, Nat.le_trans h.size k.size, fun x hx hn => (k.block x hx).trans (h.block x hx hn)⟩
/-- The stream lies below a bound. -/
def Far (xb : Nat) (V : Value) (L : List Int) (B : Nat) : Prop := xb < B ∧ (0 < L.length → ∀ k, V.ownBlock = some k → k < B)
theorem St.far {w : World} {xb : Nat} {V : Value} {L : List Int} {K : Nat} (h : St w xb V L K) : Far xb V L w.heap.size := by
  obtain ⟨a, ha, hb, hr, hv⟩ := h
  exact ⟨hb.lt, fun h0 k hk => hr.lt h0 k hk⟩
theorem Far.mono {xb : Nat} {V : Value} {L : List Int} {B B' : Nat} (h : Far xb V L B) (hb : B ≤ B') : Far xb V L B' := ⟨by have := h.1; omega, fun h0 k hk => by have := h.2 h0 k hk; omega⟩
theorem St.base {xb : Nat} {V : Value} {L : List Int} {K B : Nat} {w w' : World} (h : St w xb V L K) (hf : Far xb V L B) (hb : Below B w w') : St w' xb V L K := by
  obtain ⟨a, ha, hk, hr, hv⟩ := h
  refine ⟨a, ha, ?_, hr.block fun b hlt hvb h0 => hb.block b (hf.2 h0 b hvb), hv⟩
  unfold Blk at hk ⊢; rw [hb.block xb hf.1]; exact hk
theorem Asks.base {xb : Nat} {V : Value} {L : List Int} {K : Nat} {a b c : World} (h : Asks xb V L K a b) (hf : Far xb V L a.heap.size) (hb : Below a.heap.size b c) : Asks xb V L K a c := ⟨h.1.app hb, h.2.base hf hb⟩
end Go.Proofs.YtdbhlkejfecffaaGreatDoor
