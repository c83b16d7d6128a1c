/-
  The stream of numbers: Below, Next, Range, Flip, Pick.
  The stream: bytes; what is written beside two blocks.
-/
import Derived.Deep.AppendLies
import Derived.IntWalk
import Derived.Test.YtplkchmcojnimaaGreatDoorSa1
/-
  The stream of numbers: Below, Next, Range, Flip, Pick.
-/
namespace Go.Proofs.YtplkchmcojnimaaGreatDoor
open Go.RowKit

def RdAt (w : World) (b o c : Nat) (l : List Int) : Prop := l.length ≤ c ∧ c ≤ maxLen ∧ ∀ i, i < l.length → w.cell? ⟨b, o + i, none⟩ = some (.int .i64 (l.getD i 0))
theorem RdAt.lt {w : World} {b o c : Nat} {l : List Int} (h : RdAt w b o c l) (h0 : 0 < l.length) : b < w.heap.size := World.block_lt_of_cell? w _ (h.2.2 0 h0)
theorem RdAt.below {w w' : World} {b o c : Nat} {l : List Int} (h : RdAt w b o c l) (hb : Below w.heap.size w w') : RdAt w' b o c l := by
  refine ⟨h.1, h.2.1, fun i hi => ?_⟩
  rw [World.cell?_of_block (a := ⟨b, o + i, none⟩) (hb.block b (h.lt (by omega)))]
  exact h.2.2 i hi
theorem RdAt.drewN {w : World} {b o c : Nat} {l : List Int} (h : RdAt w b o c l) (n : Nat) : RdAt (w.drewN n) b o c l := h
theorem Blk.rdat {w : World} {b : Nat} {l : List Int} {rest : List Value} {c : Nat} (h : Blk w b (ints l ++ rest) 3) (h1 : l.length ≤ c) (h2 : c ≤ maxLen) : RdAt w b 0 c l :=
  ⟨h1, h2, fun i hi => by rw [Nat.zero_add, h.cell, List.getElem?_append_left (by rw [ints_length]; exact hi)]; simp [ints, List.getD, hi]⟩

structure Keep (d : Nat) (w w' : World) : Prop where
  os : w'.os = w.os
  tape : w'.tape = w.tape
  output : w'.output = w.output
  size : w.heap.size ≤ w'.heap.size
  block : ∀ b, b < w.heap.size → b ≠ d → w'.heap[b]? = w.heap[b]?
theorem Keep.blk {d : Nat} {w w' : World} (h : Keep d w w') {b : Nat} {l : List Value} {t : TypeId} (hb : Blk w b l t) (hne : b ≠ d) : Blk w' b l t := by
  have := hb.lt; unfold Blk at hb ⊢
  rw [h.block b this hne]; exact hb
theorem Keep.rd {d : Nat} {w w' : World} (h : Keep d w w') {b o c : Nat} {l : List Int} (hr : RdAt w b o c l) (h0 : 0 < l.length) (hne : b ≠ d) : RdAt w' b o c l := by
  refine ⟨hr.1, hr.2.1, fun i hi => ?_⟩
  rw [World.cell?_of_block (a := ⟨b, o + i, none⟩) (w := w) (h.block b (hr.lt h0) hne)]
  exact hr.2.2 i hi
theorem Keep.below {d : Nat} {w0 w w' : World} (h : Keep d w w') (hb : Below w0.heap.size w0 w) (hd : w0.heap.size ≤ d) : Below w0.heap.size w0 w' :=
  ⟨h.os.trans hb.os, h.tape.trans hb.tape, h.output.trans hb.output, Nat.le_trans hb.size h.size, fun b hlt => by
    rw [h.block b (Nat.lt_of_lt_of_le hlt hb.size) (by omega)]; exact hb.block b hlt⟩
theorem Keep.of_below {d : Nat} {w w' : World} (h : Below w.heap.size w w') : Keep d w w' := ⟨h.os, h.tape, h.output, h.size, fun b hb _ => h.block b hb⟩
theorem Keep.trans {d : Nat} {a b c : World} (h : Keep d a b) (k : Keep d b c) : Keep d a c :=
  ⟨k.os.trans h.os, k.tape.trans h.tape, k.output.trans h.output, Nat.le_trans h.size k.size, fun x hx hn => (k.block x (Nat.lt_of_lt_of_le hx h.size) hn).trans (h.block x hx hn)⟩
theorem Keep.setNew {d g : Nat} {w w' : World} (h : Keep d w w') (hg : w.heap.size ≤ g) (o : Nat) (v : Value) : Keep d w (w'.setCell ⟨g, o, none⟩ v) :=
  ⟨h.os, h.tape, h.output, Nat.le_trans h.size (by simp [World.setCell]), fun x hx hn => by
    rw [Below.heap_setCell _ _ _ _ (show x ≠ g by omega)]; exact h.block x hx hn⟩
theorem Keep.setD {d : Nat} {w w' : World} (h : Keep d w w') (o : Nat) (v : Value) : Keep d w (w'.setCell ⟨d, o, none⟩ v) :=
  ⟨h.os, h.tape, h.output, Nat.le_trans h.size (by simp [World.setCell]), fun x hx hn => by
    rw [Below.heap_setCell _ _ _ _ hn]; exact h.block x hx hn⟩

set_option maxRecDepth 100000 in
set_option maxHeartbeats 800000 in
theorem below_any (x n : Int) (hn : 1 ≤ n ∧ n ≤ 1099511627776) (w : World) : Calls Tryz.prog 6 #[.int .i64 x, .int .i64 n] w fun e w' => (∃ r : Int, e = .returned (.int .i64 r) ∧ 0 ≤ r ∧ r < n) ∧ w' = w := by
  have t1 : decide (n < 1) = false := decide_eq_false (by omega)
  have t2 : ¬ n = 0 := by omega
  have hb1 : x.tmod n < n := Int.tmod_lt_of_pos x (by omega)
  have hb2 : -n < x.tmod n := Int.lt_tmod_of_pos x (by omega)
  obtain ⟨m, hm⟩ : ∃ m, x.tmod n = m := ⟨_, rfl⟩
  rw [hm] at hb1 hb2
  by_cases hneg : m < 0
  · have e1 : IntKind.i64.wrap (m + n) = m + n := IntWalk.i64_in _ (by omega)
    have HR := Lib.hid (show 0 ≤ m + n ∧ m + n < n by omega)
    have hb : decide (m < 0) = true := decide_eq_true hneg
    go_enter Tryz.func6, Tryz.ntmps6
    go_wp2
    go_ret
    exact ⟨⟨_, rfl, HR.out.1, HR.out.2⟩, rfl⟩
  · have HR := Lib.hid (show 0 ≤ m ∧ m < n by omega)
    have hb : decide (m < 0) = false := decide_eq_false hneg
    go_enter Tryz.func6, Tryz.ntmps6
    go_wp2
    go_ret
    exact ⟨⟨_, rfl, HR.out.1, HR.out.2⟩, rfl⟩

/-- A stream over L, that was asked at most K times. -/
def St (w : World) (xb : Nat) (V : Value) (L : List Int) (K : Nat) : Prop := ∃ at' : Nat, at' ≤ K ∧ Blk w xb [V, .int .i64 at'] 25 ∧ Rd w V L ∧ (0 < L.length → V.ownBlock ≠ some xb)
theorem St.mono {w : World} {xb : Nat} {V : Value} {L : List Int} {K K' : Nat} (h : St w xb V L K) (hk : K ≤ K') : St w xb V L K' := by
  obtain ⟨a, h1, h2⟩ := h
  exact ⟨a, by omega, h2⟩
theorem Rd.block {w w' : World} {v : Value} {xs : List Int} (h : Rd w v xs) (hb : ∀ b, b < w.heap.size → v.ownBlock = some b → 0 < xs.length → w'.heap[b]? = w.heap[b]?) : Rd w' v xs := by
  by_cases h0 : 0 < xs.length
  · exact h.of_cells fun b hv => hb b (h.lt h0 b hv) hv h0
  · obtain ⟨A, c, rfl, h1, h2, h3⟩ := h
    exact ⟨A, c, rfl, h1, h2, fun h => absurd h h0⟩
theorem St.below {w w' : World} {xb : Nat} {V : Value} {L : List Int} {K : Nat} (h : St w xb V L K) (hb : Below w.heap.size w w') : St w' xb V L K := by
  obtain ⟨a, h1, h2, h3, h4⟩ := h
  exact ⟨a, h1, h2.below hb, h3.below hb, h4⟩
theorem St.lt {w : World} {xb : Nat} {V : Value} {L : List Int} {K : Nat} (h : St w xb V L K) : xb < w.heap.size := by
  obtain ⟨a, h1, h2, h3, h4⟩ := h
  exact h2.lt
/-- What a question of the stream leaves. -/
def Asks (xb : Nat) (V : Value) (L : List Int) (K : Nat) (w w' : World) : Prop := Keep xb w w' ∧ St w' xb V L K
theorem Asks.trans {xb : Nat} {V : Value} {L : List Int} {K K' : Nat} {a b c : World} (h : Asks xb V L K a b) (k : Asks xb V L K' b c) : Asks xb V L K' a c := ⟨h.1.trans k.1, k.2⟩

set_option maxRecDepth 100000 in
set_option maxHeartbeats 1600000 in
theorem Next_st (xb : Nat) (V : Value) (L : List Int) (K : Nat) (hK : K ≤ 1000000) (n : Int) (hn : 1 ≤ n ∧ n ≤ 1099511627776) (w : World) (h : St w xb V L K) :
    Calls Tryz.prog 14 #[.pointer (some ⟨xb, 0, none⟩), .int .i64 n] w fun e w' => ∃ r : Int, e = .returned (.int .i64 r) ∧ Hid (0 ≤ r ∧ r < n) ∧ Hid (Asks xb V L (K + 1) w w') := by
  obtain ⟨a, ha, hb, hr, hv⟩ := h
  have c1 := hb.cell
  have f1 := hb.frozen
  have ew : IntKind.i64.wrap ((a : Int) + 1) = (a : Int) + 1 := IntWalk.i64_in _ (by omega)
  obtain ⟨w1, hw1, hk1, hb1⟩ : ∃ w1, w.setCell ⟨xb, 1, none⟩ (.int .i64 ((a : Int) + 1)) = w1 ∧ Keep xb w w1 ∧ Blk w1 xb [V, .int .i64 ((a + 1 : Nat) : Int)] 25 := ⟨_, rfl, (Keep.of_below (Below.refl _ _)).setD _ _, hb.set 1 _⟩
  have hr1 : Rd w1 V L := hr.block fun b hlt hvb h0 => hk1.block b hlt (fun e => hv h0 (by rw [hvb, e]))
  have HST := Lib.hid (show St w1 xb V L (K + 1) from ⟨a + 1, by omega, hb1, hr1, hv⟩)
  have HK1 := Lib.hid hk1
  have HB1 := Lib.hid hb1
  have d1 := hb1.cell
  rw [show ((a + 1 : Nat) : Int) = (a : Int) + 1 by omega] at d1
  obtain ⟨A, c, hV, hc1, hc2, hcell⟩ := hr1
  subst hV
  have HBL := Lib.hid fun (x : Int) (wx : World) => below_any x n hn wx
  have HCELL := Lib.hid hcell
  have hlm : L.length ≤ maxLen := by omega
  have HC1 := Lib.hid hc1
  unfold maxLen at hlm
  have HLM := Lib.hid hlm
  clear hb hr hv hk1 hb1 hcell hc1 hc2 hlm
  by_cases hl : L.length = 0
  · have hl0 : ((L.length : Nat) : Int) = 0 := by omega
    have b0 : (((L.length : Nat) : Int) == 0) = true := by simp [hl0]
    go_enter Tryz.func14, Tryz.ntmps14
    go_wp2_with (go_at_call 6; refine (HBL.out _ _).mono ?_; rintro e wz ⟨⟨r, rfl, h0, h1⟩, hz⟩; subst wz; have HR := Lib.hid (And.intro h0 h1); clear h0 h1)
    go_ret
    exact ⟨_, rfl, HR, Lib.hid ⟨HK1.out, HST.out⟩⟩
  · have b0 : (((L.length : Nat) : Int) == 0) = false := by
      have : ¬ ((L.length : Nat) : Int) = 0 := by omega
      simpa using this
    have b1 : ¬ ((L.length : Nat) : Int) = 0 := by omega
    obtain ⟨b, o, hA, hcell⟩ := HCELL.out (Nat.pos_of_ne_zero hl)
    subst hA
    obtain ⟨i, hi, hil⟩ : ∃ i : Nat, (a : Int).tmod (L.length : Int) = (i : Int) ∧ i < L.length := ⟨a % L.length, by rw [Int.tmod_eq_emod_of_nonneg (Int.natCast_nonneg a)]; rfl, Nat.mod_lt a (Nat.pos_of_ne_zero hl)⟩
    have hi2 : (a : Int) % (L.length : Int) = (i : Int) := by rw [← hi, Int.tmod_eq_emod_of_nonneg (Int.natCast_nonneg a)]
    obtain ⟨q, hq⟩ : ∃ q : Int, (a : Int).tdiv (L.length : Int) = q := ⟨_, rfl⟩
    have c5 := hcell i hil
    have ti : (i : Int) < (L.length : Int) := by omega
    have ew2 : IntKind.i64.wrap ((a : Int)) = (a : Int) := IntWalk.i64_in _ (by omega)
    generalize L[i] = xv at c5
    have HBL2 := Lib.hid fun (x : Int) (wx : World) => below_any x 1073741824 (by omega) wx
    clear hcell
    go_enter Tryz.func14, Tryz.ntmps14
    go_wp2
    go_quiet (fail)
    go_wp2
    go_quiet (fail)
    go_wp2_with (first | (go_at_call 6; have _g := HR1; clear _g; refine (HBL.out _ _).mono ?_; rintro e wz ⟨⟨r, rfl, h0, h1⟩, hz⟩; subst wz; have HR := Lib.hid (And.intro h0 h1); clear h0 h1) | (go_at_call 6; refine (HBL2.out _ _).mono ?_; rintro e wz ⟨⟨r1, rfl, h0, h1⟩, hz⟩; subst wz; have HR1 := Lib.hid (And.intro h0 h1); clear h0 h1))
    go_ret
    obtain ⟨a2, s1, s2, s3, s4⟩ := HST.out
    exact ⟨_, rfl, HR, Lib.hid ⟨⟨HK1.out.os, HK1.out.tape, HK1.out.output, HK1.out.size, HK1.out.block⟩, a2, s1, s2, s3, s4⟩⟩

/-- .. as a fact for later walks: the stream is asked once. -/
def Asked1 (xb : Nat) (V : Value) (L : List Int) (lo hi : Int) (K : Nat) (w : World) (e : Ending) (w' : World) : Prop := ∃ r : Int, e = .returned (.int .i64 r) ∧ Hid (lo ≤ r ∧ r ≤ hi) ∧ Hid (Asks xb V L K w w')
set_option maxRecDepth 100000 in
set_option maxHeartbeats 800000 in
theorem Range_st (xb : Nat) (V : Value) (L : List Int) (K : Nat) (hK : K ≤ 1000000) (lo hi : Int) (hlo : -1000 ≤ lo ∧ lo ≤ hi ∧ hi ≤ 1000) (w : World) (h : St w xb V L K) :
    Calls Tryz.prog 20 #[.pointer (some ⟨xb, 0, none⟩), .int .i64 lo, .int .i64 hi] w fun e w' => ∃ r : Int, e = .returned (.int .i64 r) ∧ Hid (lo ≤ r ∧ r ≤ hi) ∧ Hid (Asks xb V L (K + 1) w w') := by
  have HN := Lib.hid (Next_st xb V L K hK (hi - lo + 1) (by omega) w h)
  have t1 : decide (hi < lo) = false := decide_eq_false (by omega)
  have e1 : IntKind.i64.wrap (hi - lo) = hi - lo := IntWalk.i64_in _ (by omega)
  have e2 : IntKind.i64.wrap (hi - lo + 1) = hi - lo + 1 := IntWalk.i64_in _ (by omega)
  have HB := Lib.hid hlo
  clear h hlo
  go_enter Tryz.func20, Tryz.ntmps20
  go_wp2_with (go_at_call 14; refine HN.out.mono ?_; rintro e w1 ⟨r, rfl, HR, HA⟩; have e3 : IntKind.i64.wrap (lo + r) = lo + r := IntWalk.i64_in _ (by have := HR.out; have := HB.out; omega))
  go_ret
  exact ⟨_, rfl, Lib.hid (by have := HR.out; omega), HA⟩
set_option maxRecDepth 100000 in
set_option maxHeartbeats 800000 in
theorem Flip_st (xb : Nat) (V : Value) (L : List Int) (K : Nat) (hK : K ≤ 1000000) (n : Int) (hn : 1 ≤ n ∧ n ≤ 1000) (w : World) (h : St w xb V L K) :
    Calls Tryz.prog 22 #[.pointer (some ⟨xb, 0, none⟩), .int .i64 n] w fun e w' => ∃ r : Bool, e = .returned (.bool r) ∧ Hid (Asks xb V L (K + 1) w w') := by
  have HN := Lib.hid (Next_st xb V L K hK n (by omega) w h)
  clear h
  go_enter Tryz.func22, Tryz.ntmps22
  go_wp2_with (go_at_call 14; refine HN.out.mono ?_; rintro e w1 ⟨r, rfl, HR, HA⟩)
  go_ret
  exact ⟨_, rfl, HA⟩
theorem pick_cell {xb : Nat} {V : Value} {L : List Int} {K g c : Nat} {l : List Int} {w w1 : World} {r : Int} (hr : RdAt w g 0 c l) (ha : Asks xb V L K w w1) (hg : g ≠ xb) (h0 : 0 < l.length) (hlt : 0 ≤ r ∧ r < (l.length : Int)) : w1.cell? ⟨g, r.toNat, none⟩ = some (.int .i64 (l.getD r.toNat 0)) := by
  have := (ha.1.rd hr h0 hg).2.2 r.toNat (by omega)
  rw [Nat.zero_add] at this
  exact this
theorem pick_mem {l : List Int} {r : Int} (hlt : 0 ≤ r ∧ r < (l.length : Int)) : l.getD r.toNat 0 ∈ l := by
  have h : r.toNat < l.length := by omega
  rw [show l.getD r.toNat 0 = l[r.toNat] by simp [List.getD, h]]
  exact List.getElem_mem h
set_option maxRecDepth 100000 in
set_option maxHeartbeats 800000 in
theorem Pick_st (xb : Nat) (V : Value) (L : List Int) (K : Nat) (hK : K ≤ 1000000) (g n c : Nat) (l : List Int) (hn : n = l.length) (h0 : 0 < n) (hl : n ≤ 100) (w : World) (h : St w xb V L K) (hr : RdAt w g 0 c l) (hg : g ≠ xb) :
    Calls Tryz.prog 21 #[.pointer (some ⟨xb, 0, none⟩), .slice (some ⟨g, 0, none⟩) n c] w fun e w' => ∃ r : Int, e = .returned (.int .i64 r) ∧ Hid (r ∈ l) ∧ Hid (Asks xb V L (K + 1) w w') := by
  subst hn
  have HN := Lib.hid (Next_st xb V L K hK l.length (by omega) w h)
  have HR := Lib.hid hr
  have HG := Lib.hid hg
  have H0 := Lib.hid h0
  clear h hr hg
  go_enter Tryz.func21, Tryz.ntmps21
  go_wp2_with (go_at_call 14; refine HN.out.mono ?_; rintro e w1 ⟨r, rfl, HRR, HA⟩; have hlt : 0 ≤ r ∧ r < (l.length : Int) := HRR.out; have hlt1 := hlt.1; have hlt2 := hlt.2; have hc : w1.cell? ⟨g, r.toNat, none⟩ = some (.int .i64 (l.getD r.toNat 0)) := pick_cell HR.out HA.out HG.out H0.out hlt)
  go_ret
  exact ⟨_, rfl, Lib.hid (List.getElem_mem _), HA⟩
end Go.Proofs.YtplkchmcojnimaaGreatDoor
/-
  The stream: bytes; what is written beside two blocks.
-/
namespace Go.Proofs.YtplkchmcojnimaaGreatDoor
open Go.RowKit

/-- A choice among numbers that were just laid down. -/
theorem Pick_lit (xb : Nat) (V : Value) (L : List Int) (K : Nat) (hK : K ≤ 1000000) (l : List Int) (cs : Array Value) (hcs : cs = (ints l).toArray) (n : Nat) (hn : n = l.length) (h0 : 0 < l.length) (hl : l.length ≤ 100) (w : World) (h : St w xb V L K) (k : Nat) :
    Calls Tryz.prog 21 #[.pointer (some ⟨xb, 0, none⟩), .slice (some ⟨w.heap.size, 0, none⟩) n n] ((w.alloc (.cells cs 3)).drewN k) fun e w' => ∃ r : Int, e = .returned (.int .i64 r) ∧ Hid (r ∈ l) ∧ Hid (Asks xb V L (K + 1) w w') := by
  subst hcs hn
  have hb : Below w.heap.size w ((w.alloc (.cells (ints l).toArray 3)).drewN k) := below_drewN ((Below.refl _ _).alloc (Nat.le_refl _) _) k
  have hk : Blk ((w.alloc (.cells (ints l).toArray 3)).drewN k) w.heap.size (ints l ++ []) 3 := by rw [List.append_nil]; exact heap_alloc_new w _
  refine (Pick_st xb V L K hK w.heap.size l.length l.length l rfl h0 hl _ (h.below hb) (hk.rdat (Nat.le_refl _) (by unfold maxLen; omega)) (by have := h.lt; omega)).mono ?_
  rintro e w1 ⟨r, rfl, hr, ha⟩
  exact ⟨r, rfl, hr, Lib.hid ⟨(Keep.of_below hb).trans ha.out.1, ha.out.2⟩⟩
theorem Pick_lit0 (xb : Nat) (V : Value) (L : List Int) (K : Nat) (hK : K ≤ 1000000) (l : List Int) (cs : Array Value) (hcs : cs = (ints l).toArray) (n : Nat) (hn : n = l.length) (h0 : 0 < l.length) (hl : l.length ≤ 100) (w : World) (h : St w xb V L K) :
    Calls Tryz.prog 21 #[.pointer (some ⟨xb, 0, none⟩), .slice (some ⟨w.heap.size, 0, none⟩) n n] (w.alloc (.cells cs 3)) fun e w' => ∃ r : Int, e = .returned (.int .i64 r) ∧ Hid (r ∈ l) ∧ Hid (Asks xb V L (K + 1) w w') := Pick_lit xb V L K hK l cs hcs n hn h0 hl w h 0
theorem Asks.refl {w : World} {xb : Nat} {V : Value} {L : List Int} {K : Nat} (h : St w xb V L K) : Asks xb V L K w w := ⟨Keep.of_below (Below.refl _ _), h⟩
theorem Asks.below {xb : Nat} {V : Value} {L : List Int} {K : Nat} {a b c : World} (h : Asks xb V L K a b) (hb : Below b.heap.size b c) : Asks xb V L K a c := ⟨h.1.trans (Keep.of_below hb), h.2.below hb⟩
theorem Asks.up {xb : Nat} {V : Value} {L : List Int} {K K' : Nat} {a b : World} (h : Asks xb V L K a b) (hk : K ≤ K') : Asks xb V L K' a b := ⟨h.1, h.2.mono hk⟩
theorem Keep.own {xb : Nat} {w w' : World} (h : Keep xb w w') {base : Nat} {e : TypeId} {size : Nat} {v : Value} {n : Nat} {xs : List Value} (ho : w.ownsRow base e size v n xs) (hb : xb < base) : w'.ownsRow base e size v n xs :=
  ownsRow_block ho fun b hlt hv => h.block b hlt (by have := ownsRow_base ho b hv; omega)
theorem Keep.app {xb : Nat} {a b c : World} (h : Keep xb a b) (k : Below a.heap.size b c) : Keep xb a c :=
  ⟨k.os.trans h.os, k.tape.trans h.tape, k.output.trans h.output, Nat.le_trans h.size k.size, fun x hx hn => (k.block x hx).trans (h.block x hx hn)⟩
theorem Keep.grown {xb : Nat} {w w' w2 : World} (h : Keep xb w w') {row : Option Nat} (hg : w'.grownBy w2 row) (hr : ∀ k, row = some k → w.heap.size ≤ k) : Keep xb w w2 :=
  h.app (Below.ofGrown hg h.size hr)
/-- The stream lies below a bound. -/
def Far (xb : Nat) (V : Value) (L : List Int) (B : Nat) : Prop := xb < B ∧ (0 < L.length → ∀ k, V.ownBlock = some k → k < B)
theorem St.far {w : World} {xb : Nat} {V : Value} {L : List Int} {K : Nat} (h : St w xb V L K) : Far xb V L w.heap.size := by
  obtain ⟨a, ha, hb, hr, hv⟩ := h
  exact ⟨hb.lt, fun h0 k hk => hr.lt h0 k hk⟩
theorem Far.mono {xb : Nat} {V : Value} {L : List Int} {B B' : Nat} (h : Far xb V L B) (hb : B ≤ B') : Far xb V L B' := ⟨by have := h.1; omega, fun h0 k hk => by have := h.2 h0 k hk; omega⟩
theorem St.base {xb : Nat} {V : Value} {L : List Int} {K B : Nat} {w w' : World} (h : St w xb V L K) (hf : Far xb V L B) (hb : Below B w w') : St w' xb V L K := by
  obtain ⟨a, ha, hk, hr, hv⟩ := h
  refine ⟨a, ha, ?_, hr.block fun b hlt hvb h0 => hb.block b (hf.2 h0 b hvb), hv⟩
  unfold Blk at hk ⊢; rw [hb.block xb hf.1]; exact hk
theorem Asks.base {xb : Nat} {V : Value} {L : List Int} {K : Nat} {a b c : World} (h : Asks xb V L K a b) (hf : Far xb V L a.heap.size) (hb : Below a.heap.size b c) : Asks xb V L K a c := ⟨h.1.app hb, h.2.base hf hb⟩
/-- One number is appended to a row of numbers. -/
theorem wpList_app1 {w : World} {ops : Array Oper} {rest : List Oper} {o : Oper} {a : Act} {Q : Exit → Act → World → Prop} (hgd : o.guard = none) (s x : Operand)
    (ho : o.op = .call { callee := .builtin .append, args := #[s, x], argTypes := #[22, 22] })
    (base : Nat) (v : Value) (n : Nat) (l : List Int) (hs : a.eval s = v) (hown : w.ownsRow base 3 1 v n (ints l))
    (u : Int) (b : Nat) (hx : a.eval x = .slice (some ⟨b, 0, none⟩) 1 1) (hc : w.cell? ⟨b, 0, none⟩ = some (.int .i64 u)) (hlen : n ≤ 1000) (hbase : base ≤ w.heap.size)
    (h : ∀ g cap w', w'.ownsRow base 3 1 (.slice (some ⟨g, 0, none⟩) (n + 1) cap) (n + 1) (ints (l ++ [u])) → Below base w w' → wpList Tryz.prog ops Q rest (a.put o.dst (.slice (some ⟨g, 0, none⟩) (n + 1) cap)) w') : wpList Tryz.prog ops Q (o :: rest) a w := by
  obtain ⟨i0, hi, hz0, hz1, hz2⟩ := info_parts info3
  exact wpList_append_lies w hgd s x 22 ho base 3 i0 (.int .i64 0) 1 8 Tryz.underlying22 hi hz0 hz1 hz2 rfl (by decide) v n _ hs hown ⟨b, 0, none⟩ 1 1 [.int .i64 u] hx rfl (fun j y hj => by
    have : j = 0 := by
      have := (List.getElem?_eq_some_iff.1 hj).1
      simp at this; exact this
    subst this
    have e : y = .int .i64 u := by simpa using hj.symm
    rw [e]; exact hc) (one_int _ _) Nat.one_pos (by unfold maxLen; omega) (by omega) hbase _ rfl (fun g cap w' h2 h3 _ _ => h g cap w' (by simpa [ints] using h2) (Below.ofGrown h3 hbase (ownsRow_base hown)))
theorem step_app1 {w : World} {ops : Array Oper} {o : Oper} {a : Act} {K : Act → World → Prop} {Q : Exit → Act → World → Prop} {E : Prop} (hgd : o.guard = none) (s x : Operand)
    (ho : o.op = .call { callee := .builtin .append, args := #[s, x], argTypes := #[22, 22] })
    (base : Nat) (v : Value) (n : Nat) (l : List Int) (hs : a.eval s = v) (hown : w.ownsRow base 3 1 v n (ints l))
    (u : Int) (b : Nat) (hx : a.eval x = .slice (some ⟨b, 0, none⟩) 1 1) (hc : w.cell? ⟨b, 0, none⟩ = some (.int .i64 u)) (hlen : n ≤ 1000) (hbase : base ≤ w.heap.size)
    (h : ∀ g cap w', w'.ownsRow base 3 1 (.slice (some ⟨g, 0, none⟩) (n + 1) cap) (n + 1) (ints (l ++ [u])) → Below base w w' → K (a.put o.dst (.slice (some ⟨g, 0, none⟩) (n + 1) cap)) w') :
    if Region.wanted o (yielded ops a.tmps) = true then Oper.wp Tryz.prog o a w K Q else E := by
  obtain ⟨i0, hi, hz0, hz1, hz2⟩ := info_parts info3
  exact step_append_lies w hgd s x 22 ho base 3 i0 (.int .i64 0) 1 8 Tryz.underlying22 hi hz0 hz1 hz2 rfl (by decide) v n _ hs hown ⟨b, 0, none⟩ 1 1 [.int .i64 u] hx rfl (fun j y hj => by
    have : j = 0 := by
      have := (List.getElem?_eq_some_iff.1 hj).1
      simp at this; exact this
    subst this
    have e : y = .int .i64 u := by simpa using hj.symm
    rw [e]; exact hc) (one_int _ _) Nat.one_pos (by unfold maxLen; omega) (by omega) hbase _ rfl (fun g cap w' h2 h3 _ _ => h g cap w' (by simpa [ints] using h2) (Below.ofGrown h3 hbase (ownsRow_base hown)))
/-- Some numbers of a stream, each as small as a byte. -/
def Byt (l : List Int) (n : Nat) : Prop := l.length = n ∧ ∀ x, x ∈ l → -128 ≤ x ∧ x ≤ 127
theorem Byt.more {l : List Int} {n : Nat} (h : Byt l n) {x : Int} (hx : -128 ≤ x ∧ x ≤ 127) : Byt (l ++ [x]) (n + 1) :=
  ⟨by rw [List.length_append, h.1]; rfl, fun y hy => by
    rcases List.mem_append.1 hy with h1 | h1
    · exact h.2 y h1
    · rw [List.mem_singleton.1 h1]; exact hx⟩
set_option maxRecDepth 100000 in
set_option maxHeartbeats 1600000 in
theorem bytes_st (xb : Nat) (V : Value) (L : List Int) (K : Nat) (n : Nat) (hn : n ≤ 200) (hK : K ≤ 100000) (w : World) (h : St w xb V L K) :
    Calls Tryz.prog 23 #[.pointer (some ⟨xb, 0, none⟩), .int .i64 n] w fun e w' => ∃ v l, e = .returned v ∧ Hid (Byt l n) ∧ Hid (w'.ownsRow w.heap.size 3 1 v n (ints l)) ∧ Hid (Asks xb V L (K + 2 * n) w w') := by
  have H := Lib.hid h
  have HF := Lib.hid h.far
  have HN := Lib.hid hn
  have HFL := Lib.hid (fun (k : Nat) (wx : World) (hk : k ≤ 200000) (hx : St wx xb V L k) => Flip_st xb V L k (by omega) 6 (by omega) wx hx)
  have HRG := Lib.hid (fun (k : Nat) (wx : World) (hk : k ≤ 200000) (hx : St wx xb V L k) => Range_st xb V L k (by omega) (-9) 9 (by omega) wx hx)
  have HPK := Lib.hid (fun (k : Nat) (wx : World) (hk : k ≤ 200000) (hx : St wx xb V L k) => Pick_lit0 xb V L k (by omega) [-128, 127] _ rfl 2 rfl (by decide) (by decide) wx hx)
  simp only [ints, List.map_cons, List.map_nil] at HPK
  clear h hn
  go_enter Tryz.func23, Tryz.ntmps23
  go_wp2
  go_loopg [5, 7] n (fun gk s5 s7 wx => ∃ (i : Nat) (l : List Int), s7 = .int .i64 i ∧ i ≤ n ∧ gk = n - i ∧ Hid (Byt l i) ∧ Hid (wx.ownsRow w.heap.size 3 1 s5 i (ints l)) ∧ Hid (Asks xb V L (K + 2 * i) w wx))
  case atStart => exact ⟨0, [], rfl, Nat.zero_le _, rfl, Lib.hid ⟨rfl, fun x hx => absurd hx (by simp)⟩, Lib.hid (World.ownsRow_nil _ _ _ _), Lib.hid (Asks.refl H.out)⟩
  case round =>
    obtain ⟨i, l, rfl, hil, rfl, HB, HO, HA⟩ := hrel
    obtain ⟨A5, c5, hv5⟩ := ownsRow_shape HO.out
    subst hv5
    by_cases hlt : i < n
    · have hk : K + 2 * i ≤ 200000 ∧ K + 2 * i + 1 ≤ 200000 ∧ i ≤ 1000 := by have := HN.out; omega
      have HK := Lib.hid hk
      clear hk
      go_wp2_with (first
        | (go_at_call 22; refine (HFL.out (K + 2 * i) wr HK.out.1 HA.out.2).mono ?_; rintro e w1 ⟨r, rfl, HA1⟩; cases r)
        | (go_at_call 21; refine (HPK.out (K + 2 * i + 1) w1 HK.out.2.1 HA1.out.2).mono ?_; rintro e w2 ⟨r2, rfl, HR2', HA2⟩; have HR2 := Lib.hid (show -128 ≤ r2 ∧ r2 ≤ 127 by have := HR2'.out; simp only [List.mem_cons, List.mem_nil_iff, or_false] at this; omega))
        | (go_at_call 20; refine (HRG.out (K + 2 * i + 1) w1 HK.out.2.1 HA1.out.2).mono ?_; rintro e w2 ⟨r2, rfl, HR2', HA2⟩; have HR2 := Lib.hid (show -128 ≤ r2 ∧ r2 ≤ 127 by have := HR2'.out; omega))
        | (at_builtin; refine wpList_app1 rfl _ _ rfl w.heap.size _ i l rfl (ownsRow_below (HA2.out.1.own (HA1.out.1.own HO.out HF.out.1) HF.out.1) ((Below.refl _ _).alloc (Nat.le_refl _) _)) r2 w2.heap.size rfl ((news_blk w2 [_] _).cell 0) HK.out.2.2 (Nat.le_trans ((HA.out.trans HA1.out).trans HA2.out).1.size (alloc_le _ _)) ?_; intro g cap w3 hown hb; have HO3 := Lib.hid hown; have HB3 := Lib.hid hb; clear hown hb))
      all_goals go_roundg (n - (i + 1))
      case measure => omega
      case measure => omega
      all_goals
        have hz := (HA.out.trans HA1.out).trans HA2.out
        have hn200 := HN.out
        exact ⟨i + 1, l ++ [r2], congrArg (Value.int .i64) (show wrap64 ((i : Int) + 1) = ((i + 1 : Nat) : Int) by rw [wrap64_in (by omega)]; rfl), by omega, rfl, Lib.hid (HB.out.more HR2.out), HO3, Lib.hid ((hz.base HF.out (((Below.refl _ _).alloc hz.1.size _).trans HB3.out)).up (by omega))⟩
    · have : i = n := by omega
      subst this
      go_wp2
      go_ret
      exact ⟨_, _, rfl, HB, HO, HA⟩
end Go.Proofs.YtplkchmcojnimaaGreatDoor
