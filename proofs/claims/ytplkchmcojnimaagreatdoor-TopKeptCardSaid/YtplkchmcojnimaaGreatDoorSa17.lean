/-
  nat: trim, Mul of numbers of one digit.
  nat: Gcd, Cmp, short, Div, Add of numbers of one digit.
  nat: Cmp, short, Div, Add of numbers of one digit.
  frac: Int, Reduced.
  frac: Reduced, Div, Quotient.
-/
import Derived.Laws.MakeOwn
import Derived.Test.YtplkchmcojnimaaGreatDoorSa16
/-
  nat: trim, Mul of numbers of one digit.
-/
namespace Go.Proofs.YtplkchmcojnimaaGreatDoor
open Go.RowKit

theorem make90 (n c : Nat) (hnc : n ≤ c) (hc : c ≤ 4) (W : World) : Sem.run Tryz.prog (Instr.makeSlice 92 (.int .i64 n) (.int .i64 c)) W = .ok (.slice (some ⟨W.heap.size, 0, none⟩) n c) (W.alloc (.cells (madeCells (Value.int .u32 0).cells c) 90)) := by
  obtain ⟨i0, hi, hz0, hz1, hz2⟩ := info_parts info90
  have h := run_makeSlice (P := Tryz.prog) W 92 90 i0 _ Tryz.underlying92 hi hz0 .i64 .i64 n c (by omega) (by omega) (by rw [hz1]; omega) (by rw [hz2]; omega) (by omega)
  simpa [hz1] using h
theorem made2 : madeCells (Value.int .u32 0).cells 2 = #[.int .u32 0, .int .u32 0] := by
  apply Array.ext
  · rw [size_madeCells]; rfl
  · intro j h1 h2
    rw [size_madeCells] at h1
    have : j = 0 ∨ j = 1 := by omega
    rcases this with rfl | rfl <;> simp [madeCells, Value.cells]
theorem made1 : madeCells (Value.int .u32 0).cells 1 = #[.int .u32 0] := by
  apply Array.ext
  · rw [size_madeCells]; rfl
  · intro j h1 h2
    rw [size_madeCells] at h1
    have : j = 0 := by omega
    subst this
    simp [madeCells, Value.cells]
set_option maxRecDepth 100000 in
set_option maxHeartbeats 800000 in
theorem trim_two (g c p : Nat) (hp : 0 < p) (hc2 : 2 ≤ c) (w : World) (h0 : w.cell? ⟨g, 0, none⟩ = some (.int .u32 p)) (h1 : w.cell? ⟨g, 1, none⟩ = some (.int .u32 0)) :
    Calls Tryz.prog 93 #[.slice (some ⟨g, 0, none⟩) 2 c] w fun e w' => e = .returned (.slice (some ⟨g, 0, none⟩) 1 c) ∧ w' = w := by
  have d : ((p : Int) == 0) = false := by simp; omega
  have t1 : (1 : Int) ≤ (c : Int) := by omega
  clear hp
  go_enter Tryz.func93, Tryz.ntmps93
  go_wp2
  refine wp_loop_rounds 2 ?_
  rw [rounds_succ]
  go_wp2
  rw [rounds_succ]
  go_wp2
  go_ret
  exact ⟨rfl, rfl⟩
set_option maxRecDepth 100000 in
set_option maxHeartbeats 800000 in
theorem trim_one (g c p : Nat) (hp : 0 < p) (w : World) (h0 : w.cell? ⟨g, 0, none⟩ = some (.int .u32 p)) :
    Calls Tryz.prog 93 #[.slice (some ⟨g, 0, none⟩) 1 c] w fun e w' => e = .returned (.slice (some ⟨g, 0, none⟩) 1 c) ∧ w' = w := by
  have d : ((p : Int) == 0) = false := by simp; omega
  clear hp
  go_enter Tryz.func93, Tryz.ntmps93
  go_wp2
  refine wp_loop_rounds 1 ?_
  rw [rounds_succ]
  go_wp2
  go_ret
  exact ⟨rfl, rfl⟩
theorem mk2 (W : World) : Sem.run Tryz.prog (Instr.makeSlice 92 (.int .i64 2) (.int .i64 2)) W = .ok (.slice (some ⟨W.heap.size, 0, none⟩) 2 2) (W.alloc (.cells #[.int .u32 0, .int .u32 0] 90)) := by
  have := make90 2 2 (by omega) (by omega) W
  rw [made2] at this; exact this
theorem mk1 (W : World) : Sem.run Tryz.prog (Instr.makeSlice 92 (.int .i64 1) (.int .i64 1)) W = .ok (.slice (some ⟨W.heap.size, 0, none⟩) 1 1) (W.alloc (.cells #[.int .u32 0] 90)) := by
  have := make90 1 1 (by omega) (by omega) W
  rw [made1] at this; exact this
theorem mk02 (W : World) : Sem.run Tryz.prog (Instr.makeSlice 92 (.int .i64 0) (.int .i64 2)) W = .ok (.slice (some ⟨W.heap.size, 0, none⟩) 0 2) (W.alloc (.cells #[.int .u32 0, .int .u32 0] 90)) := by
  have := make90 0 2 (by omega) (by omega) W
  rw [made2] at this; exact this
set_option maxRecDepth 100000 in
set_option maxHeartbeats 1600000 in
theorem mul_any (x y : Nat) (hx : 0 < x ∧ x < 1000) (hy : 0 < y ∧ y < 1000) (u v : Value) (w : World) (h : ND w u x) (k : ND w v y) :
    Calls Tryz.prog 75 #[u, v] w fun e w' => ∃ r, e = .returned r ∧ Hid (ND w' r (x * y)) ∧ Hid (Below w.heap.size w w') := by
  obtain ⟨g, c, rfl, hc1, hc⟩ := h
  obtain ⟨g2, c2, rfl, hc2, hd⟩ := k
  have hpos : 0 < x * y := Nat.mul_pos hx.1 hy.1
  have hlt : x * y < 1000000 := by
    have := Nat.mul_lt_mul_of_lt_of_lt hx.2 hy.2
    omega
  have e1 : IntKind.u64.wrap (x : Int) = x := u64w (by omega)
  have e2 : IntKind.u64.wrap (y : Int) = y := u64w (by omega)
  obtain ⟨p, hp⟩ : ∃ p, p = x * y := ⟨_, rfl⟩
  have hp' : (x : Int) * (y : Int) = (p : Int) := by rw [hp]; push_cast; rfl
  rw [← hp] at hpos hlt ⊢
  have e3 : IntKind.u64.wrap (p : Int) = p := u64w (by omega)
  have e4 : Int.tmod (p : Int) 1000000000 = p := by rw [Int.tmod_eq_emod_of_nonneg (by omega)]; omega
  have e5 : Int.tdiv (p : Int) 1000000000 = 0 := by rw [Int.tdiv_eq_ediv_of_nonneg (by omega)]; omega
  have e6 : (p : Int) % 1000000000 = p := by omega
  have e7 : (p : Int) / 1000000000 = 0 := by omega
  have e8 : IntKind.u32.wrap (p : Int) = p := u32w (by omega)
  have hm := mk2
  have hgl := World.block_lt_of_cell? w _ hc
  have hgl2 := World.block_lt_of_cell? w _ hd
  have HLT := Lib.hid hlt
  clear hx hy hlt hp
  go_enter Tryz.func75, Tryz.ntmps75
  go_wp2
  refine wp_loop_rounds 2 ?_
  rw [rounds_succ]
  go_wp2
  refine wp_loop_rounds 2 ?_
  rw [rounds_succ]
  go_wp2
  rw [rounds_succ]
  go_wp2
  rw [rounds_succ]
  have hn := news_blk w [.int .u32 p, .int .u32 0] 90
  have HC := Lib.hid (trim_two w.heap.size 2 p hpos (by omega) (w.alloc (.cells #[.int .u32 p, .int .u32 0] 90)) (hn.cell 0) (hn.cell 1))
  go_wp2_with (go_at_call 93; refine HC.out.mono ?_; rintro e wz ⟨rfl, hz⟩; subst wz)
  go_ret
  exact ⟨_, rfl, Lib.hid ⟨w.heap.size, 2, rfl, by omega, hn.cell 0⟩, Lib.hid ((Below.refl _ w).alloc (Nat.le_refl _) _)⟩
end Go.Proofs.YtplkchmcojnimaaGreatDoor
/-
  nat: Gcd, Cmp, short, Div, Add of numbers of one digit.
-/
namespace Go.Proofs.YtplkchmcojnimaaGreatDoor
open Go.RowKit

theorem below_unN {B n : Nat} {w w' : World} (h : Below B (w.drewN n) w') : Below B w w' := ⟨h.os, h.tape, h.output, h.size, h.block⟩
set_option maxRecDepth 100000 in
set_option maxHeartbeats 1600000 in
theorem gcd_12 (u v : Value) (w : World) (h : ND w u 1) (k : ND w v 2) :
    Calls Tryz.prog 91 #[u, v] w fun e w' => ∃ r, e = .returned r ∧ Hid (ND w' r 1) ∧ Hid (Below w.heap.size w w') := by
  have HU := Lib.hid (wide_nd 1 (by omega) u w h)
  have HV := Lib.hid (fun wx (hb : Below w.heap.size w wx) => wide_nd 2 (by omega) v wx (k.below hb))
  have HO := Lib.hid (fun wx => of_any 1 (by omega) (by omega) wx)
  obtain ⟨g, c, rfl, hc1, hc⟩ := h
  obtain ⟨g2, c2, rfl, hc2, hd⟩ := k
  clear hc hd
  go_enter Tryz.func91, Tryz.ntmps91
  go_wp2
  refine wp_loop_rounds 1 ?_
  rw [rounds_succ]
  go_wp2_with (first | (go_at_call 106; have _g := HU; refine HU.out.mono ?_; clear HU; rintro e w1 ⟨rfl, HB1⟩) | (go_at_call 106; refine (HV.out w1 HB1.out).mono ?_; rintro e w2 ⟨rfl, HB2⟩))
  refine wp_loop_rounds 3 ?_
  rw [rounds_succ]
  go_wp2
  go_quiet (fail)
  go_wp2
  rw [rounds_succ]
  go_wp2
  go_quiet (fail)
  go_wp2
  rw [rounds_succ]
  go_wp2_with (go_at_call 80; refine (HO.out _).mono ?_; rintro e w3 ⟨r, rfl, HN3, HB3⟩)
  go_ret
  exact ⟨_, rfl, HN3, Lib.hid ((HB1.out.trans (HB2.out.mono HB1.out.size)).trans (Below.mono (below_unN (HB3.out)) (Nat.le_trans HB1.out.size HB2.out.size)))⟩
set_option maxRecDepth 100000 in
set_option maxHeartbeats 1600000 in
theorem gcd_44 (u v : Value) (w : World) (h : ND w u 4) (k : ND w v 4) :
    Calls Tryz.prog 91 #[u, v] w fun e w' => ∃ r, e = .returned r ∧ Hid (ND w' r 4) ∧ Hid (Below w.heap.size w w') := by
  have HU := Lib.hid (wide_nd 4 (by omega) u w h)
  have HV := Lib.hid (fun wx (hb : Below w.heap.size w wx) => wide_nd 4 (by omega) v wx (k.below hb))
  have HO := Lib.hid (fun wx => of_any 4 (by omega) (by omega) wx)
  obtain ⟨g, c, rfl, hc1, hc⟩ := h
  obtain ⟨g2, c2, rfl, hc2, hd⟩ := k
  clear hc hd
  go_enter Tryz.func91, Tryz.ntmps91
  go_wp2
  refine wp_loop_rounds 1 ?_
  rw [rounds_succ]
  go_wp2_with (first | (go_at_call 106; have _g := HU; refine HU.out.mono ?_; clear HU; rintro e w1 ⟨rfl, HB1⟩) | (go_at_call 106; refine (HV.out w1 HB1.out).mono ?_; rintro e w2 ⟨rfl, HB2⟩))
  refine wp_loop_rounds 2 ?_
  rw [rounds_succ]
  go_wp2
  go_quiet (fail)
  go_wp2
  rw [rounds_succ]
  go_wp2_with (go_at_call 80; refine (HO.out _).mono ?_; rintro e w3 ⟨r, rfl, HN3, HB3⟩)
  go_ret
  exact ⟨_, rfl, HN3, Lib.hid ((HB1.out.trans (HB2.out.mono HB1.out.size)).trans (Below.mono (below_unN (HB3.out)) (Nat.le_trans HB1.out.size HB2.out.size)))⟩
end Go.Proofs.YtplkchmcojnimaaGreatDoor
/-
  nat: Cmp, short, Div, Add of numbers of one digit.
-/
namespace Go.Proofs.YtplkchmcojnimaaGreatDoor
open Go.RowKit

set_option maxRecDepth 100000 in
set_option maxHeartbeats 1600000 in
theorem cmp_same (x : Nat) (u v : Value) (w : World) (h : ND w u x) (k : ND w v x) :
    Calls Tryz.prog 78 #[u, v] w fun e w' => e = .returned (.int .i64 0) ∧ Hid (Below w.heap.size w w') := by
  obtain ⟨g, c, rfl, hc1, hc⟩ := h
  obtain ⟨g2, c2, rfl, hc2, hd⟩ := k
  have d : ((x : Int) != (x : Int)) = false := by simp
  go_enter Tryz.func78, Tryz.ntmps78
  go_wp2
  refine wp_loop_rounds 2 ?_
  rw [rounds_succ]
  go_wp2
  go_quiet (fail)
  go_wp2
  rw [rounds_succ]
  go_wp2
  go_ret
  exact ⟨rfl, Lib.hid (below_drewN (Below.refl _ _) _)⟩
set_option maxRecDepth 100000 in
set_option maxHeartbeats 1600000 in
theorem short_44 (u : Value) (w : World) (h : ND w u 4) :
    Calls Tryz.prog 108 #[u, .int .u64 4] w fun e w' => ∃ r, e = .returned (.tuple #[r, .int .u64 0]) ∧ Hid (ND w' r 1) ∧ Hid (Below w.heap.size w w') := by
  obtain ⟨g, c, rfl, hc1, hc⟩ := h
  have hm := mk1
  have hgl := World.block_lt_of_cell? w _ hc
  go_enter Tryz.func108, Tryz.ntmps108
  go_wp2
  refine wp_loop_rounds 2 ?_
  rw [rounds_succ]
  go_wp2
  go_region
  go_wp2
  rw [rounds_succ]
  have hn := news_blk w [.int .u32 1] 90
  have HC := Lib.hid (trim_one w.heap.size 1 1 (by omega) (w.alloc (.cells #[.int .u32 1] 90)).drew (hn.cell 0))
  go_wp2_with (go_at_call 93; refine HC.out.mono ?_; rintro e wz ⟨rfl, hz⟩; subst wz)
  go_ret2
  exact ⟨_, rfl, Lib.hid ⟨w.heap.size, 1, rfl, by omega, hn.cell 0⟩, Lib.hid ((Below.refl _ w).alloc (Nat.le_refl _) _).drew⟩
set_option maxRecDepth 100000 in
set_option maxHeartbeats 1600000 in
theorem div_44 (u v : Value) (w : World) (h : ND w u 4) (k : ND w v 4) :
    Calls Tryz.prog 95 #[u, v] w fun e w' => ∃ r, e = .returned (.tuple #[r, .slice none 0 0]) ∧ Hid (ND w' r 1) ∧ Hid (Below w.heap.size w w') := by
  have HCM := Lib.hid (cmp_same 4 u v w h k)
  have HSH := Lib.hid (fun wx (hb : Below w.heap.size w wx) => short_44 u wx (h.below hb))
  have HO := Lib.hid (fun wx => of_zero wx)
  have HQ := Lib.hid (fun wx (hb : Below w.heap.size w wx) => k.below hb)
  obtain ⟨g2, c2, rfl, hc2, hd⟩ := k
  have HD := Lib.hid (fun wx (hb : Below w.heap.size w wx) => show wx.cell? ⟨g2, 0, none⟩ = some (.int .u32 4) by rw [hb.cell (p := ⟨g2, 0, none⟩) (World.block_lt_of_cell? w _ hd)]; exact hd)
  obtain ⟨g, c, rfl, hc1, hc⟩ := h
  clear hc hd
  go_enter Tryz.func95, Tryz.ntmps95
  go_wp2_with (first | (go_at_call 78; refine HCM.out.mono ?_; rintro e w1 ⟨rfl, HB1⟩; have d1 := HD.out w1 HB1.out) | (go_at_call 108; refine (HSH.out w1 HB1.out).mono ?_; rintro e w2 ⟨r, rfl, HN2, HB2⟩; obtain ⟨g9, c9, rfl, _h9, _k9⟩ := HN2.out) | (go_at_call 80; refine (HO.out _).mono ?_; rintro e wz ⟨rfl, hz⟩; subst wz))
  go_ret2
  exact ⟨_, rfl, HN2, Lib.hid (HB1.out.trans (HB2.out.mono HB1.out.size))⟩
set_option maxRecDepth 100000 in
set_option maxHeartbeats 1600000 in
theorem add_22 (u v : Value) (w : World) (h : ND w u 2) (k : ND w v 2) :
    Calls Tryz.prog 77 #[u, v] w fun e w' => ∃ r, e = .returned r ∧ Hid (ND w' r 4) ∧ Hid (Below w.heap.size w w') := by
  obtain ⟨g, c, rfl, hc1, hc⟩ := h
  obtain ⟨g2, c2, rfl, hc2, hd⟩ := k
  have hm := mk02
  obtain ⟨i0, hi, hz0, hz1, hz2⟩ := info_parts info90
  have hgl := World.block_lt_of_cell? w _ hc
  have hgl2 := World.block_lt_of_cell? w _ hd
  have hown : (w.alloc (.cells #[.int .u32 0, .int .u32 0] 90)).ownsRow w.heap.size 90 1 (.slice (some ⟨w.heap.size, 0, none⟩) 0 2) 0 [] := ⟨rfl, .inr ⟨w.heap.size, 2, _, rfl, Nat.le_refl _, heap_alloc_new w _, by omega, by decide, rfl, rfl⟩⟩
  have HOW := Lib.hid hown
  clear hown
  go_enter Tryz.func77, Tryz.ntmps77
  go_wp2
  refine wp_loop_rounds 2 ?_
  rw [rounds_succ]
  go_wp2_with (at_builtin; refine wpList_append_lies _ rfl _ _ 92 rfl w.heap.size 90 i0 (.int .u32 0) 1 4 Tryz.underlying92 hi hz0 hz1 hz2 rfl (by decide) _ 0 [] rfl (ownsRow_below HOW.out ((Below.refl _ _).alloc (Nat.le_refl _) _)) ⟨w.heap.size + 1, 0, none⟩ 1 1 [.int .u32 4] rfl rfl (by have := news1' (w.alloc (.cells #[.int .u32 0, .int .u32 0] 90)) (.int .u32 4) 90; simp only [World.size_alloc] at this; exact this) (one_int _ _) Nat.one_pos (by unfold maxLen; omega) (by omega) (by simp only [World.size_alloc]; omega) _ rfl ?_; intro g3 cap3 w3 hown3 hgrow3 hat3 hlt3; have HO3 := Lib.hid hown3; have HG3 := Lib.hid hgrow3; clear hown3 hgrow3 hat3 hlt3)
  rw [rounds_succ]
  go_wp2
  go_ret
  have ho := HO3.out
  simp only [List.nil_append, Nat.zero_add] at ho ⊢
  exact ⟨_, rfl, Lib.hid (nd_row ho), Lib.hid ((((Below.refl _ w).alloc (Nat.le_refl _) _).alloc (by simp only [World.size_alloc]; omega) _).trans (Below.ofGrown HG3.out (by simp only [World.size_alloc]; omega) (fun k e => by have e' : some w.heap.size = some k := e; cases e'; exact Nat.le_refl _)))⟩
end Go.Proofs.YtplkchmcojnimaaGreatDoor
/-
  frac: Int, Reduced.
-/
namespace Go.Proofs.YtplkchmcojnimaaGreatDoor
open Go.RowKit

theorem results_frac {fn : Func} {a : Tmp} (hf : fn.results = #[.cell a 94]) (tmps : Array Value) (w : World) (r : Nat) (x y z : Value) (hr : tmps.getD a undef = .pointer (some ⟨r, 0, none⟩)) (h : Blk w r [x, y, z] 94) :
    (results fn tmps).run Tryz.prog w = .ok (.agg #[x, y, z]) w :=
  results_cell_row (P := Tryz.prog) hf tmps w r 94 #[x, y, z] (0, 0) _ hr h Tryz.underlying94 rfl (by kernel_rfl)
/-- A frac that is not negative. -/
def FD (w : World) (v : Value) (x y : Nat) : Prop := ∃ u d, v = .agg #[.bool false, u, d] ∧ ND w u x ∧ ND w d y
theorem FD.below {w w' : World} {v : Value} {x y : Nat} (h : FD w v x y) (hb : Below w.heap.size w w') : FD w' v x y := by
  obtain ⟨u, d, e, h1, h2⟩ := h
  exact ⟨u, d, e, h1.below hb, h2.below hb⟩
theorem blk3 (w : World) (x y z x' y' z' : Value) (r : Nat) (h : Blk w r [x, y, z] 94) : Blk (((w.setCell ⟨r, 0, none⟩ x').setCell ⟨r, 1, none⟩ y').setCell ⟨r, 2, none⟩ z') r [x', y', z'] 94 := ((h.set 0 _).set 1 _).set 2 _
def set94 (w : World) (r : Nat) (x y z : Value) : World := ((w.setCell ⟨r, 0, none⟩ x).setCell ⟨r, 1, none⟩ y).setCell ⟨r, 2, none⟩ z
theorem below94 (w : World) (r : Nat) (x y z : Value) : Below r w (set94 w r x y z) :=
  (((Below.refl r w).setCell (p := ⟨r, 0, none⟩) (Nat.le_refl r) x).setCell (p := ⟨r, 1, none⟩) (Nat.le_refl r) y).setCell (p := ⟨r, 2, none⟩) (Nat.le_refl r) z
theorem nd94 {w : World} {r : Nat} {t : TypeId} {b : Bool} {l : List Value} {v : Value} {n : Nat} (h : ND w v n) (hb : Blk w r (.bool b :: l) t) (x y z : Value) : ND (set94 w r x y z) v n := by
  obtain ⟨g, c, e, h1, hc⟩ := h
  have hne : g ≠ r := by
    intro e
    subst e
    rw [hb.cell 0] at hc
    simp at hc
  refine ⟨g, c, e, h1, ?_⟩
  unfold set94
  rw [World.cell?_of_block (w := w) (a := ⟨g, 0, none⟩) (by rw [Below.heap_setCell _ _ _ _ hne, Below.heap_setCell _ _ _ _ hne, Below.heap_setCell _ _ _ _ hne])]
  exact hc
set_option maxRecDepth 100000 in
set_option maxHeartbeats 800000 in
theorem fone_any (w : World) : Calls Tryz.prog 81 #[] w fun e w' => ∃ v, e = .returned v ∧ Hid (ND w' v 1) ∧ Hid (Below w.heap.size w w') := by
  have HO := Lib.hid (of_any 1 (by omega) (by omega) w)
  go_enter Tryz.func81, Tryz.ntmps81
  go_wp2_with (go_at_call 80; refine HO.out.mono ?_; rintro e w1 ⟨v, rfl, HN1, HB1⟩)
  go_ret
  exact ⟨_, rfl, HN1, HB1⟩
set_option maxRecDepth 100000 in
set_option maxHeartbeats 800000 in
theorem int_any (x : Nat) (h0 : 0 < x) (hx : x < 1000) (w : World) : Calls Tryz.prog 59 #[.int .i64 x] w fun e w' => ∃ v, e = .returned v ∧ Hid (FD w' v x 1) ∧ Hid (Below w.heap.size w w') := by
  obtain ⟨w0, hw0, hb0, hk0⟩ : ∃ w0, w.alloc (.cells #[.bool false, .slice none 0 0, .slice none 0 0] 94) = w0 ∧ Below w.heap.size w w0 ∧ Blk w0 w.heap.size [.bool false, .slice none 0 0, .slice none 0 0] 94 := ⟨_, rfl, (Below.refl _ _).alloc (Nat.le_refl _) _, heap_alloc_new w _⟩
  have HB0 := Lib.hid hb0
  have HK0 := Lib.hid hk0
  have HO := Lib.hid (fun wx => of_any x h0 (by omega) wx)
  have HF := Lib.hid (fun wx => fone_any wx)
  have e1 : IntKind.u64.wrap (x : Int) = x := u64w (by omega)
  have t0 : ¬ (x : Int) < 0 := by omega
  clear hb0 hk0
  go_enter Tryz.func59, Tryz.ntmps59
  go_wp2_with (first | (go_at_call 80; refine (HO.out _).mono ?_; rintro e w1 ⟨u, rfl, HN1, HB1⟩; obtain ⟨g1, c1, rfl, l1, k1⟩ := HN1.out) | (go_at_call 81; refine (HF.out _).mono ?_; rintro e w2 ⟨d, rfl, HN2, HB2⟩; obtain ⟨g2, c2, rfl, l2, k2⟩ := HN2.out; have HK2 := Lib.hid ((HK0.out.below HB1.out).below HB2.out); have q2 := HK2.out.cell; have r2 := HK2.out.frozen))
  refine bodyPost_ret (results_frac rfl _ _ w.heap.size _ _ _ rfl (blk3 w2 _ _ _ _ _ _ _ HK2.out)) rfl ?_
  exact ⟨_, rfl, Lib.hid ⟨_, _, rfl, nd94 (HN1.out.below HB2.out) HK2.out _ _ _, nd94 HN2.out HK2.out _ _ _⟩, Lib.hid (((HB0.out.trans (HB1.out.mono HB0.out.size)).trans (HB2.out.mono (Nat.le_trans HB0.out.size HB1.out.size))).trans (below94 _ _ _ _ _))⟩
end Go.Proofs.YtplkchmcojnimaaGreatDoor
/-
  frac: Reduced, Div, Quotient.
-/
namespace Go.Proofs.YtplkchmcojnimaaGreatDoor
open Go.RowKit

set_option maxRecDepth 100000 in
set_option maxHeartbeats 1600000 in
theorem reduced_12 (u d : Value) (w : World) (h : ND w u 1) (k : ND w d 2) :
    Calls Tryz.prog 76 #[.bool false, u, d] w fun e w' => ∃ v, e = .returned v ∧ Hid (FD w' v 1 2) ∧ Hid (Below w.heap.size w w') := by
  obtain ⟨w0, hw0, hb0, hk0⟩ : ∃ w0, w.alloc (.cells #[.bool false, .slice none 0 0, .slice none 0 0] 94) = w0 ∧ Below w.heap.size w w0 ∧ Blk w0 w.heap.size [.bool false, .slice none 0 0, .slice none 0 0] 94 := ⟨_, rfl, (Below.refl _ _).alloc (Nat.le_refl _) _, heap_alloc_new w _⟩
  have HB0 := Lib.hid hb0
  have HK0 := Lib.hid hk0
  have HU := Lib.hid (h.below hb0)
  have HD := Lib.hid (k.below hb0)
  have HZ := Lib.hid (zero_any 1 u w0 HU.out)
  have HO := Lib.hid (one_any 2 d w0 HD.out)
  have HG := Lib.hid (gcd_12 u d w0 HU.out HD.out)
  have HN := Lib.hid (fun v wx (hv : ND wx v 1) => one_any 1 v wx hv)
  obtain ⟨g1, c1, rfl, l1, -⟩ := h
  obtain ⟨g2, c2, rfl, l2, -⟩ := k
  clear hb0 hk0
  go_enter Tryz.func76, Tryz.ntmps76
  go_wp2_with (first | (go_at_call 94; refine HZ.out.mono ?_; rintro e wz ⟨rfl, hz⟩; subst wz) | (go_at_call 91; refine HG.out.mono ?_; rintro e w1 ⟨r, rfl, HN1, HB1⟩; have HK1 := Lib.hid (HK0.out.below HB1.out); have q1 := HK1.out.cell; have r1 := HK1.out.frozen) | (go_at_call 74; have _g := HB1; clear _g; refine (HN.out _ w1 HN1.out).mono ?_; rintro e wz ⟨rfl, hz⟩; subst wz) | (go_at_call 74; refine HO.out.mono ?_; rintro e wz ⟨rfl, hz⟩; subst wz))
  refine bodyPost_ret (results_frac rfl _ _ w.heap.size _ _ _ rfl (blk3 w1 _ _ _ _ _ _ _ HK1.out)) rfl ?_
  exact ⟨_, rfl, Lib.hid ⟨_, _, rfl, nd94 (HU.out.below HB1.out) HK1.out _ _ _, nd94 (HD.out.below HB1.out) HK1.out _ _ _⟩, Lib.hid ((HB0.out.trans (HB1.out.mono HB0.out.size)).trans (below94 _ _ _ _ _))⟩
set_option maxRecDepth 100000 in
set_option maxHeartbeats 1600000 in
theorem reduced_44 (u d : Value) (w : World) (h : ND w u 4) (k : ND w d 4) :
    Calls Tryz.prog 76 #[.bool false, u, d] w fun e w' => ∃ v, e = .returned v ∧ Hid (FD w' v 1 1) ∧ Hid (Below w.heap.size w w') := by
  obtain ⟨w0, hw0, hb0, hk0⟩ : ∃ w0, w.alloc (.cells #[.bool false, .slice none 0 0, .slice none 0 0] 94) = w0 ∧ Below w.heap.size w w0 ∧ Blk w0 w.heap.size [.bool false, .slice none 0 0, .slice none 0 0] 94 := ⟨_, rfl, (Below.refl _ _).alloc (Nat.le_refl _) _, heap_alloc_new w _⟩
  have HB0 := Lib.hid hb0
  have HK0 := Lib.hid hk0
  have HU := Lib.hid (h.below hb0)
  have HD := Lib.hid (k.below hb0)
  have HZ := Lib.hid (zero_any 4 u w0 HU.out)
  have HO := Lib.hid (one_any 4 d w0 HD.out)
  have HG := Lib.hid (gcd_44 u d w0 HU.out HD.out)
  have HN := Lib.hid (fun v wx (hv : ND wx v 4) => one_any 4 v wx hv)
  have HV := Lib.hid (fun a b wx (ha : ND wx a 4) (hb : ND wx b 4) => div_44 a b wx ha hb)
  obtain ⟨g1, c1, rfl, l1, -⟩ := h
  obtain ⟨g2, c2, rfl, l2, -⟩ := k
  clear hb0 hk0
  go_enter Tryz.func76, Tryz.ntmps76
  go_wp2_with (first | (go_at_call 94; refine HZ.out.mono ?_; rintro e wz ⟨rfl, hz⟩; subst wz) | (go_at_call 91; refine HG.out.mono ?_; rintro e w1 ⟨r, rfl, HN1, HB1⟩) | (go_at_call 95; have _g := HB2; clear _g; refine (HV.out _ _ w2 ((HD.out.below HB1.out).below HB2.out) (HN1.out.below HB2.out)).mono ?_; rintro e w3 ⟨r3, rfl, HN3, HB3⟩; obtain ⟨g8, c8, rfl, _l8, _k8⟩ := HN3.out; have HK3 := Lib.hid (((HK0.out.below HB1.out).below HB2.out).below HB3.out); have q3 := HK3.out.cell; have r3 := HK3.out.frozen) | (go_at_call 95; have _g := HB1; clear _g; refine (HV.out _ _ w1 (HU.out.below HB1.out) HN1.out).mono ?_; rintro e w2 ⟨r2, rfl, HN2, HB2⟩; obtain ⟨g9, c9, rfl, _l9, _k9⟩ := HN2.out) | (go_at_call 74; have _g := HB1; clear _g; refine (HN.out _ w1 HN1.out).mono ?_; rintro e wz ⟨rfl, hz⟩; subst wz) | (go_at_call 74; refine HO.out.mono ?_; rintro e wz ⟨rfl, hz⟩; subst wz))
  refine bodyPost_ret (results_frac rfl _ _ w.heap.size _ _ _ rfl (blk3 w3 _ _ _ _ _ _ _ HK3.out)) rfl ?_
  exact ⟨_, rfl, Lib.hid ⟨_, _, rfl, nd94 (HN2.out.below HB3.out) HK3.out _ _ _, nd94 HN3.out HK3.out _ _ _⟩, Lib.hid ((((HB0.out.trans (HB1.out.mono HB0.out.size)).trans (HB2.out.mono (Nat.le_trans HB0.out.size HB1.out.size))).trans (HB3.out.mono (Nat.le_trans (Nat.le_trans HB0.out.size HB1.out.size) HB2.out.size))).trans (below94 _ _ _ _ _))⟩
end Go.Proofs.YtplkchmcojnimaaGreatDoor
