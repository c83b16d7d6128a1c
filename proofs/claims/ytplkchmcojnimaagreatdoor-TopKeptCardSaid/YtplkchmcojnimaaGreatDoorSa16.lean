/-
  slices: Grow and Concat of slices of bytes.
  nat: wide of one digit (a range over a function).
  nat: numbers of one digit: Of, One, Zero.
-/
import Derived.Lib.AppendZeros
import Derived.LoopIn
import Derived.LoopN
import Derived.LoopNIn
import Derived.OwnWalkIn
import Derived.RangeFuncBound
import Derived.RangeFuncBox
import Derived.RangeFuncCalls
import Derived.RangeFuncLeaves
import Derived.RangeFuncNested
import Derived.Shelf.Abstract
import Derived.TacticsInMore
import Derived.WalkKit
import Derived.Test.YtplkchmcojnimaaGreatDoorSa1
import Derived.Test.YtplkchmcojnimaaGreatDoorSa15
/-
  slices: Grow and Concat of slices of bytes.
-/
namespace Go.Proofs.YtplkchmcojnimaaGreatDoor
open Go.RowKit

theorem wpList_append_vals {w : World} {ops : Array Oper} {rest : List Oper} {o : Oper} {a : Act} {Q : Exit → Act → World → Prop} (hgd : o.guard = none) (s x : Operand)
    (ho : o.op = .call { callee := .builtin .append, args := #[s, x], argTypes := #[30, 30] })
    (base : Nat) (v : Value) (n : Nat) (xs : List Value) (hs : a.eval s = v) (hown : w.ownsRow base 34 1 v n xs)
    (A : Option Addr) (m c : Nat) (U : List Value) (hone : ∀ u ∈ U, u.oneCell' = true) (hx : a.eval x = .slice A m c) (hr : RdV w (.slice A m c) U) (hlen : n + m ≤ 100000) (hbase : base ≤ w.heap.size)
    (h : ∀ r w', w'.ownsRow base 34 1 r (n + m) (xs ++ U) → w.grownBy w' v.ownBlock → wpList Tryz.prog ops Q rest (a.put o.dst r) w') : wpList Tryz.prog ops Q (o :: rest) a w := by
  obtain ⟨i0, hi, hz0, hz1, hz2⟩ := info_parts info34
  have hm := hr.caps.1
  by_cases h0 : 0 < m
  · obtain ⟨b, of, c', hv, -⟩ := hr.get (i := 0) (by omega)
    injection hv with hA _ _
    subst hA
    exact wpList_append_lies _ hgd s x 30 ho base 34 i0 (.slice none 0 0) 1 24 Tryz.underlying30 hi hz0 hz1 hz2 rfl (by decide) v n xs hs hown ⟨b, of, none⟩ m c U hx (by omega) (rdv_all hr) hone h0 (by unfold maxLen; omega) (by omega) hbase _ rfl (fun g cap w' h1 h2 _ _ => h _ w' h1 h2)
  · have hm0 : m = 0 := by omega
    subst hm0
    have hl : U = [] := List.eq_nil_of_length_eq_zero hm.symm
    subst hl
    have hrun := run_append_none_of (P := Tryz.prog) (w := w) 30 o.type 34 i0 1 Tryz.underlying30 hi v n xs hown A c
    refine wpList_plain hgd fun K hK => ?_
    unfold Oper.wp
    simp [execOp, ho, resolve, invoke, builtin, hs, hx, hrun, Result.andThen]
    exact hK _ _ (h v w (by simpa using hown) (grown_refl _ _))
set_option maxRecDepth 100000 in
set_option maxHeartbeats 800000 in
theorem vgrow_pos (n : Nat) (h0 : 0 < n) (hn : n ≤ 1000) (w : World) : Calls Tryz.prog 39 #[.slice none 0 0, .int .i64 n] w fun e w' => ∃ v, e = .returned v ∧ Hid (Below w.heap.size w w') ∧ Hid (w'.ownsRow w.heap.size 34 1 v 0 []) := by
  obtain ⟨i0, hi, hz0, hz1, hz2⟩ := info_parts info34
  have hr := Lib.run_append_nil_zeros (P := Tryz.prog) w 30 3 30 34 i0 (.slice none 0 0) .i64 .i64 Tryz.underlying30 Tryz.underlying3 hi hz0 n (by omega) (by rw [hz1]; omega) (by omega) (by rw [hz2]; omega)
  have hge := grownCap_ge w n 0 34
  have hle := grownCap_le_maxLen w n 0 34 (by unfold maxLen; omega)
  generalize hcap : grownCap w n 0 34 = cap at hr hge hle
  have hcs : (Builtin.zeroCells (Value.slice none 0 0).cells n ++ Builtin.zeroCells (Value.slice none 0 0).cells (cap - n)).size = cap * 1 := by
    rw [Array.size_append, size_zeroCells, size_zeroCells]
    have : (Value.slice none 0 0).cells.size = 1 := rfl
    rw [this]; omega
  generalize (Builtin.zeroCells (Value.slice none 0 0).cells n ++ Builtin.zeroCells (Value.slice none 0 0).cells (cap - n)) = cs at hr hcs
  have hown : (w.drew.alloc (.cells cs 34)).ownsRow w.heap.size 34 1 (.slice (some ⟨w.heap.size, 0, none⟩) 0 cap) 0 [] :=
    ⟨rfl, .inr ⟨w.heap.size, cap, cs, rfl, Nat.le_refl _, heap_alloc_new w.drew _, Nat.zero_le _, hle, hcs, rfl⟩⟩
  have hbel : Below w.heap.size w (w.drew.alloc (.cells cs 34)) := (Below.refl _ _).drew.alloc (Nat.le_refl _) _
  have HR := Lib.hid hr
  have HOWN := Lib.hid hown
  have HBEL := Lib.hid hbel
  have t0 : ((n : Nat) : Int) ≤ cap := by omega
  have t1 : ¬ ((n : Nat) : Int) < 0 := by omega
  have t2 : ((n : Nat) : Int) > 0 := by omega
  have e1 : IntKind.i64.wrap ((n : Int) - 0) = n := IntWalk.i64_in _ (by omega)
  have e2 : wrap64 ((n : Int) - 0) = n := wrap64_in (by omega)
  have e3 : wrap64 (n : Int) = n := wrap64_in (by omega)
  have d1 : decide ((n : Int) < 0) = false := decide_eq_false t1
  have d2 : decide (0 < (n : Int)) = true := decide_eq_true (by omega)
  clear hr hown hbel hcs hcap hi hz0 hz1 hz2 hle hge
  go_enter Tryz.func39, Tryz.ntmps39
  go_wp2_with (at_builtin; refine Lib.wpList_append_run _ rfl _ _ _ _ rfl _ _ rfl rfl _ _ HR.out ?_)
  go_ret
  exact ⟨_, rfl, HBEL, HOWN⟩
set_option maxRecDepth 100000 in
set_option maxHeartbeats 800000 in
theorem vgrow_zero (w : World) : Calls Tryz.prog 39 #[.slice none 0 0, .int .i64 0] w fun e w' => e = .returned (.slice none 0 0) ∧ w' = w := by
  go_enter Tryz.func39, Tryz.ntmps39
  go_wp2
  go_ret
  exact ⟨rfl, rfl⟩
theorem vgrow_any (n : Nat) (hn : n ≤ 1000) (w : World) : Calls Tryz.prog 39 #[.slice none 0 0, .int .i64 n] w fun e w' => ∃ v, e = .returned v ∧ Hid (Below w.heap.size w w') ∧ Hid (w'.ownsRow w.heap.size 34 1 v 0 []) := by
  by_cases h : n = 0
  · subst h
    refine (vgrow_zero w).mono ?_
    rintro e w1 ⟨rfl, hz⟩
    subst hz
    exact ⟨_, rfl, Lib.hid (Below.refl _ _), Lib.hid (World.ownsRow_nil _ _ _ _)⟩
  · exact vgrow_pos n (by omega) hn w
def catV (U : Nat → List Value) : Nat → List Value
  | 0 => []
  | j + 1 => catV U j ++ U j
theorem catV_le (U : Nat → List Value) (i : Nat) : ∀ d, (catV U i).length ≤ (catV U (i + d)).length
  | 0 => Nat.le_refl _
  | d + 1 => Nat.le_trans (catV_le U i d) (by rw [← Nat.add_assoc, catV]; simp)
set_option maxRecDepth 100000 in
set_option maxHeartbeats 1600000 in
theorem vconcat_any (U : Nat → List Value) (P : Nat → SP) (hone : ∀ i u, u ∈ U i → u.oneCell' = true) (pb : Nat) (w : World) (hp : ∀ i, i < 2 → w.cell? ⟨pb, i, none⟩ = some (.slice (P i).A (U i).length (P i).c)) (hr : ∀ i, i < 2 → RdV w (.slice (P i).A (U i).length (P i).c) (U i)) (htot : (catV U 2).length ≤ 1000) :
    Calls Tryz.prog 15 #[.slice (some ⟨pb, 0, none⟩) 2 2] w fun e w' => ∃ A c, e = .returned (.slice A (catV U 2).length c) ∧ Hid (Below w.heap.size w w') ∧ Hid (w'.ownsRow w.heap.size 34 1 (.slice A (catV U 2).length c) (catV U 2).length (catV U 2)) := by
  have hcat : ∀ i, i ≤ 2 → (catV U i).length ≤ 1000 := fun i hi => Nat.le_trans (catV_le U i (2 - i)) (by rw [show i + (2 - i) = 2 by omega]; exact htot)
  have HP := Lib.hid hp
  have HRD := Lib.hid hr
  have HCAT := Lib.hid hcat
  have HTOT := Lib.hid htot
  have H1 := Lib.hid hone
  clear hp hr hcat htot hone
  go_enter Tryz.func15, Tryz.ntmps15
  go_wp2
  go_loopg [3, 11] 2 (fun gk s3 s11 wx => ∃ i : Nat, s11 = .int .i64 i ∧ i ≤ 2 ∧ s3 = .int .i64 ((catV U i).length : Int) ∧ wx = w ∧ gk = 2 - i)
  case atStart => exact ⟨0, rfl, by omega, rfl, rfl, rfl⟩
  case round =>
    obtain ⟨i, rfl, hil, rfl, hw0, rfl⟩ := hrel
    subst wr
    by_cases hlt : i < 2
    · have c1 := HP.out i hlt
      have hd : ((catV U (i + 1)).length : Int) = ((catV U i).length : Int) + ((U i).length : Int) := by simp [catV]
      have h1 := HCAT.out (i + 1) (by omega)
      have e1 : IntKind.i64.wrap (((catV U i).length : Int) + ((U i).length : Int)) = ((catV U (i + 1)).length : Int) := by rw [← hd]; exact IntWalk.i64_in _ (by omega)
      have t1 : ¬ ((catV U (i + 1)).length : Int) < 0 := by omega
      have t2 : decide (((catV U (i + 1)).length : Int) < 0) = false := decide_eq_false t1
      clear hd
      generalize hnx : ((catV U (i + 1)).length : Int) = nx at e1 t1 t2
      have HNX := Lib.hid hnx
      clear hnx
      go_wp2
      go_roundg (2 - (i + 1))
      case measure => omega
      case rel => exact ⟨i + 1, by go_num, by omega, by rw [HNX.out], rfl, rfl⟩
    · have : i = 2 := by omega
      subst this
      have HGR := Lib.hid (vgrow_any (catV U 2).length HTOT.out w)
      generalize hL : (catV U 2).length = L2 at HGR
      have HLL := Lib.hid hL
      clear hL
      go_wp2_with (go_at_call 39; refine HGR.out.mono ?_; rintro e w1 ⟨v1, rfl, HB1, HO1⟩)
      go_loopg [6, 27] 2 (fun gk s6 s27 wx => ∃ j : Nat, s27 = .int .i64 j ∧ j ≤ 2 ∧ Hid (Below w.heap.size w wx) ∧ Hid (wx.ownsRow w.heap.size 34 1 s6 (catV U j).length (catV U j)) ∧ gk = 2 - j)
      case atStart => exact ⟨0, rfl, by omega, HB1, HO1, rfl⟩
      case round =>
        obtain ⟨j, rfl, hil2, HB2, HO2, rfl⟩ := hrel
        obtain ⟨A6, c6, hv6⟩ := ownsRow_shape HO2.out
        subst hv6
        by_cases hlt : j < 2
        · have cc := HP.out j hlt
          have hc1 : wr.cell? ⟨pb, j, none⟩ = some (.slice (P j).A (U j).length (P j).c) := by
            rw [World.cell?_of_block (a := ⟨pb, j, none⟩) (w := w) (HB2.out.block pb (World.block_lt_of_cell? w _ cc))]; exact cc
          have HRJ := Lib.hid ((HRD.out j hlt).below HB2.out)
          have hl := HCAT.out (j + 1) (by omega)
          have hls : (catV U (j + 1)).length = (catV U j).length + (U j).length := by simp [catV]
          have HLS := Lib.hid hls
          have HL := Lib.hid hl
          clear cc hl hls
          go_wp2_with (at_builtin; refine wpList_append_vals rfl _ _ rfl w.heap.size _ (catV U j).length _ rfl HO2.out _ (U j).length _ (U j) (H1.out j) rfl HRJ.out (by have := HL.out; have := HLS.out; omega) HB2.out.size ?_; intro r3 w3 hown3 hgrow; have HO3 := Lib.hid hown3; have HG := Lib.hid hgrow; clear hown3 hgrow)
          go_roundg (2 - (j + 1))
          case measure => omega
          case rel =>
            refine ⟨j + 1, by go_num, by omega, Lib.hid (HB2.out.trans (Below.ofGrown HG.out HB2.out.size (ownsRow_base HO2.out))), Lib.hid ?_, rfl⟩
            rw [HLS.out]
            exact HO3.out
        · have : j = 2 := by omega
          subst this
          go_wp2
          go_ret
          exact ⟨_, _, rfl, HB2, HO2⟩
end Go.Proofs.YtplkchmcojnimaaGreatDoor
/-
  nat: wide of one digit (a range over a function).
-/
namespace Go.Proofs.YtplkchmcojnimaaGreatDoor
open Go.RowKit Go.Shelf

attribute [local go_sem] Oper.semAt_some

set_option maxRecDepth 100000 in
set_option maxHeartbeats 2000000 in
theorem back1_in (F : Fence) (n : Nat) (h8 : F.fn 142) (hro : F.round = none) (hn : 1 ≤ n) (l Bs n₀ b cap : Nat) (x : Int) (J Jx : List Unit → World → Prop)
    (hY : ∀ pre (y : Unit) W, J pre W → pre.length < 1 → YieldAt F (n - 1) Tryz.prog l #[.int .i64 0, .int .u32 x] W fun e W' =>
      (e = .returned (.bool true) ∧ J (pre ++ [y]) W' ∧ Below n₀ W W') ∨ (e = .returned (.bool false) ∧ Jx (pre ++ [y]) W'))
    (W : World) (hBs : W.cell? ⟨Bs, 0, none⟩ = some (.slice (some ⟨b, 0, none⟩) 1 cap)) (hc : W.cell? ⟨b, 0, none⟩ = some (.int .u32 x)) (h0 : J [] W) :
    CallsIn F n Tryz.prog 142 #[.func (.yield l) #[] #[], .pointer (some ⟨Bs, 0, none⟩)] W fun e W' => (∃ v, e = .returned v) ∧
      ((∃ ys, ys = [()] ∧ J ys W') ∨ (∃ pre, (pre = [] ∨ pre = [()]) ∧ Jx pre W')) := by
  refine callsIn_of_wp Tryz.func142 rfl h8 ?_ hro
  simp only [Tryz.ntmps142, List.size_toArray, List.length_cons, List.length_nil, Nat.reduceAdd, Nat.reduceSub, Array.replicate_succ, Array.replicate_zero, List.push_toArray, List.append_toArray, List.nil_append, List.cons_append]
  gi_wp2
  gi_loopw [3] (fun i wr => (i = .int .i64 0 ∧ wr = W) ∨ (i = .int .i64 (-1) ∧ J [()] wr)) (fun i _ => (intOf i + 1).toNat)
  case atStart => exact .inl ⟨rfl, rfl⟩
  case round =>
    rcases hrel with ⟨rfl, hw⟩ | ⟨rfl, hJ⟩
    · subst hw
      obtain ⟨fn, tmps, assign, body, hy, hR⟩ := hY [] () wr h0 (by simp)
      gi_wp2
      refine hR.mono ?_
      rintro e W3 (⟨rfl, hJ3, hk3⟩ | ⟨rfl, hJx3⟩)
      · gi_wp2
        go_roundw
        case rel => exact .inr ⟨rfl, hJ3⟩
        case measure => simp [intOf]
      · gi_wp2
        refine bodyPost_ret (results_none rfl _ _ _) rfl ?_
        exact ⟨⟨_, rfl⟩, .inr ⟨_, .inr rfl, hJx3⟩⟩
    · gi_wp2
      go_end0
      exact ⟨⟨_, rfl⟩, .inl ⟨_, rfl, hJ⟩⟩
set_option maxHeartbeats 1000000 in
theorem back_in (F : Fence) (n : Nat) (h6 : F.fn 127) (hro : F.round = none) (a : Option Addr) (len cap : Nat) (w : World) :
    CallsIn F n Tryz.prog 127 #[.slice a len cap] w fun e w' => e = .returned (.func (.func 142) #[] #[.pointer (some ⟨w.heap.size, 0, none⟩)]) ∧ w' = w.alloc (.cells #[.slice a len cap] 92) := by
  refine callsIn_of_wp Tryz.func127 rfl h6 ?_ hro
  simp only [Tryz.ntmps127, List.size_toArray, List.length_cons, List.length_nil, Nat.reduceAdd, Nat.reduceSub, Array.replicate_succ, Array.replicate_zero, List.push_toArray, List.append_toArray, List.nil_append, List.cons_append]
  gi_wp2
  go_ret
  exact ⟨rfl, rfl⟩
theorem back_stops (F : Fence) (n : Nat) (h8 : F.fn 142) (hro : F.round = none) (hn : 1 ≤ n) (Bs n₀ b cap : Nat) (x : Int) (hb : b < n₀) (w : World) (hBs : Bs < w.heap.size) (hn₀ : n₀ ≤ w.heap.size)
    (hc : w.cell? ⟨Bs, 0, none⟩ = some (.slice (some ⟨b, 0, none⟩) 1 cap)) (hx : w.cell? ⟨b, 0, none⟩ = some (.int .u32 x)) :
    SeqStopsK F n Tryz.prog 142 #[.pointer (some ⟨Bs, 0, none⟩)] (fun _ : Unit => #[Value.int .i64 0, Value.int .u32 x]) (Below n₀) (fun ys => ys = [()]) (fun pre => pre = [] ∨ pre = [()]) 1 w := fun l J Jx W hW _ _ hY h0 => by
  have hc' := (hW.cell (p := ⟨Bs, 0, none⟩) hBs).trans hc
  have hx' := (hW.cell (p := ⟨b, 0, none⟩) (show b < w.heap.size by omega)).trans hx
  exact back1_in F n h8 hro hn l Bs n₀ b cap x J Jx hY W hc' hx' h0
set_option maxRecDepth 100000 in
set_option maxHeartbeats 2000000 in
theorem wide_in (F : Fence) (n : Nat) (h3 : F.fn 106) (h5 : F.fn 127) (h7 : F.fn 142) (hro : F.round = none) (hn : 3 ≤ n) (b cap : Nat) (x : Nat) (hx : x < 1000000000) (w : World) (hc : w.cell? ⟨b, 0, none⟩ = some (.int .u32 x)) :
    CallsIn F n Tryz.prog 106 #[.slice (some ⟨b, 0, none⟩) 1 cap] w fun e W' => e = .returned (.int .u64 x) ∧ Below w.heap.size w W' := by
  have h1 : 1 ≤ n := by omega
  have hbl := World.block_lt_of_cell? w _ hc
  refine callsIn_of_wp_marks Tryz.func106 rfl h3 ?_ hro
  simp only [Tryz.ntmps106, List.size_toArray, List.length_cons, List.length_nil, Nat.reduceAdd, Nat.reduceSub, Array.replicate_succ, Array.replicate_zero, List.push_toArray, List.append_toArray, List.nil_append, List.cons_append]
  gi_wp2_with (gi_at_call 127; refine (back_in F (n - 1) h5 hro _ _ _ _).mono ?_; rintro e w' ⟨rfl, rfl⟩)
  have bS := Boxed.new w 120 (.int .u64 0)
  have bN := Boxed.new (w.alloc (.cells #[.int .u64 0] 120)) 92 (.slice (some ⟨b, 0, none⟩) 1 cap)
  rw [World.size_alloc] at bN
  have e1 : IntKind.u64.wrap (x : Int) = x := by
    have : IntKind.u64.wrap (x : Int) = (x : Int) % 18446744073709551616 := by simp [IntKind.wrap, IntKind.signed, IntKind.bits]
    omega
  have hB0 : Below w.heap.size w ((w.alloc (.cells #[.int .u64 0] 120)).alloc (.cells #[.slice (some ⟨b, 0, none⟩) 1 cap] 92)) := ((Below.refl _ w).alloc (Nat.le_refl _) _).alloc (by simp) _
  refine wpIn_rangeFunc_ownG hro h1 (gf := 142) (lb := #[.pointer (some ⟨w.heap.size + 1, 0, none⟩)]) rfl h7 (enters_of Tryz.func142 (by kernel_rfl) rfl)
    (back_stops F (n - 1) h7 hro (by omega) (w.heap.size + 1) w.heap.size b cap x hbl _ (by simp) (by simp; omega) bN.cell (hB0.cell (p := ⟨b, 0, none⟩) hbl |>.trans hc)) belowK_t (belowK_b (by simp; omega)) (Below.refl _ _) (fun _ => rfl)
    (fun pre W => (W.cell? ⟨w.heap.size, 0, none⟩ = some (.int .u64 (if pre = [] then 0 else (x : Int))) ∧ W.frozen? ⟨w.heap.size, 0, none⟩ = false) ∧ Below w.heap.size w W)
    (fun _ _ _ => False)
    (OwnFrom.and (Own.from (fun s A B row hs hg hr => ⟨cell_kept hs.1 hg hr, (frozen_kept hs.1 hg hr).trans hs.2⟩) _) (ownFrom_below (Nat.le_refl _) (by simp; omega)))
    (fun _ _ _ _ _ hs _ _ => hs)
    ⟨⟨(bS.alloc _).cell, (bS.alloc _).frozen⟩, hB0⟩
    (fun _ => { tmps := #[.slice (some ⟨b, 0, none⟩) 1 cap, undef, .int .u64 0, .pointer (some ⟨w.heap.size, 0, none⟩), undef, .int .u32 x, .slice (some ⟨b, 0, none⟩) 1 cap, .func (.func 142) #[] #[.pointer (some ⟨w.heap.size + 1, 0, none⟩)], .int .i64 0, .int .u32 x, undef, undef, undef, undef, undef, undef], defers := [] }) ?assign ?body ?done ?stop
  case assign =>
    intro l x W K hK
    gi_wp2
    exact hK
  case body =>
    rintro l pre y W ⟨⟨hcc, hf⟩, hB⟩ hlen
    have hpre : pre = [] := List.eq_nil_of_length_eq_zero (by omega)
    subst hpre
    simp only [if_true] at hcc
    gi_wp2
    exact ⟨(KeepsOthers.setCell _ _ _).from _, (Below.refl w.heap.size W).setCell (p := ⟨w.heap.size, 0, none⟩) (Nat.le_refl _) _, ⟨by simpa using World.cell?_setCell_same' _ _ _ (by rw [hcc]; rfl), by rw [World.frozen?_setCell]; exact hf⟩, hB.setCell (p := ⟨w.heap.size, 0, none⟩) (Nat.le_refl _) _⟩
  case done =>
    rintro D ys W hD rfl ⟨⟨hcc, _⟩, hB⟩ hK
    simp only [List.cons_ne_nil, if_false] at hcc
    gi_wp2
    refine ⟨by simp, .inl ⟨_, _, rfl, run_takeDeferred hK, ?_⟩⟩
    exact ⟨_, results_tmp rfl _ _ _, rfl, hB.trans (belowK_b (w := w) (Nat.le_refl _) W D _ _ (by simp at hD; omega) hK rfl rfl)⟩
  case stop =>
    rintro D c pre W _ _ h _
    exact h.elim
theorem wide_any (b cap : Nat) (x : Nat) (hx : x < 1000000000) (w : World) (hc : w.cell? ⟨b, 0, none⟩ = some (.int .u32 x)) :
    Calls Tryz.prog 106 #[.slice (some ⟨b, 0, none⟩) 1 cap] w fun e W' => e = .returned (.int .u64 x) ∧ Below w.heap.size w W' :=
  (callsIn_wide (n := 3)).1 (wide_in Fence.wide 3 trivial trivial trivial rfl (by omega) b cap x hx w hc)
end Go.Proofs.YtplkchmcojnimaaGreatDoor
/-
  nat: numbers of one digit: Of, One, Zero.
-/
namespace Go.Proofs.YtplkchmcojnimaaGreatDoor
open Go.RowKit

/-- A natural number of one digit. -/
def ND (w : World) (v : Value) (x : Nat) : Prop := ∃ g c, v = .slice (some ⟨g, 0, none⟩) 1 c ∧ 1 ≤ c ∧ w.cell? ⟨g, 0, none⟩ = some (.int .u32 x)
theorem ND.below {w w' : World} {v : Value} {x : Nat} (h : ND w v x) (hb : Below w.heap.size w w') : ND w' v x := by
  obtain ⟨g, c, e, h1, hc⟩ := h
  exact ⟨g, c, e, h1, by rw [hb.cell (p := ⟨g, 0, none⟩) (World.block_lt_of_cell? w _ hc)]; exact hc⟩
theorem info90 : (Tryz.prog.info? 90).map (fun i => (i.zero, i.size, i.bytes)) = some (some (.int .u32 0), 1, 4) := by kernel_rfl
theorem u64w {x : Nat} (h : x < 1000000000000000000) : IntKind.u64.wrap (x : Int) = x := by
  have : IntKind.u64.wrap (x : Int) = (x : Int) % 18446744073709551616 := by simp [IntKind.wrap, IntKind.signed, IntKind.bits]
  omega
theorem u32w {x : Nat} (h : x < 1000000000) : IntKind.u32.wrap (x : Int) = x := by
  have : IntKind.u32.wrap (x : Int) = (x : Int) % 4294967296 := by simp [IntKind.wrap, IntKind.signed, IntKind.bits]
  omega
theorem nd_row {w : World} {base n g c : Nat} {x : Nat} (h : w.ownsRow base 90 1 (.slice (some ⟨g, 0, none⟩) n c) n [.int .u32 x]) : ND w (.slice (some ⟨g, 0, none⟩) n c) x := by
  have hn : n = 1 := by have := h.1; simpa using this.symm
  subst hn
  rcases h.2 with ⟨hv, -⟩ | ⟨g', cap, cur, hv, a3, a4, a5, a6, a7, a8⟩
  · cases hv
  · injection hv with e1 e2 e3
    injection e1 with e1
    injection e1 with e1
    subst e1 e3
    refine ⟨g, c, rfl, a5, ?_⟩
    unfold World.cell?
    simp only [a4]
    have : cur.toList[0]? = some (Value.int .u32 x) := by
      have h8 := congrArg (fun l => l[0]?) a8
      simpa using h8
    simpa using this
set_option maxRecDepth 100000 in
set_option maxHeartbeats 800000 in
theorem of_any (x : Nat) (h0 : 0 < x) (hx : x < 1000000000) (w : World) :
    Calls Tryz.prog 80 #[.int .u64 x] w fun e w' => ∃ v, e = .returned v ∧ Hid (ND w' v x) ∧ Hid (Below w.heap.size w w') := by
  obtain ⟨i0, hi, hz0, hz1, hz2⟩ := info_parts info90
  have e1 : Int.tmod (x : Int) 1000000000 = x := by rw [Int.tmod_eq_emod_of_nonneg (by omega)]; omega
  have e2 : Int.tdiv (x : Int) 1000000000 = 0 := by rw [Int.tdiv_eq_ediv_of_nonneg (by omega)]; omega
  have e3 : (x : Int) % 1000000000 = x := by omega
  have e4 : (x : Int) / 1000000000 = 0 := by omega
  have e5 := u32w hx
  go_enter Tryz.func80, Tryz.ntmps80
  go_wp2
  refine wp_loop_rounds 2 ?_
  rw [rounds_succ]
  go_wp2_with (at_builtin; refine wpList_append_lies _ rfl _ _ 92 rfl w.heap.size 90 i0 (.int .u32 0) 1 4 Tryz.underlying92 hi hz0 hz1 hz2 rfl (by decide) _ 0 [] rfl (World.ownsRow_nil _ _ _ _) ⟨w.heap.size, 0, none⟩ 1 1 [.int .u32 x] rfl rfl (news1' _ _ _) (one_int _ _) Nat.one_pos (by unfold maxLen; omega) (by omega) (alloc_le _ _) _ rfl ?_; intro g3 cap3 w3 hown3 hgrow3 hat3 hlt3; have HO3 := Lib.hid hown3; have HG3 := Lib.hid hgrow3; clear hown3 hgrow3 hat3 hlt3)
  rw [rounds_succ]
  go_wp2
  go_ret
  have ho := HO3.out
  simp only [List.nil_append, Nat.zero_add] at ho ⊢
  exact ⟨_, rfl, Lib.hid (nd_row ho), Lib.hid (((Below.refl _ w).alloc (Nat.le_refl _) _).trans (Below.ofGrown HG3.out (alloc_le _ _) (fun k e => by have e' : (none : Option Nat) = some k := e; cases e')))⟩
set_option maxRecDepth 100000 in
set_option maxHeartbeats 800000 in
theorem of_zero (w : World) : Calls Tryz.prog 80 #[.int .u64 0] w fun e w' => e = .returned (.slice none 0 0) ∧ w' = w := by
  go_enter Tryz.func80, Tryz.ntmps80
  go_wp2
  refine wp_loop_rounds 1 ?_
  rw [rounds_succ]
  go_wp2
  go_ret
  exact ⟨rfl, rfl⟩
set_option maxRecDepth 100000 in
set_option maxHeartbeats 800000 in
theorem one_any (x : Nat) (v : Value) (w : World) (h : ND w v x) : Calls Tryz.prog 74 #[v] w fun e w' => e = .returned (.bool (decide (x = 1))) ∧ w' = w := by
  obtain ⟨g, c, rfl, hc1, hc⟩ := h
  by_cases e : x = 1
  · subst e
    go_enter Tryz.func74, Tryz.ntmps74
    go_wp2
    go_ret
    exact ⟨rfl, rfl⟩
  · have d : ((x : Int) == 1) = false := by simp; omega
    rw [decide_eq_false e]
    clear e
    go_enter Tryz.func74, Tryz.ntmps74
    go_wp2
    go_ret
    exact ⟨rfl, rfl⟩
set_option maxRecDepth 100000 in
set_option maxHeartbeats 800000 in
theorem zero_any (x : Nat) (v : Value) (w : World) (h : ND w v x) : Calls Tryz.prog 94 #[v] w fun e w' => e = .returned (.bool false) ∧ w' = w := by
  obtain ⟨g, c, rfl, hc1, hc⟩ := h
  go_enter Tryz.func94, Tryz.ntmps94
  go_wp2
  go_ret
  exact ⟨rfl, rfl⟩
theorem wide_nd (x : Nat) (hx : x < 1000000000) (v : Value) (w : World) (h : ND w v x) : Calls Tryz.prog 106 #[v] w fun e w' => e = .returned (.int .u64 x) ∧ Hid (Below w.heap.size w w') := by
  obtain ⟨g, c, rfl, hc1, hc⟩ := h
  exact (wide_any g c x hx w hc).mono fun e w' ⟨he, hb⟩ => ⟨he, Lib.hid hb⟩
end Go.Proofs.YtplkchmcojnimaaGreatDoor
