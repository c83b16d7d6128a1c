/-
  nat: wide (a range over a function), Of, Clone.
-/
import Derived.LoopIn
import Derived.LoopNIn
import Derived.OwnWalkIn
import Derived.RangeFuncBound
import Derived.RangeFuncBox
import Derived.RangeFuncCalls
import Derived.RangeFuncLeaves
import Derived.RangeFuncNested
import Derived.Shelf.Abstract
import Derived.TacticsInMore
import Derived.Test.YtdbhlkejfecffaaGreatDoorSa20
/-
  nat: wide (a range over a function), Of, Clone.
-/
namespace Go.Proofs.YtdbhlkejfecffaaGreatDoor
open Go.RowKit Go.Shelf KeepPlain

attribute [local go_sem] Oper.semAt_some

/-- What a body of the range keeps: the blocks below, and the iterator's box. -/
def KpB (n₀ Bs : Nat) (A B : World) : Prop := Below n₀ A B ∧ ∀ v, A.cell? ⟨Bs, 0, none⟩ = some v → B.cell? ⟨Bs, 0, none⟩ = some v
theorem KpB.refl (n₀ Bs : Nat) (A : World) : KpB n₀ Bs A A := ⟨Below.refl _ _, fun _ h => h⟩
theorem KpB.trans {n₀ Bs : Nat} {A B C : World} (h : KpB n₀ Bs A B) (k : KpB n₀ Bs B C) : KpB n₀ Bs A C := ⟨h.1.trans k.1, fun v e => k.2 v (h.2 v e)⟩
theorem kpB_b {n₀ Bs : Nat} {w : World} (hn : n₀ ≤ w.heap.size) (W : World) (l : Nat) (o o' : Obj) (hl : w.heap.size ≤ l) (h : W.heap[l]? = some o) (h1 : o.isCells = false) (h2 : o.isWalk = false) : KpB n₀ Bs W (W.putObj l o') :=
  ⟨belowK_b hn W l o o' hl h h1 h2, fun v e => cell_kept e (grownBy_putObj' W l o') (fun r hr => by cases hr; exact ⟨o, h, h1⟩)⟩
/-- The digits from the top, as a number. -/
def fromTop (l : List Nat) (pre : List Nat) : Nat := pre.foldl (fun a x => a * 1000000000 + dg l (l.length - 1 - x)) 0
theorem fromTop_snoc (l pre : List Nat) (x : Nat) : fromTop l (pre ++ [x]) = fromTop l pre * 1000000000 + dg l (l.length - 1 - x) := by simp [fromTop]
theorem fold_lt (l : List Nat) (hl : ∀ x ∈ l, x < 1000000000) (pre : List Nat) (a : Nat) : pre.foldl (fun a x => a * 1000000000 + dg l (l.length - 1 - x)) a < (a + 1) * 1000000000 ^ pre.length := by
  induction pre generalizing a with
  | nil => simp
  | cons x pre ih =>
    rw [List.foldl_cons, List.length_cons, pow_succ', ← Nat.mul_assoc]
    have h1 := ih (a * 1000000000 + dg l (l.length - 1 - x))
    have h2 := dg_lt l hl (l.length - 1 - x)
    have h3 : (a * 1000000000 + dg l (l.length - 1 - x) + 1) * 1000000000 ^ pre.length ≤ ((a + 1) * 1000000000) * 1000000000 ^ pre.length := Nat.mul_le_mul_right _ (by omega)
    omega
theorem fromTop_lt (l : List Nat) (hl : ∀ x ∈ l, x < 1000000000) (pre : List Nat) : fromTop l pre < 1000000000 ^ pre.length := by
  have := fold_lt l hl pre 0
  simpa [fromTop] using this
theorem fromTop_range (l : List Nat) (k : Nat) (hk : k ≤ l.length) : fromTop l (List.range k) = hi (dg l) (l.length - k) l.length := by
  induction k with
  | zero => simp [fromTop, hi_end]
  | succ k ih =>
    rw [List.range_succ, fromTop_snoc, ih (by omega), hi_step (dg l) (l.length - (k + 1)) l.length (by omega), show l.length - (k + 1) + 1 = l.length - k by omega, show l.length - 1 - k = l.length - (k + 1) by omega]
    omega
theorem fromTop_all (l : List Nat) : fromTop l (List.range l.length) = nv l := by
  rw [fromTop_range l _ (Nat.le_refl _), Nat.sub_self, hi_zero]; rfl
set_option maxRecDepth 100000 in
set_option maxHeartbeats 2000000 in
theorem back_fn (F : Fence) (n : Nat) (h8 : F.fn 212) (hro : F.round = none) (hn : 1 ≤ n) (l Bs n₀ cap : Nat) (A : Option Addr) (L : List Nat) (hL : L.length ≤ 100) (J Jx : List Nat → World → Prop)
    (hY : ∀ pre (y : Nat) W, J pre W → pre.length < L.length → YieldAt F (n - 1) Tryz.prog l #[.int .i64 ((L.length : Int) - 1 - y), .int .u32 (dg L (L.length - 1 - y) : Nat)] W fun e W' =>
      (e = .returned (.bool true) ∧ J (pre ++ [y]) W' ∧ KpB n₀ Bs W W') ∨ (e = .returned (.bool false) ∧ Jx (pre ++ [y]) W'))
    (W : World) (hBs : W.cell? ⟨Bs, 0, none⟩ = some (.slice A L.length cap)) (hc : ∀ i, i < L.length → ∃ b o, A = some ⟨b, o, none⟩ ∧ b < n₀ ∧ W.cell? ⟨b, o + i, none⟩ = some (.int .u32 (dg L i : Nat))) (h0 : J [] W) :
    CallsIn F n Tryz.prog 212 #[.func (.yield l) #[] #[], .pointer (some ⟨Bs, 0, none⟩)] W fun e W' => (∃ v, e = .returned v) ∧
      ((∃ ys, ys = List.range L.length ∧ J ys W') ∨ (∃ pre, True ∧ Jx pre W')) := by
  refine callsIn_of_wp Tryz.func212 rfl h8 ?_ hro
  simp only [Tryz.ntmps212, List.size_toArray, List.length_cons, List.length_nil, Nat.reduceAdd, Nat.reduceSub, Array.replicate_succ, Array.replicate_zero, List.push_toArray, List.append_toArray, List.nil_append, List.cons_append]
  gi_wp2
  gi_loopw [3] (fun i wr => ∃ k, k ≤ L.length ∧ i = .int .i64 ((k : Int) - 1) ∧ Hid (J (List.range (L.length - k)) wr) ∧ Hid (KpB n₀ Bs W wr)) (fun i _ => (intOf i + 1).toNat)
  case atStart => exact ⟨L.length, Nat.le_refl _, congrArg (Value.int .i64) (by first | rfl | omega), Lib.hid (by rw [Nat.sub_self]; exact h0), Lib.hid (KpB.refl _ _ _)⟩
  case round =>
    obtain ⟨k, hk, rfl, HJ, HK⟩ := hrel
    cases k with
    | zero =>
      gi_wp2
      go_end0
      exact ⟨⟨_, rfl⟩, .inl ⟨_, rfl, by have := HJ.out; rwa [Nat.sub_zero] at this⟩⟩
    | succ m =>
      obtain ⟨b, o, rfl, hb, hcm⟩ := hc m (by omega)
      have cB := HK.out.2 _ hBs
      have cm : wr.cell? ⟨b, o + m, none⟩ = some (.int .u32 (dg L m : Nat)) := by rw [HK.out.1.cell (p := ⟨b, o + m, none⟩) hb]; exact hcm
      have hy := hY (List.range (L.length - (m + 1))) (L.length - (m + 1)) wr HJ.out (by simp; omega)
      rw [show (L.length : Int) - 1 - ((L.length - (m + 1) : Nat) : Int) = (m : Int) by omega, show L.length - 1 - (L.length - (m + 1)) = m by omega] at hy
      obtain ⟨fn, tmps, assign, body, hyy, hR⟩ := hy
      have HR := Lib.hid hR
      have HRG := Lib.hid (show List.range (L.length - (m + 1)) ++ [L.length - (m + 1)] = List.range (L.length - m) by rw [← List.range_succ]; congr 1; omega)
      rw [show (((m + 1 : Nat) : Int) - 1) = (m : Int) by omega]
      have hmL : (m : Int) < L.length := by omega
      clear hR hY hc hcm
      gi_wp2
      refine HR.out.mono ?_
      rintro e W3 (⟨rfl, hJ3, hk3⟩ | ⟨rfl, hJx3⟩)
      · have HJ3 := Lib.hid hJ3
        have HK3 := Lib.hid hk3
        clear hJ3 hk3
        gi_wp2
        go_roundw
        case rel => exact ⟨m, by omega, congrArg (Value.int .i64) (by first | rfl | omega), Lib.hid (by rw [← HRG.out]; exact HJ3.out), Lib.hid (HK.out.trans HK3.out)⟩
        case measure => simp [intOf]
      · have HJx3 := Lib.hid hJx3
        clear hJx3
        gi_wp2
        refine bodyPost_ret (results_none rfl _ _ _) rfl ?_
        exact ⟨⟨_, rfl⟩, .inr ⟨_, trivial, HJx3.out⟩⟩
set_option maxHeartbeats 1000000 in
theorem back_in (F : Fence) (n : Nat) (h6 : F.fn 160) (hro : F.round = none) (a : Option Addr) (len cap : Nat) (w : World) :
    CallsIn F n Tryz.prog 160 #[.slice a len cap] w fun e w' => e = .returned (.func (.func 212) #[] #[.pointer (some ⟨w.heap.size, 0, none⟩)]) ∧ w' = w.alloc (.cells #[.slice a len cap] 83) := by
  refine callsIn_of_wp Tryz.func160 rfl h6 ?_ hro
  simp only [Tryz.ntmps160, List.size_toArray, List.length_cons, List.length_nil, Nat.reduceAdd, Nat.reduceSub, Array.replicate_succ, Array.replicate_zero, List.push_toArray, List.append_toArray, List.nil_append, List.cons_append]
  gi_wp2
  go_ret
  exact ⟨rfl, rfl⟩
theorem back_stops (F : Fence) (n : Nat) (h8 : F.fn 212) (hro : F.round = none) (hn : 1 ≤ n) (Bs n₀ cap : Nat) (A : Option Addr) (L : List Nat) (hL : L.length ≤ 100) (w : World) (hBs : Bs < w.heap.size) (hn₀ : n₀ ≤ w.heap.size)
    (hB : w.cell? ⟨Bs, 0, none⟩ = some (.slice A L.length cap)) (hc : ∀ i, i < L.length → ∃ b o, A = some ⟨b, o, none⟩ ∧ b < n₀ ∧ w.cell? ⟨b, o + i, none⟩ = some (.int .u32 (dg L i : Nat))) :
    SeqStopsK F n Tryz.prog 212 #[.pointer (some ⟨Bs, 0, none⟩)] (fun y : Nat => #[Value.int .i64 ((L.length : Int) - 1 - y), Value.int .u32 (dg L (L.length - 1 - y) : Nat)]) (KpB n₀ Bs) (fun ys => ys = List.range L.length) (fun _ => True) L.length w := fun l J Jx W hW _ _ hY h0 => by
  have hB' := (hW.cell (p := ⟨Bs, 0, none⟩) hBs).trans hB
  exact back_fn F n h8 hro hn l Bs n₀ cap A L hL J Jx hY W hB' (fun i hi => by
    obtain ⟨b, o, e, h1, h2⟩ := hc i hi
    exact ⟨b, o, e, h1, (hW.cell (p := ⟨b, o + i, none⟩) (show b < w.heap.size by omega)).trans h2⟩) h0
set_option maxRecDepth 100000 in
set_option maxHeartbeats 2000000 in
theorem wide_in (F : Fence) (n : Nat) (h3 : F.fn 115) (h5 : F.fn 160) (h7 : F.fn 212) (hro : F.round = none) (hn : 3 ≤ n) (A : Option Addr) (cap : Nat) (L : List Nat) (hL : L.length ≤ 2) (hd : ∀ x ∈ L, x < 1000000000) (w : World) (hc : ∀ i, i < L.length → ∃ b o, A = some ⟨b, o, none⟩ ∧ b < w.heap.size ∧ w.cell? ⟨b, o + i, none⟩ = some (.int .u32 (dg L i : Nat))) :
    CallsIn F n Tryz.prog 115 #[.slice A L.length cap] w fun e W' => e = .returned (.int .u64 (nv L : Nat)) ∧ Below w.heap.size w W' := by
  have h1 : 1 ≤ n := by omega
  refine callsIn_of_wp_marks Tryz.func115 rfl h3 ?_ hro
  simp only [Tryz.ntmps115, List.size_toArray, List.length_cons, List.length_nil, Nat.reduceAdd, Nat.reduceSub, Array.replicate_succ, Array.replicate_zero, List.push_toArray, List.append_toArray, List.nil_append, List.cons_append]
  gi_wp2_with (gi_at_call 160; refine (back_in F (n - 1) h5 hro _ _ _ _).mono ?_; rintro e w' ⟨rfl, rfl⟩)
  have bS := Boxed.new w 80 (.int .u64 0)
  have bN := Boxed.new (w.alloc (.cells #[.int .u64 0] 80)) 83 (.slice A L.length cap)
  rw [World.size_alloc] at bN
  have hB0 : Below w.heap.size w ((w.alloc (.cells #[.int .u64 0] 80)).alloc (.cells #[.slice A L.length cap] 83)) := ((Below.refl _ w).alloc (Nat.le_refl _) _).alloc (by simp) _
  refine wpIn_rangeFunc_ownG hro h1 (gf := 212) (lb := #[.pointer (some ⟨w.heap.size + 1, 0, none⟩)]) rfl h7 (enters_of Tryz.func212 (by kernel_rfl) rfl)
    (back_stops F (n - 1) h7 hro (by omega) (w.heap.size + 1) w.heap.size cap A L (by omega) _ (by simp) (by simp; omega) bN.cell (fun i hi => by
      obtain ⟨b, o, e, hb, h2⟩ := hc i hi
      exact ⟨b, o, e, hb, (hB0.cell (p := ⟨b, o + i, none⟩) hb).trans h2⟩)) (fun h k => h.trans k) (kpB_b (by simp; omega)) (Below.refl _ _) (fun _ => rfl)
    (fun pre W => (W.cell? ⟨w.heap.size, 0, none⟩ = some (.int .u64 (fromTop L pre : Nat)) ∧ W.frozen? ⟨w.heap.size, 0, none⟩ = false) ∧ Below w.heap.size w W)
    (fun _ _ _ => False)
    (OwnFrom.and (Own.from (fun s A B row hs hg hr => ⟨cell_kept hs.1 hg hr, (frozen_kept hs.1 hg hr).trans hs.2⟩) _) (ownFrom_below (Nat.le_refl _) (by simp; omega)))
    (fun _ _ _ _ _ hs _ _ => hs)
    ⟨⟨(bS.alloc _).cell, (bS.alloc _).frozen⟩, hB0⟩
    (fun y => { tmps := #[.slice A L.length cap, undef, .int .u64 0, .pointer (some ⟨w.heap.size, 0, none⟩), undef, .int .u32 (dg L (L.length - 1 - y) : Nat), .slice A L.length cap, .func (.func 212) #[] #[.pointer (some ⟨w.heap.size + 1, 0, none⟩)], .int .i64 ((L.length : Int) - 1 - y), .int .u32 (dg L (L.length - 1 - y) : Nat), undef, undef, undef, undef, undef, undef], defers := [] }) ?assign ?body ?done ?stop
  case assign =>
    intro l x W K hK
    gi_wp2
    exact hK
  case body =>
    rintro l pre y W ⟨⟨hcc, hf⟩, hB⟩ hlen
    have hv := fromTop_lt L hd pre
    have hv2 := fromTop_lt L hd (pre ++ [y])
    have hs := fromTop_snoc L pre y
    have hx := dg_lt L hd (L.length - 1 - y)
    have hp : 1000000000 ^ (pre ++ [y]).length ≤ 1000000000 ^ 2 := Nat.pow_le_pow_right (by omega) (by simp; omega)
    have HFS := Lib.hid hs
    generalize htt : fromTop L (pre ++ [y]) = t at *
    have HTT := Lib.hid htt
    clear htt
    generalize fromTop L pre = s at *
    generalize dg L (L.length - 1 - y) = x at *
    have ht : t < 1000000000000000000 := by omega
    obtain ⟨p, hpp⟩ : ∃ p, p = s * 1000000000 := ⟨_, rfl⟩
    have s1 : (s : Int) * 1000000000 = (p : Int) := by omega
    have s2 : (p : Int) + (x : Int) = (t : Int) := by omega
    have u1 : IntKind.u64.wrap (p : Int) = p := u64_in (by omega)
    have u2 : IntKind.u64.wrap (x : Int) = x := u64_in (by omega)
    have u3 : IntKind.u64.wrap (t : Int) = t := u64_in (by omega)
    clear hs hpp hp hv hv2 hx ht
    have HB := Lib.hid hB
    have HCC := Lib.hid hcc
    have HF := Lib.hid hf
    gi_wp2
    exact ⟨(KeepsOthers.setCell _ _ _).from _, ⟨(Below.refl w.heap.size W).setCell (p := ⟨w.heap.size, 0, none⟩) (Nat.le_refl _) _, fun v e => by
      rw [World.cell?_of_block (w := W) (a := ⟨w.heap.size + 1, 0, none⟩) (Below.heap_setCell _ _ _ _ (show w.heap.size + 1 ≠ w.heap.size by omega))]; exact e⟩, ⟨by rw [HTT.out]; exact World.cell?_setCell_same' _ _ _ (by rw [HCC.out]; rfl), by rw [World.frozen?_setCell]; exact HF.out⟩, HB.out.setCell (p := ⟨w.heap.size, 0, none⟩) (Nat.le_refl _) _⟩
  case done =>
    rintro D ys W hD rfl ⟨⟨hcc, _⟩, hB⟩ hK
    rw [fromTop_all] at hcc
    gi_wp2
    refine ⟨by simp, .inl ⟨_, _, rfl, run_takeDeferred hK, ?_⟩⟩
    exact ⟨_, results_tmp rfl _ _ _, rfl, hB.trans (belowK_b (w := w) (Nat.le_refl _) W D _ _ (by simp at hD; omega) hK rfl rfl)⟩
  case stop =>
    rintro D c pre W _ _ h _
    exact h.elim
theorem wide_any (a : Nat) (v : Value) (w : World) (h : NV w v a) (ha : (nd a).length ≤ 2) :
    Calls Tryz.prog 115 #[v] w fun e W' => e = .returned (.int .u64 (a : Nat)) ∧ Hid (Below w.heap.size w W') := by
  obtain ⟨A, c, rfl, -, -, hA⟩ := RdU.open h
  have := (callsIn_wide (n := 3)).1 (wide_in Fence.wide 3 trivial trivial trivial rfl (by omega) A c (nd a) ha (nd_lt a) w hA)
  rw [nv_nd] at this
  exact this.mono fun e W' ⟨he, hb⟩ => ⟨he, Lib.hid hb⟩
end Go.Proofs.YtdbhlkejfecffaaGreatDoor
