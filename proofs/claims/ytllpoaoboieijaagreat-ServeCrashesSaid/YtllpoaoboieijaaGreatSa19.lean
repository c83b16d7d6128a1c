/-
  Models: the stable sort of eight numbers by a comparison of scores.
  Models: scores, weights.
-/
import Derived.Test.YtllpoaoboieijaaGreatSa7
import Derived.Test.YtllpoaoboieijaaGreatSa18
/-
  Models: the stable sort of eight numbers by a comparison of scores.
-/
namespace Go.Proofs.YtllpoaoboieijaaGreat
open Go.RowKit

set_option maxRecDepth 100000 in
set_option maxHeartbeats 800000 in
theorem rankCmp_any (lb lo lc bx : Nat) (sl : List Int) (a b : Int) (w : World) (hbx : w.cell? ⟨bx, 0, none⟩ = some (.slice (some ⟨lb, lo, none⟩) 8 lc)) (hl : RdAt w lb lo lc sl) (hsl : sl.length = 8) (ha : 0 ≤ a ∧ a < 8) (hb : 0 ≤ b ∧ b < 8) :
    Calls Tryz.prog 119 #[.int .i64 a, .int .i64 b, .pointer (some ⟨bx, 0, none⟩)] w fun e w' => e = .returned (.int .i64 (cmp3 (sl.getD b.toNat 0) (sl.getD a.toNat 0))) ∧ ∃ m, w' = w.drewN m := by
  obtain ⟨i, rfl⟩ : ∃ i : Nat, a = i := ⟨a.toNat, by omega⟩
  obtain ⟨j, rfl⟩ : ∃ j : Nat, b = j := ⟨b.toNat, by omega⟩
  have c1 := hl.2.2 i (by omega)
  have c2 := hl.2.2 j (by omega)
  have t1 : (i : Int) < 8 := ha.2
  have t2 : (j : Int) < 8 := hb.2
  rw [show (((j : Nat) : Int)).toNat = j by omega, show (((i : Nat) : Int)).toNat = i by omega]
  generalize sl.getD i 0 = x at *
  generalize sl.getD j 0 = y at *
  clear hl ha hb
  go_enter Tryz.func119, Tryz.ntmps119
  go_wp2
  go_quiet (first | (go_at_call 68; exact Calls.quiet_of_same (compare_any _ _ _)))
  go_wp2
  go_ret
  exact ⟨rfl, _, rfl⟩

theorem swap7 (ys : List Int) {i j : Nat} (hi : i < ys.length) (hj : j < ys.length) : ((ys.set i ys[j]).set j ys[i]).Perm ys := List.set_set_perm hi hj
theorem iget (xs : List Int) {i : Nat} (h : i < xs.length) : (ints xs)[i]? = some (.int .i64 xs[i]) := by simp [ints, h]
set_option maxRecDepth 100000 in
set_option maxHeartbeats 1600000 in
theorem ins7_any (lb lo lc bx g c : Nat) (sl xs : List Int) (w : World) (hbx : w.cell? ⟨bx, 0, none⟩ = some (.slice (some ⟨lb, lo, none⟩) 8 lc)) (hl : RdAt w lb lo lc sl) (hsl : sl.length = 8) (h1 : bx < g) (h2 : lb < g)
    (hb : Blk w g (ints xs) 3) (hx : ∀ x, x ∈ xs → 0 ≤ x ∧ x < 8) (hn : xs.length = 8) :
    Calls Tryz.prog 130 #[.slice (some ⟨g, 0, none⟩) 8 c, .int .i64 0, .int .i64 8, .func (.func 119) #[] #[.pointer (some ⟨bx, 0, none⟩)]] w fun e w' => e = .returned (.tuple #[]) ∧ ∃ ys, Hid (Below g w w') ∧ Hid (Blk w' g (ints ys) 3) ∧ Hid (ys.Perm xs) := by
  have HCM := Lib.hid (fun (wx : World) (hw : Below g w wx) (a b : Int) (ha : 0 ≤ a ∧ a < 8) (hb : 0 ≤ b ∧ b < 8) => rankCmp_any lb lo lc bx sl a b wx (by rw [hw.cell (p := ⟨bx, 0, none⟩) h1]; exact hbx) ⟨hl.1, hl.2.1, fun i hi => by rw [hw.cell (p := ⟨lb, lo + i, none⟩) h2]; exact hl.2.2 i hi⟩ hsl ha hb)
  have HB := Lib.hid hb
  have HX := Lib.hid hx
  have HN := Lib.hid hn
  clear hbx hl hsl h1 h2 hb hx hn
  go_enter Tryz.func130, Tryz.ntmps130
  go_wp2
  go_loopg [8] 8 (fun gk s8 wx => ∃ ys : List Int, ∃ i : Nat, s8 = .int .i64 i ∧ 1 ≤ i ∧ i ≤ 8 ∧ Hid (Below g w wx) ∧ Hid (Blk wx g (ints ys) 3) ∧ Hid (ys.Perm xs) ∧ gk = 8 + 1 - i)
  case atStart => exact ⟨xs, 1, by go_num, Nat.le_refl _, by omega, Lib.hid (Below.refl _ _), HB, Lib.hid (.refl _), rfl⟩
  case round =>
    obtain ⟨ys, i, rfl, hi1, hi2, HB1, HK1, HP1, rfl⟩ := hrel
    by_cases hlt : i < 8
    · have ti : (i : Int) < 8 := by omega
      have ti' : decide ((i : Int) < 8) = true := decide_eq_true ti
      go_wp2
      go_loopg [9] (i + 1) (fun gk s9 wx => ∃ zs : List Int, ∃ j : Nat, s9 = .int .i64 j ∧ j ≤ i ∧ Hid (Below g w wx) ∧ Hid (Blk wx g (ints zs) 3) ∧ Hid (zs.Perm xs) ∧ gk = j + 1)
      case atStart => exact ⟨ys, i, rfl, Nat.le_refl _, HB1, HK1, HP1, rfl⟩
      case round =>
        obtain ⟨zs, j, rfl, hji, HB2, HK2, HP2, rfl⟩ := hrel
        rcases Nat.eq_zero_or_pos j with rfl | hj0
        · have t0 : decide ((0 : Int) < ((0 : Nat) : Int)) = false := by decide
          go_wp2
          go_quiet (fail)
          go_wp2
          go_roundg (8 + 1 - (i + 1))
          case measure => omega
          case rel => exact ⟨zs, i + 1, by go_num, by omega, by omega, Lib.hid (below_drewN HB2.out _), Lib.hid (HK2.out.drewN _), HP2, rfl⟩
        · obtain ⟨m, rfl⟩ : ∃ m, j = m + 1 := ⟨j - 1, by omega⟩
          have hlen2 : zs.length = 8 := by rw [HP2.out.length_eq, HN.out]
          have hm1 : m + 1 < zs.length := by omega
          have ha := HX.out _ (HP2.out.mem_iff.1 (List.getElem_mem (h := hm1)))
          have hb := HX.out _ (HP2.out.mem_iff.1 (List.getElem_mem (h := (by omega : m < zs.length))))
          have q1 : wr.cell? ⟨g, m + 1, none⟩ = _ := (HK2.out.cell (m + 1)).trans (iget zs hm1)
          have q0 : wr.cell? ⟨g, m, none⟩ = _ := (HK2.out.cell m).trans (iget zs (by omega : m < zs.length))
          have hcmp := HCM.out (wr.drewN 1) (below_drewN HB2.out 1) _ _ ha hb
          have HM1 := Lib.hid hm1
          have HCMP := Lib.hid hcmp
          have hsw : ((zs.set (m + 1) zs[m]).set m zs[m + 1]).Perm zs := swap7 zs hm1 (by omega)
          have HSW := Lib.hid hsw
          have HSET := Lib.hid (show ∀ (x y : Int), ((ints zs).set (m + 1) (.int .i64 x)).set m (.int .i64 y) = ints ((zs.set (m + 1) x).set m y) from fun x y => by rw [ints_set, ints_set])
          clear ha hb hcmp hsw
          generalize zs[m + 1] = z1 at q1 HCMP HSW
          generalize zs[m] = z0 at q0 HCMP HSW
          clear hlen2 hm1
          have t0 : decide ((0 : Int) < ((m + 1 : Nat) : Int)) = true := by simp
          have t1 : 0 ≤ (m : Int) + 1 := by omega
          have t2 : (m : Int) + 1 < 8 := by omega
          have t6 : IntKind.i64.wrap (m : Int) = m := IntWalk.i64_in _ (by omega)
          have t5 : ((m : Nat) : Int) < 8 := by omega
          go_wp2
          refine wp_region_still_tail 14 (by kernel_rfl) (by kernel_rfl) ?_
          simp only [List.take_succ_cons, List.take_zero, List.drop_succ_cons, List.drop_zero]
          repeat still_step
          refine wpStill_nil ?_
          go_wp2_with fail
          refine HCMP.out.mono ?_
          rintro e w3 ⟨rfl, k3, hw3⟩
          have hk3 : Blk w3 g (ints zs) 3 := by rw [hw3]; exact (HK2.out.drewN 1).drewN k3
          have HB3 := Lib.hid (show Below g w w3 by rw [hw3]; exact below_drewN (below_drewN HB2.out 1) _)
          have p1 : w3.cell? ⟨g, m + 1, none⟩ = some (.int .i64 z1) := by rw [hw3]; exact q1
          have p0 : w3.cell? ⟨g, m, none⟩ = some (.int .i64 z0) := by rw [hw3]; exact q0
          have f3 := hk3.frozen
          have HK3 := Lib.hid hk3
          clear hk3 q1 q0 hw3
          generalize cmp3 (sl.getD z0.toNat 0) (sl.getD z1.toNat 0) = cv
          by_cases hc : cv < 0
          · go_wp2
            go_region
            go_wp2
            go_roundg (m + 1)
            case measure => omega
            case rel =>
              refine ⟨(zs.set (m + 1) z0).set m z1, m, by go_num, by omega, Lib.hid ?_, Lib.hid ?_, Lib.hid (HSW.out.trans HP2.out), rfl⟩
              · exact (HB3.out.drew.setCell (Nat.le_refl _) _).setCell (Nat.le_refl _) _
              · have := ((HK3.out.drew).set (m + 1) (.int .i64 z0)).set m (.int .i64 z1)
                rw [HSET.out] at this
                exact this
          · have d1 : decide (cv < 0) = false := decide_eq_false hc
            go_wp2
            go_roundg (8 + 1 - (i + 1))
            case measure => omega
            case rel => exact ⟨zs, i + 1, by go_num, by omega, by omega, HB3, HK3, HP2, rfl⟩
    · have : i = 8 := by omega
      subst this
      go_wp2
      go_end0
      exact ⟨rfl, ys, HB1, HK1, HP1⟩

set_option maxRecDepth 100000 in
set_option maxHeartbeats 800000 in
theorem stable_any (lb lo lc bx g c : Nat) (sl xs : List Int) (w : World) (hbx : w.cell? ⟨bx, 0, none⟩ = some (.slice (some ⟨lb, lo, none⟩) 8 lc)) (hl : RdAt w lb lo lc sl) (hsl : sl.length = 8) (h1 : bx < g) (h2 : lb < g)
    (hb : Blk w g (ints xs) 3) (hx : ∀ x, x ∈ xs → 0 ≤ x ∧ x < 8) (hn : xs.length = 8) :
    Calls Tryz.prog 128 #[.slice (some ⟨g, 0, none⟩) 8 c, .int .i64 8, .func (.func 119) #[] #[.pointer (some ⟨bx, 0, none⟩)]] w fun e w' => e = .returned (.tuple #[]) ∧ ∃ ys, Hid (Below g w w') ∧ Hid (Blk w' g (ints ys) 3) ∧ Hid (ys.Perm xs) := by
  have HI := Lib.hid (ins7_any lb lo lc bx g c sl xs w hbx hl hsl h1 h2 hb hx hn)
  clear hbx hl hsl h1 h2 hb hx hn
  go_enter Tryz.func128, Tryz.ntmps128
  go_wp2
  go_loopg [7, 8] 1 (fun gk s7 s8 wx => s7 = .int .i64 0 ∧ s8 = .int .i64 20 ∧ wx = w ∧ gk = 1)
  case atStart => exact ⟨rfl, rfl, rfl, rfl⟩
  case round =>
    obtain ⟨rfl, rfl, rfl, rfl⟩ := hrel
    go_wp2_with (go_at_call 130; refine HI.out.mono ?_; rintro e w1 ⟨rfl, ys, HB1, HK1, HP1⟩)
    go_loopg [6] 1 (fun gk s6 wx => s6 = .int .i64 20 ∧ Hid (Below g wr wx) ∧ Hid (Blk wx g (ints ys) 3) ∧ gk = 1)
    case atStart => exact ⟨rfl, HB1, HK1, rfl⟩
    case round =>
      obtain ⟨rfl, HB2, HK2, rfl⟩ := hrel
      go_wp2
      go_end0
      exact ⟨rfl, ys, HB2, HK2, HP1⟩
set_option maxRecDepth 100000 in
set_option maxHeartbeats 800000 in
theorem sortStable_any (lb lo lc bx g c : Nat) (sl xs : List Int) (w : World) (hbx : w.cell? ⟨bx, 0, none⟩ = some (.slice (some ⟨lb, lo, none⟩) 8 lc)) (hl : RdAt w lb lo lc sl) (hsl : sl.length = 8) (h1 : bx < g) (h2 : lb < g)
    (hb : Blk w g (ints xs) 3) (hx : ∀ x, x ∈ xs → 0 ≤ x ∧ x < 8) (hn : xs.length = 8) :
    Calls Tryz.prog 118 #[.slice (some ⟨g, 0, none⟩) 8 c, .func (.func 119) #[] #[.pointer (some ⟨bx, 0, none⟩)]] w fun e w' => e = .returned (.tuple #[]) ∧ ∃ ys, Hid (Below g w w') ∧ Hid (Blk w' g (ints ys) 3) ∧ Hid (ys.Perm xs) := by
  have HI := Lib.hid (stable_any lb lo lc bx g c sl xs w hbx hl hsl h1 h2 hb hx hn)
  clear hbx hl hsl h1 h2 hb hx hn
  go_enter Tryz.func118, Tryz.ntmps118
  go_wp2_with (go_at_call 128; refine HI.out.mono ?_; rintro e w1 ⟨rfl, ys, HB1, HK1, HP1⟩)
  go_end0
  exact ⟨rfl, ys, HB1, HK1, HP1⟩

def fillTo (k : Nat) : List Int := (List.range 8).map fun i => if i < k then (i : Int) else 0
theorem fillTo_set (k : Nat) (_h : k < 8) : (fillTo k).set k (k : Int) = fillTo (k + 1) := by
  apply List.ext_getElem
  · simp [fillTo]
  · intro i h1 h2
    rw [List.getElem_set]
    simp only [fillTo, List.getElem_map, List.getElem_range]
    by_cases e : k = i
    · subst e; simp
    · rw [if_neg e]
      by_cases e2 : i < k
      · rw [if_pos e2, if_pos (by omega)]
      · rw [if_neg e2, if_neg (by omega)]
set_option maxRecDepth 100000 in
set_option maxHeartbeats 800000 in
theorem rank_any (sl : List Int) (lb lo lc : Nat) (w : World) (hl : RdAt w lb lo lc sl) (hsl : sl.length = 8) :
    Calls Tryz.prog 98 #[.slice (some ⟨lb, lo, none⟩) 8 lc, .int .i64 8] w fun e w' => ∃ g ys, e = .returned (.slice (some ⟨g, 0, none⟩) 8 8) ∧ Hid (Below w.heap.size w w') ∧ Hid (RdAt w' g 0 8 ys ∧ w.heap.size ≤ g) ∧ Hid (ys.Perm (fillTo 8)) := by
  obtain ⟨w1, hw1, hb1, hk1⟩ : ∃ w1, w.alloc (.cells #[.slice (some ⟨lb, lo, none⟩) 8 lc] 22) = w1 ∧ Below w.heap.size w w1 ∧ Blk w1 w.heap.size [.slice (some ⟨lb, lo, none⟩) 8 lc] 22 := ⟨_, rfl, (Below.refl _ _).alloc (Nat.le_refl _) _, heap_alloc_new w _⟩
  obtain ⟨w2, hmk, hb2, hk2⟩ : ∃ w2, Sem.run Tryz.prog (Instr.makeSlice 22 (.int .i64 8) (.int .i64 8)) w1 = .ok (.slice (some ⟨w1.heap.size, 0, none⟩) 8 8) w2 ∧ Below w1.heap.size w1 w2 ∧ Blk w2 w1.heap.size (ints (fillTo 0)) 3 :=
    ⟨_, make_ints 8 (by omega) w1, (Below.refl _ _).alloc (Nat.le_refl _) _, heap_alloc_new w1 _⟩
  have hbx1 := hk1.lt
  have hlb := hl.lt (by omega)
  have HL1 := Lib.hid (hl.below hb1)
  have q1 := hk1.cell
  generalize hg : w1.heap.size = g at hmk hb2 hk2 hbx1
  have HS := Lib.hid (fun (wx : World) (hb : Below g w1 wx) (ys : List Int) (hk : Blk wx g (ints ys) 3) (hx : ∀ x, x ∈ ys → 0 ≤ x ∧ x < 8) (hn : ys.length = 8) => sortStable_any lb lo lc w.heap.size g 8 sl ys wx (by rw [hb.cell (p := ⟨w.heap.size, 0, none⟩) hbx1, hk1.cell]; rfl) (HL1.out.below (by rw [hg]; exact hb)) hsl hbx1 (by omega) hk hx hn)
  have HB1 := Lib.hid hb1
  have HB2 := Lib.hid hb2
  have HK2 := Lib.hid hk2
  have HG := Lib.hid hg
  clear hb1 hk1 hb2 hk2 hbx1 hlb hl hg
  go_enter Tryz.func98, Tryz.ntmps98
  go_wp2
  clear q1 hmk hw1
  go_loopg [12] 8 (fun gk s12 wx => ∃ i : Nat, s12 = .int .i64 i ∧ i ≤ 8 ∧ Hid (Below g w1 wx) ∧ Hid (Blk wx g (ints (fillTo i)) 3) ∧ gk = 8 - i)
  case atStart => exact ⟨0, rfl, by omega, HB2, HK2, rfl⟩
  case round =>
    obtain ⟨i, rfl, hi, HB3, HK3, rfl⟩ := hrel
    by_cases hlt : i < 8
    · have hs := fillTo_set i hlt
      have HST := Lib.hid hs
      have f1 := HK3.out.frozen i
      have c1 : wr.cell? ⟨g, i, none⟩ = some (.int .i64 ((fillTo i).getD i 0)) := by rw [HK3.out.cell]; simp [ints, fillTo, List.getD, hlt]
      clear hs
      go_wp2
      go_roundg (8 - (i + 1))
      case measure => omega
      case rel =>
        refine ⟨i + 1, by go_num, by omega, Lib.hid (HB3.out.setCell (Nat.le_refl _) _), Lib.hid ?_, rfl⟩
        have := HK3.out.set i (.int .i64 (i : Int))
        rw [ints_set, HST.out] at this
        exact this
    · have : i = 8 := by omega
      subst this
      have hin : ∀ x, x ∈ fillTo 8 → 0 ≤ x ∧ x < 8 := by decide
      have HSW := Lib.hid (HS.out wr HB3.out (fillTo 8) HK3.out hin rfl)
      go_wp2_with (go_at_call 118; refine HSW.out.mono ?_; rintro e w4 ⟨rfl, ys, HB4, HK4, HP4⟩)
      go_ret
      refine ⟨_, ys, rfl, Lib.hid ?_, Lib.hid ?_, Lib.hid HP4.out⟩
      · exact HB1.out.trans ((HB3.out.trans HB4.out).mono (by rw [← HG.out]; exact HB1.out.size))
      · have hk4 : Blk w4 g (ints ys ++ []) 3 := by rw [List.append_nil]; exact HK4.out
        exact ⟨hk4.rdat (by rw [HP4.out.length_eq]; exact Nat.le_refl _) (by decide), by rw [← HG.out]; exact HB1.out.size⟩
end Go.Proofs.YtllpoaoboieijaaGreat
/-
  Models: scores, weights.
-/
namespace Go.Proofs.YtllpoaoboieijaaGreat
open Go.RowKit

def outRow (v : Nat) : List Int := (demoM.out.drop (4 * v)).take 4
theorem outRow_len (v : Nat) (h : v < 8) : (outRow v).length = 4 := by simp [outRow, demoM, matL_len]; omega
def scTo (h : List Int) (k : Nat) : List Int := (List.range k).map fun v => dotI (outRow v) h
theorem scTo_succ (h : List Int) (k : Nat) : scTo h (k + 1) = scTo h k ++ [dotI (outRow k) h] := by simp [scTo, List.range_succ]
theorem scTo_len (h : List Int) (k : Nat) : (scTo h k).length = k := by simp [scTo]
theorem dotTo_in (a b : List Int) (n : Nat) : -2147483648 ≤ dotTo a b n ∧ dotTo a b n ≤ 2147483647 := by
  cases n with
  | zero => simp [dotTo]
  | succ n => exact w32_in _
theorem scTo_in (h : List Int) (k : Nat) : ∀ x, x ∈ scTo h k → -2147483648 ≤ x ∧ x ≤ 2147483647 := by
  intro x hx
  simp only [scTo, List.mem_map] at hx
  obtain ⟨v, -, rfl⟩ := hx
  exact dotTo_in _ _ _

set_option maxRecDepth 100000 in
set_option maxHeartbeats 1600000 in
theorem scores_any (p : MPl) (b o c n : Nat) (es : Nat → List Int) (P : Nat → Pl) (hn : 0 < n) (hn2 : n ≤ 64) (w : World) (h : DemoAt w p) (he : EntsAt w b o n es P) :
    Calls Tryz.prog 84 #[.agg (demoCells p).toArray, .slice (some ⟨b, o, none⟩) n c] w fun e w' => ∃ g c, e = .returned (.slice (some ⟨g, 0, none⟩) 8 c) ∧ Hid (Below w.heap.size w w') ∧ Hid (RdAt w' g 0 c (scTo (attOut es n) 8)) := by
  obtain ⟨wb, hwb, hbel, hblk⟩ : ∃ wb, w.alloc (.cells (demoCells p).toArray 27) = wb ∧ Below w.heap.size w wb ∧ Blk wb w.heap.size (demoCells p) 27 := ⟨_, rfl, (Below.refl _ _).alloc (Nat.le_refl _) _, heap_alloc_new w _⟩
  have HQ := Lib.hid (fun (wx : World) (hb : Below wb.heap.size wb wx) => (hblk.below hb).cell)
  have q0 := hblk.cell
  have HB := Lib.hid hbel
  have HWB := Lib.hid hwb
  have HD := Lib.hid (h.below hbel)
  have HA := Lib.hid (attend_any p b o c n es P hn hn2 wb (h.below hbel) (he.below hbel))
  obtain ⟨i0, hi, hz0, hz1, hz2⟩ := info_parts info3
  clear hbel hblk h he
  simp only [demoCells] at q0 HQ HA hwb ⊢
  go_enter Tryz.func84, Tryz.ntmps84
  go_wp2_with (go_at_call 99; refine HA.out.mono ?_; rintro e w1 ⟨g1, c1, rfl, HB1, HR1⟩; have q1 := HQ.out _ HB1.out)
  go_loopg [6, 25] 8 (fun gk s6 s25 wx => ∃ k : Nat, s25 = .int .i64 k ∧ k ≤ 8 ∧ Hid (Below w1.heap.size w1 wx) ∧ Hid (wx.ownsRow w1.heap.size 3 1 s6 k (ints (scTo (attOut es n) k))) ∧ gk = 8 - k)
  case atStart => exact ⟨0, rfl, by omega, Lib.hid (Below.refl _ _), Lib.hid (World.ownsRow_nil _ _ _ _), rfl⟩
  case round =>
    obtain ⟨k, rfl, hk, HB2, HO2, rfl⟩ := hrel
    obtain ⟨A7, c7, hv7⟩ := ownsRow_shape HO2.out
    subst hv7
    have HB12 := Lib.hid (HB1.out.trans (HB2.out.mono HB1.out.size))
    by_cases hlt : k < 8
    · have q2 := HQ.out _ HB12.out
      have o32 := HD.out.out.1
      rw [show demoM.out.length = 32 from matL_len _ _] at o32
      have HOR := Lib.hid (show RdAt wr p.out.b (p.out.o + 4 * k) (p.out.c - 4 * k) (outRow k) from (HD.out.below HB12.out).out.part (4 * k) 4 (by rw [show demoM.out.length = 32 from matL_len _ _]; omega))
      have HL := Lib.hid (outRow_len k hlt)
      have hb1 : k + 1 ≤ maxLen := by unfold maxLen; omega
      have hb2 : (k + 1) * 8 ≤ 140737488355328 := by omega
      clear q0 q1
      go_wp2_with (first | (at_builtin; refine wpList_append_lies _ rfl _ _ 22 rfl w1.heap.size 3 i0 (.int .i64 0) 1 8 Tryz.underlying22 hi hz0 hz1 hz2 rfl (by decide) _ k _ rfl (ownsRow_below HO3.out (Below.alloc (Below.refl _ _) (Nat.le_refl _) _)) ⟨w3.heap.size, 0, none⟩ 1 1 [.int .i64 (dotI (outRow k) (attOut es n))] rfl rfl (news1' _ _ _) (one_int _ _) Nat.one_pos hb1 hb2 (Nat.le_trans HB3.out.size (alloc_le _ _)) _ rfl ?_; intro g11 cap11 w11 hown11 hgrow11 hat11 hlt11; have HO11 := Lib.hid hown11; have HB11 := Lib.hid (Below.trans (HB3.out.alloc HB3.out.size _) (Below.ofGrown hgrow11 (Nat.le_trans HB3.out.size (alloc_le _ _)) (ownsRow_base HO2.out))); clear hown11 hgrow11 hat11 hlt11) | (go_at_call 80; refine (dot_at (outRow k) (attOut es n) _ _ _ _ _ _ 4 4 _ HOR.out (HR1.out.below HB2.out) HL.out.symm (hShift_len _ _).symm (by omega) (by omega)).mono ?_; rintro e w3 ⟨rfl, k3, hw3⟩; have HB3 := Lib.hid (show Below w1.heap.size w1 w3 by rw [hw3]; exact below_drewN HB2.out _); have HO3 := Lib.hid (show w3.ownsRow w1.heap.size 3 1 (.slice A7 k c7) k (ints (scTo (attOut es n) k)) by rw [hw3]; exact ownsRow_below HO2.out (below_drewN (Below.refl _ _) _)); clear hw3) | (go_at_call 76; refine (row_4 _ _ _ _ k (by omega) o32 (by omega) _).mono ?_; rintro e wz ⟨rfl, hz⟩; subst wz))
      go_roundg (8 - (k + 1))
      case measure => omega
      case rel =>
        refine ⟨k + 1, by go_num, by omega, HB11, Lib.hid ?_, rfl⟩
        have := HO11.out
        rw [scTo_succ, ints, List.map_append]
        exact this
    · have : k = 8 := by omega
      subst this
      rcases HO2.out.2 with ⟨hv, hz⟩ | ⟨g, cap, cur, hv, -⟩
      · omega
      · injection hv with a1 a2 a3
        subst a1 a3
        clear q0 q1
        go_wp2
        go_ret
        exact ⟨_, _, rfl, Lib.hid (HB.out.trans (HB12.out.mono HB.out.size)), Lib.hid (OwnInts.rd HO2.out)⟩
end Go.Proofs.YtllpoaoboieijaaGreat
