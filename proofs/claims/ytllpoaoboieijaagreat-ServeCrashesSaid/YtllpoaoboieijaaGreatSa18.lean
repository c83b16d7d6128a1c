/-
  Models: attend.
-/
import Derived.Test.YtllpoaoboieijaaGreatSa17
/-
  Models: attend.
-/
namespace Go.Proofs.YtllpoaoboieijaaGreat
open Go.RowKit

/-- Entries that can be read: n of them, es i the numbers of the one at i. -/
structure EntsAt (w : World) (b o n : Nat) (es : Nat → List Int) (P : Nat → Pl) : Prop where
  cell : ∀ i, i < n → w.cell? ⟨b, o + i, none⟩ = some (.slice (some ⟨(P i).b, (P i).o, none⟩) 12 (P i).c)
  rd : ∀ i, i < n → RdAt w (P i).b (P i).o (P i).c (es i)
  len : ∀ i, i < n → (es i).length = 12
theorem EntsAt.below {w w' : World} {b o n : Nat} {es : Nat → List Int} {P : Nat → Pl} (h : EntsAt w b o n es P) (hb : Below w.heap.size w w') : EntsAt w' b o n es P := by
  refine ⟨fun i hi => ?_, fun i hi => (h.rd i hi).below hb, h.len⟩
  rw [World.cell?_of_block (a := ⟨b, o + i, none⟩) (w := w) (hb.block b (World.block_lt_of_cell? w _ (h.cell i hi)))]
  exact h.cell i hi

theorem make_ints (n : Nat) (hn : n ≤ 1000) (w : World) : Sem.run Tryz.prog (Instr.makeSlice 22 (.int .i64 (n : Int)) (.int .i64 (n : Int))) w = .ok (.slice (some ⟨w.heap.size, 0, none⟩) n n) (w.alloc (.cells (ints (List.replicate n 0)).toArray 3)) := by
  obtain ⟨i0, hi, hz0, hz1, hz2⟩ := info_parts info3
  have h := run_makeSlice (P := Tryz.prog) w 22 3 i0 (.int .i64 0) Tryz.underlying22 hi hz0 .i64 .i64 (n : Int) (n : Int) (by omega) (by omega) (by rw [hz1]; omega) (by rw [hz2]; omega) (by omega)
  have e : madeCells (Value.int .i64 0).cells (((n : Int)).toNat * i0.size) = (ints (List.replicate n 0)).toArray := by
    rw [hz1]
    apply Array.ext
    · simp [size_madeCells, ints]
    · intro j h1 h2
      simp [madeCells, ints, Value.cells, Nat.mod_one]
  rw [e] at h
  exact h

theorem wrapEq (x : Int) : IntKind.i64.wrap x = wrap64 x := by rw [IntKind.wrap_i64]; unfold wrap64; omega
def lastL (es : Nat → List Int) (n : Nat) : List Int := ((es (n - 1)).drop 8).take 4
def attJ (es : Nat → List Int) (n i : Nat) : Int := shiftI (dotI (((es i).drop 0).take 4) (lastL es n)) 32
def attS (es : Nat → List Int) (n k : Nat) : List Int := (List.range k).map (attJ es n)
theorem attS_succ (es : Nat → List Int) (n k : Nat) : attS es n (k + 1) = attS es n k ++ [attJ es n k] := by simp [attS, List.range_succ]
theorem attS_len (es : Nat → List Int) (n k : Nat) : (attS es n k).length = k := by simp [attS]
def attI (es : Nat → List Int) (n i : Nat) : Nat := (min (max (w32 (wrap64 (maxI (attS es n n) - (attS es n n).getD i 0))) 0) 6).toNat
def attW (es : Nat → List Int) (n i : Nat) : Int := demoM.soft.getD (attI es n i) 0
def hStep (h : List Int) (wt : Int) (e : List Int) (k : Nat) : List Int := (List.range 4).map fun o => if o < k then w32 (wrap64 (h.getD o 0 + w32 (wrap64 (wt * ((e.drop 4).take 4).getD o 0)))) else h.getD o 0
def attH (es : Nat → List Int) (n : Nat) : Nat → List Int
  | 0 => [0, 0, 0, 0]
  | i + 1 => hStep (attH es n i) (attW es n i) (es i) 4
def hShift (h : List Int) (k : Nat) : List Int := (List.range 4).map fun o => if o < k then shiftI (h.getD o 0) 128 else h.getD o 0
def attOut (es : Nat → List Int) (n : Nat) : List Int := hShift (attH es n n) 4
theorem hStep_len (h : List Int) (wt : Int) (e : List Int) (k : Nat) : (hStep h wt e k).length = 4 := by simp [hStep]
theorem hShift_len (h : List Int) (k : Nat) : (hShift h k).length = 4 := by simp [hShift]
theorem attH_len (es : Nat → List Int) (n i : Nat) : (attH es n i).length = 4 := by
  cases i with
  | zero => rfl
  | succ i => exact hStep_len _ _ _ _
theorem four_zero (h : List Int) (hl : h.length = 4) : (List.range 4).map (fun o => h.getD o 0) = h := by
  apply List.ext_getElem
  · simp [hl]
  · intro i h1 h2; simp [List.getD, h2]
theorem hStep_zero (h : List Int) (hl : h.length = 4) (wt : Int) (e : List Int) : hStep h wt e 0 = h := by simpa [hStep] using four_zero h hl
theorem hShift_zero (h : List Int) (hl : h.length = 4) : hShift h 0 = h := by simpa [hShift] using four_zero h hl
theorem four_set (f : Nat → Int) (g : Nat → Int) (k : Nat) (_h : k < 4) : ((List.range 4).map fun o => if o < k then f o else g o).set k (f k) = (List.range 4).map fun o => if o < k + 1 then f o else g o := by
  apply List.ext_getElem
  · simp
  · intro i h1 h2
    have hi : i < 4 := by simpa using h2
    rw [List.getElem_set]
    by_cases e : k = i
    · subst e; simp
    · rw [if_neg e]
      simp only [List.getElem_map, List.getElem_range]
      by_cases e2 : i < k
      · rw [if_pos e2, if_pos (by omega)]
      · rw [if_neg e2, if_neg (by omega)]
theorem four_get (f : Nat → Int) (g : Nat → Int) (k : Nat) (h : k < 4) : ((List.range 4).map fun o => if o < k then f o else g o).getD k 0 = g k := by simp [List.getD, h]
theorem hStep_get (h : List Int) (wt : Int) (e : List Int) (k : Nat) (hk : k < 4) : (hStep h wt e k).getD k 0 = h.getD k 0 := four_get _ _ k hk
theorem hStep_set (h : List Int) (wt : Int) (e : List Int) (k : Nat) (hk : k < 4) : (hStep h wt e k).set k (w32 (wrap64 (h.getD k 0 + w32 (wrap64 (wt * ((e.drop 4).take 4).getD k 0))))) = hStep h wt e (k + 1) := four_set _ _ k hk
theorem hShift_get (h : List Int) (k : Nat) (hk : k < 4) : (hShift h k).getD k 0 = h.getD k 0 := four_get _ _ k hk
theorem hShift_set (h : List Int) (k : Nat) (hk : k < 4) : (hShift h k).set k (shiftI (h.getD k 0) 128) = hShift h (k + 1) := four_set _ _ k hk
theorem ints_set (l : List Int) (k : Nat) (x : Int) : (ints l).set k (.int .i64 x) = ints (l.set k x) := by simp [ints, List.map_set]

set_option maxRecDepth 100000 in
set_option maxHeartbeats 1600000 in
theorem attend_any (p : MPl) (b o c n : Nat) (es : Nat → List Int) (P : Nat → Pl) (hn : 0 < n) (hn2 : n ≤ 64) (w : World) (h : DemoAt w p) (he : EntsAt w b o n es P) :
    Calls Tryz.prog 99 #[.agg (demoCells p).toArray, .slice (some ⟨b, o, none⟩) n c] w fun e w' => ∃ g c, e = .returned (.slice (some ⟨g, 0, none⟩) 4 c) ∧ Hid (Below w.heap.size w w') ∧ Hid (RdAt w' g 0 c (attOut es n)) := by
  obtain ⟨wb, hwb, hbel, hblk⟩ : ∃ wb, w.alloc (.cells (demoCells p).toArray 27) = wb ∧ Below w.heap.size w wb ∧ Blk wb w.heap.size (demoCells p) 27 := ⟨_, rfl, (Below.refl _ _).alloc (Nat.le_refl _) _, heap_alloc_new w _⟩
  have hd := h.below hbel
  have HE := Lib.hid (he.below hbel)
  have HD := Lib.hid hd
  have HQ := Lib.hid (fun (wx : World) (hb : Below wb.heap.size wb wx) => (hblk.below hb).cell)
  have q0 := hblk.cell
  have HB := Lib.hid hbel
  have HWB := Lib.hid hwb
  have e1 := HE.out.cell (n - 1) (by omega)
  have e2 : (((n - 1 : Nat) : Int)) = (n : Int) - 1 := by omega
  have e3 : IntKind.i64.wrap ((n : Int) - 1) = ((n - 1 : Nat) : Int) := by rw [IntWalk.i64_in _ (by omega)]; omega
  have t1 : n - 1 < n := by omega
  have l12 := (HE.out.rd (n - 1) (by omega)).1
  rw [HE.out.len (n - 1) (by omega)] at l12
  have t2 : ¬ (P (n - 1)).c = 8 := by omega
  clear hbel hblk h hd he
  simp only [demoCells] at q0 HQ hwb ⊢
  go_enter Tryz.func99, Tryz.ntmps99
  go_wp2
  have HS1 := Lib.hid (fun (wx : World) (hb : Below wb.heap.size wb wx) => And.intro (HQ.out wx hb) (show wx.cell? ⟨p.cuts.b, p.cuts.o + 1, none⟩ = some (.int .i64 6) from (HD.out.below hb).cuts.2.2 1 (by decide)))
  have HLL := Lib.hid (show (lastL es n).length = 4 by simp [lastL, HE.out.len (n - 1) t1])
  have HLR := Lib.hid (fun (wx : World) (hb : Below wb.heap.size wb wx) => (show RdAt wx (P (n - 1)).b ((P (n - 1)).o + 8) ((P (n - 1)).c - 8) (lastL es n) from ((HE.out.below hb).rd (n - 1) t1).part 8 4 (by rw [HE.out.len (n - 1) t1]; omega)))
  obtain ⟨i0, hi, hz0, hz1, hz2⟩ := info_parts info3
  clear e1 e2 e3
  go_loopg [7, 31] n (fun gk s7 s31 wx => ∃ k : Nat, s31 = .int .i64 k ∧ k ≤ n ∧ Hid (Below wb.heap.size wb wx) ∧ Hid (wx.ownsRow wb.heap.size 3 1 s7 k (ints (attS es n k))) ∧ gk = n - k)
  case atStart => exact ⟨0, rfl, by omega, Lib.hid (Below.refl _ _), Lib.hid (World.ownsRow_nil _ _ _ _), rfl⟩
  case round =>
    obtain ⟨k, rfl, hk, HB7, HO7, rfl⟩ := hrel
    obtain ⟨A7, c7, hv7⟩ := ownsRow_shape HO7.out
    subst hv7
    by_cases hlt : k < n
    · have q7 := HQ.out wr HB7.out
      have c1 := (HE.out.below HB7.out).cell k hlt
      have l12k := (HE.out.rd k hlt).1
      rw [HE.out.len k hlt] at l12k
      have HER := Lib.hid (fun (wx : World) (hb : Below wb.heap.size wb wx) => (show RdAt wx (P k).b (P k).o (P k).c (((es k).drop 0).take 4) from ((HE.out.below hb).rd k hlt).part 0 4 (by rw [HE.out.len k hlt]; omega)))
      have HEL := Lib.hid (show (((es k).drop 0).take 4).length = 4 by simp [HE.out.len k hlt])
      have HJ := Lib.hid (show attJ es n k = shiftI (dotI (((es k).drop 0).take 4) (lastL es n)) 32 from rfl)
      have hb1 : k + 1 ≤ maxLen := by unfold maxLen; omega
      have hb2 : (k + 1) * 8 ≤ 140737488355328 := by omega
      clear q0
      go_upto_region 7 with fail
      have l4k : (4 : Int) ≤ ((P k).c : Int) := by omega
      go_region_held3 (fun wy : World => (∀ o, wy.cell? ⟨w.heap.size, o, none⟩ = ([Value.int .i64 1, .int .i64 8, .int .i64 4, .int .i64 8, .slice (some ⟨p.cuts.b, p.cuts.o, none⟩) 4 p.cuts.c, .slice (some ⟨p.embed.b, p.embed.o, none⟩) 32 p.embed.c, .slice (some ⟨p.place.b, p.place.o, none⟩) 16 p.place.c, .slice (some ⟨p.mix.b, p.mix.o, none⟩) 48 p.mix.c, .slice (some ⟨p.out.b, p.out.o, none⟩) 32 p.out.c, .slice (some ⟨p.soft.b, p.soft.o, none⟩) 7 p.soft.c, .slice (some ⟨p.odds.b, p.odds.o, none⟩) 6 p.odds.c] : List Value)[o]?) ∧ wy.cell? ⟨p.cuts.b, p.cuts.o + 1, none⟩ = some (.int .i64 6)) (first | exact HS1.out _ HB11.out | exact HS1.out _ (HB9.out.alloc HB9.out.size _) | exact HS1.out _ HB9.out | exact HS1.out _ HB7.out.drew) (first
        | (refine step_append_lies _ (by rfl) _ _ _ (by rfl) wb.heap.size 3 i0 (.int .i64 0) 1 8 Tryz.underlying22 hi hz0 hz1 hz2 rfl (by decide) (.slice A7 k c7) k _ (by rfl) (ownsRow_below HO9.out (Below.alloc (Below.refl _ _) (Nat.le_refl _) _)) ⟨w9.heap.size, 0, none⟩ 1 1 [.int .i64 (shiftI (dotI (((es k).drop 0).take 4) (lastL es n)) 32)] (by rfl) (by rfl) (news1' _ _ _) (one_int _ _) Nat.one_pos hb1 hb2 (Nat.le_trans HB9.out.size (alloc_le _ _)) _ rfl ?_; intro g11 cap11 w11 hown11 hgrow11 hat11 hlt11; have HO11 := Lib.hid hown11; have HB11 := Lib.hid (Below.trans (HB9.out.alloc HB9.out.size _) (Below.ofGrown hgrow11 (Nat.le_trans HB9.out.size (alloc_le _ _)) (ownsRow_base HO7.out))); clear hown11 hgrow11 hat11 hlt11)
        | (go_at_call 79; refine (shift_6 _ _).mono ?_; rintro e wz ⟨rfl, hz⟩; subst wz; dsimp only)
        | (go_at_call 80; refine (dot_at (((es k).drop 0).take 4) (lastL es n) _ _ _ _ _ _ 4 4 _ (HER.out _ HB7.out.drew) (HLR.out _ HB7.out.drew) HEL.out.symm HLL.out.symm (by omega) (by omega)).mono ?_; rintro e w9 ⟨rfl, k9, hw9⟩; have HB9 := Lib.hid (show Below wb.heap.size wb w9 by rw [hw9]; exact below_drewN HB7.out.drew _); have HO9 := Lib.hid (show w9.ownsRow wb.heap.size 3 1 (.slice A7 k c7) k (ints (attS es n k)) by rw [hw9]; exact ownsRow_below HO7.out (below_drewN (Below.refl _ _).drew _)); clear hw9; dsimp only))
      go_wp2
      go_roundg (n - (k + 1))
      case measure => omega
      case rel =>
        refine ⟨k + 1, by go_num, by omega, HB11, Lib.hid ?_, rfl⟩
        have := HO11.out
        rw [attS_succ, HJ.out, ints, List.map_append]
        exact this
    · have : k = n := by omega
      subst this
      obtain ⟨w6, rfl⟩ : ∃ w6, w6 = wr := ⟨_, rfl⟩
      obtain ⟨g7, hA⟩ : ∃ g7, A7 = some ⟨g7, 0, none⟩ := by
        rcases HO7.out.2 with ⟨hv, hz⟩ | ⟨g, cap, cur, hv, -⟩
        · omega
        · injection hv with a; exact ⟨g, a⟩
      subst hA
      have HRS := Lib.hid (OwnInts.rd HO7.out)
      have HLS := Lib.hid (attS_len es k k)
      clear q0
      obtain ⟨w7, hmk, hb7, hk7⟩ : ∃ w7, Sem.run Tryz.prog (Instr.makeSlice 22 (.int .i64 4) (.int .i64 4)) w6 = .ok (.slice (some ⟨w6.heap.size, 0, none⟩) 4 4) w7 ∧ Below w6.heap.size w6 w7 ∧ Blk w7 w6.heap.size (ints (attH es k 0)) 3 :=
        ⟨_, make_ints 4 (by omega) w6, (Below.refl _ _).alloc (Nat.le_refl _) _, heap_alloc_new w6 _⟩
      have HB8 := Lib.hid hb7
      have HK8 := Lib.hid hk7
      have HQ6 := Lib.hid (fun (wx : World) (hb : Below w6.heap.size w6 wx) => HQ.out wx (HB7.out.trans (hb.mono HB7.out.size)))
      have HD6 := Lib.hid (HD.out.below HB7.out)
      have HE6 := Lib.hid (HE.out.below HB7.out)
      have q6 := HQ6.out w6 (Below.refl _ _)
      generalize hg8 : w6.heap.size = g8 at hmk HB8 HK8 HQ6
      have HG8 := Lib.hid hg8
      clear hb7 hk7 hg8
      go_upto_region 11 with (first | (go_at_call 97; refine (max_any (attS es k k) g7 0 c7 k HLS.out.symm hn (by omega) _ HRS.out).mono ?_; rintro e wz ⟨rfl, hz⟩; subst wz))
      clear q6 hmk
      generalize hmx : maxI (attS es k k) = mx
      have HMX := Lib.hid hmx
      clear hmx
      go_wp2
      go_loopg [55] k (fun gk s55 wx => ∃ i : Nat, s55 = .int .i64 i ∧ i ≤ k ∧ Hid (Below g8 w6 wx) ∧ Hid (Blk wx g8 (ints (attH es k i)) 3) ∧ gk = k - i)
      case atStart => exact ⟨0, rfl, by omega, HB8, HK8, rfl⟩
      case round =>
        obtain ⟨i, rfl, hik, HB9, HK9, rfl⟩ := hrel
        have q9 := HQ6.out wr HB9.out
        by_cases hlti : i < k
        · have c9 := (HE6.out.below (by rw [HG8.out]; exact HB9.out)).cell i hlti
          have cs := (HRS.out.below (by rw [HG8.out]; exact HB9.out)).2.2 i (by rw [HLS.out]; exact hlti)
          rw [Nat.zero_add] at cs
          have HSO := Lib.hid (HD6.out.below (by rw [HG8.out]; exact HB9.out)).soft
          have hwt := (show attW es k i = demoM.soft.getD (min (max (w32 (wrap64 (maxI (attS es k k) - (attS es k k).getD i 0))) 0) 6).toNat 0 from rfl)
          rw [HMX.out] at hwt
          have HWT := Lib.hid hwt
          clear hwt
          generalize (attS es k k).getD i 0 = si at cs HWT
          generalize hd : w32 (wrap64 (mx - si)) = dd at HWT
          have HWR := Lib.hid (fun (x : Int) (hx : x = wrap64 (mx - si)) (wx : World) => (by rw [hx, ← hd]; exact wrap_any _ wx : Calls Tryz.prog 78 #[.int .i64 x] wx fun e w' => e = .returned (.int .i64 dd) ∧ w' = wx))
          clear hd
          obtain ⟨m1, hm1⟩ : ∃ m1 : Int, (if dd < 0 then (0 : Int) else dd) = m1 := ⟨_, rfl⟩
          obtain ⟨j, hj, hj7, hjm⟩ : ∃ j : Nat, (if 6 < m1 then (6 : Int) else m1) = (j : Int) ∧ j < 7 ∧ (min (max dd 0) 6).toNat = j :=
            ⟨(min (max dd 0) 6).toNat, by rw [← hm1]; split <;> split <;> omega, by omega, rfl⟩
          rw [hjm] at HWT
          have w6' : IntKind.i64.wrap 6 = 6 := by decide
          have c0 := HSO.out.2.2 j hj7
          rw [← HWT.out] at c0
          have j1 : (j : Int) < 7 := by omega
          have HHI := Lib.hid (show attH es k (i + 1) = hStep (attH es k i) (attW es k i) (es i) 4 from rfl)
          generalize attW es k i = wt at c0 HWT HHI
          clear hjm
          go_upto_region 14 with fail
          go_quiet (first | (go_at_call 78; exact Calls.quiet_of_same (HWR.out _ (by first | rfl | exact wrapEq _) _)))
          have l12i := (HE.out.rd i hlti).1
          rw [HE.out.len i hlti] at l12i
          have t4 : ¬ (P i).c = 4 := by omega
          have HV := Lib.hid (fun (wx : World) (hb : Below g8 w6 wx) => (show RdAt wx (P i).b ((P i).o + 4) ((P i).c - 4) (((es i).drop 4).take 4) from ((HE6.out.below (by rw [HG8.out]; exact hb)).rd i hlti).part 4 4 (by rw [HE.out.len i hlti]; omega)))
          have HVL := Lib.hid (show (((es i).drop 4).take 4).length = 4 by simp [HE.out.len i hlti])
          have HH0 := Lib.hid (hStep_zero (attH es k i) (attH_len es k i) wt (es i))
          generalize attH es k i = hi' at HK9 HH0 HHI
          clear q9 c9 cs c0 hm1 hj w6'
          go_wp2
          go_loopg [83] 4 (fun gk s83 wx => ∃ r : Nat, s83 = .int .i64 r ∧ r ≤ 4 ∧ Hid (Below g8 w6 wx) ∧ Hid (Blk wx g8 (ints (hStep hi' wt (es i) r)) 3) ∧ gk = 4 - r)
          case atStart => exact ⟨0, rfl, by omega, Lib.hid (below_drewN HB9.out _), Lib.hid (by rw [HH0.out]; exact HK9.out.drewN _), rfl⟩
          case round =>
            obtain ⟨r, rfl, hr4, HBr, HKr, rfl⟩ := hrel
            by_cases hltr : r < 4
            · have c1 : wr.cell? ⟨g8, r, none⟩ = some (.int .i64 ((hStep hi' wt (es i) r).getD r 0)) := by
                have := (HKr.out.cell r)
                rw [this]; simp [ints, List.getD, hStep_len, hltr]
              rw [hStep_get _ _ _ _ hltr] at c1
              have f1 := HKr.out.frozen r
              have c3 := (HV.out _ HBr.out).2.2 r (by rw [HVL.out]; exact hltr)
              have hs := hStep_set hi' wt (es i) r hltr
              have HS := Lib.hid hs
              clear hs
              generalize hi'.getD r 0 = hv at c1 HS
              generalize (((es i).drop 4).take 4).getD r 0 = ev at c3 HS
              have tr : decide ((r : Int) < 4) = true := decide_eq_true (by omega)
              go_upto_region 18 with fail
              go_region_with (first | (go_at_call 78; refine (wrap_any _ _).mono ?_; rintro e wz ⟨rfl, hz⟩; subst wz))
              all_goals
                go_wp2
                go_roundg (4 - (r + 1))
                case measure => omega
                case rel =>
                  refine ⟨r + 1, by go_num, by omega, Lib.hid ?_, Lib.hid ?_, rfl⟩
                  · exact HBr.out.drew.setCell (Nat.le_refl _) _
                  · have := (HKr.out.drew).set r (.int .i64 (w32 (wrap64 (hv + w32 (wrap64 (wt * ev))))))
                    rw [ints_set, HS.out] at this
                    exact this
            · have : r = 4 := by omega
              subst this
              rw [show ((4 : Nat) : Int) = 4 from rfl]
              go_wp2
              go_roundg (k - (i + 1))
              case measure => omega
              case rel => exact ⟨i + 1, by go_num, by omega, HBr, Lib.hid (by rw [HHI.out]; exact HKr.out), rfl⟩
        · have : i = k := by omega
          subst this
          have HH0 := Lib.hid (hShift_zero (attH es i i) (attH_len es i i))
          have HS6 := Lib.hid (fun (wx : World) (hb : Below g8 w6 wx) => And.intro (HQ6.out wx hb) (show wx.cell? ⟨p.cuts.b, p.cuts.o + 2, none⟩ = some (.int .i64 8) from (HD6.out.below (by rw [HG8.out]; exact hb)).cuts.2.2 2 (by decide)))
          clear q9
          go_wp2
          go_loopg [105] 4 (fun gk s105 wx => ∃ r : Nat, s105 = .int .i64 r ∧ r ≤ 4 ∧ Hid (Below g8 w6 wx) ∧ Hid (Blk wx g8 (ints (hShift (attH es i i) r)) 3) ∧ gk = 4 - r)
          case atStart => exact ⟨0, rfl, by omega, HB9, Lib.hid (by rw [HH0.out]; exact HK9.out), rfl⟩
          case round =>
            obtain ⟨r, rfl, hr4, HBr, HKr, rfl⟩ := hrel
            by_cases hltr : r < 4
            · have c1 : wr.cell? ⟨g8, r, none⟩ = some (.int .i64 ((hShift (attH es i i) r).getD r 0)) := by
                have := (HKr.out.cell r)
                rw [this]; simp [ints, List.getD, hShift_len, hltr]
              rw [hShift_get _ _ hltr] at c1
              have f1 := HKr.out.frozen r
              have hs := hShift_set (attH es i i) r hltr
              have HS := Lib.hid hs
              clear hs
              generalize (attH es i i).getD r 0 = hv at c1 HS
              have tr : decide ((r : Int) < 4) = true := decide_eq_true (by omega)
              have q9 := HQ6.out wr HBr.out
              have c2 := (HS6.out wr HBr.out).2
              go_upto_region 24 with fail
              go_region_with (first | (go_at_call 79; refine (shift_8 _ _).mono ?_; rintro e wz ⟨rfl, hz⟩; subst wz))
              all_goals
                go_wp2
                go_roundg (4 - (r + 1))
                case measure => omega
                case rel =>
                  refine ⟨r + 1, by go_num, by omega, Lib.hid (HBr.out.drew.setCell (Nat.le_refl _) _), Lib.hid ?_, rfl⟩
                  have := (HKr.out.drew).set r (.int .i64 (shiftI hv 128))
                  rw [ints_set, HS.out] at this
                  exact this
            · have : r = 4 := by omega
              subst this
              go_wp2
              go_ret
              have hbb : Below wb.heap.size wb wr := HB7.out.trans ((HBr.out).mono (by rw [← HG8.out]; exact HB7.out.size))
              refine ⟨_, _, rfl, Lib.hid (HB.out.trans (hbb.mono HB.out.size)), Lib.hid ?_⟩
              have hk4 : Blk wr g8 (ints (attOut es i) ++ []) 3 := by rw [List.append_nil]; exact HKr.out
              exact hk4.rdat (by rw [attOut, hShift_len]; omega) (by decide)
end Go.Proofs.YtllpoaoboieijaaGreat
