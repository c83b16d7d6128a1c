/-
  frac: Div, Quotient.
  strings.Builder: one string is written, and read.
  strconv: FormatUint of a digit; nat: String.
-/
import Derived.Laws.Externs
import Derived.Lib.AppendStr
import Derived.Lib.Builder
import Derived.Lib.UnsafeStr
import Derived.LoopN
import Derived.Test.YtplkchmcojnimaaGreatDoorSa1
import Derived.Test.YtplkchmcojnimaaGreatDoorSa16
import Derived.Test.YtplkchmcojnimaaGreatDoorSa17
/-
  frac: Div, Quotient.
-/
namespace Go.Proofs.YtplkchmcojnimaaGreatDoor
open Go.RowKit

set_option maxRecDepth 100000 in
set_option maxHeartbeats 1600000 in
theorem fdiv_12 (a b : Value) (w : World) (h : FD w a 1 1) (k : FD w b 2 1) :
    Calls Tryz.prog 70 #[a, b] w fun e w' => ∃ v, e = .returned v ∧ Hid (FD w' v 1 2) ∧ Hid (Below w.heap.size w w') := by
  obtain ⟨ua, da, rfl, hua, hda⟩ := h
  obtain ⟨ub, db, rfl, hub, hdb⟩ := k
  obtain ⟨w0, hw0, hb0, hk0, hk1, hk2⟩ : ∃ w0, ((w.alloc (.cells #[.bool false, ua, da] 94)).alloc (.cells #[.bool false, ub, db] 94)).alloc (.cells #[.bool false, .slice none 0 0, .slice none 0 0] 94) = w0 ∧ Below w.heap.size w w0 ∧ Blk w0 w.heap.size [.bool false, ua, da] 94 ∧ Blk w0 (w.heap.size + 1) [.bool false, ub, db] 94 ∧ Blk w0 (w.heap.size + 1 + 1) [.bool false, .slice none 0 0, .slice none 0 0] 94 := by
    refine ⟨_, rfl, (((Below.refl _ _).alloc (Nat.le_refl _) _).alloc (by simp only [World.size_alloc]; omega) _).alloc (by simp only [World.size_alloc]; omega) _, ((news_blk w [.bool false, ua, da] 94).alloc _).alloc _, ?_, ?_⟩
    · have := (news_blk (w.alloc (.cells #[.bool false, ua, da] 94)) [.bool false, ub, db] 94).alloc (.cells #[.bool false, .slice none 0 0, .slice none 0 0] 94)
      simp only [World.size_alloc] at this
      exact this
    · have := news_blk ((w.alloc (.cells #[.bool false, ua, da] 94)).alloc (.cells #[.bool false, ub, db] 94)) [.bool false, .slice none 0 0, .slice none 0 0] 94
      simp only [World.size_alloc] at this
      exact this
  have HB0 := Lib.hid hb0
  have HK2 := Lib.hid hk2
  have HUA := Lib.hid (hua.below hb0)
  have HDA := Lib.hid (hda.below hb0)
  have HUB := Lib.hid (hub.below hb0)
  have HDB := Lib.hid (hdb.below hb0)
  have HM := Lib.hid (fun x y (hx : 0 < x ∧ x < 1000) (hy : 0 < y ∧ y < 1000) u v wx (hu : ND wx u x) (hv : ND wx v y) => mul_any x y hx hy u v wx hu hv)
  have HR := Lib.hid (fun u d wx (hu : ND wx u 1) (hd : ND wx d 2) => reduced_12 u d wx hu hd)
  have HS := Lib.hid (fun (wx : World) (hb : Below w0.heap.size w0 wx) => show (∀ o, wx.cell? ⟨w.heap.size, o, none⟩ = ([Value.bool false, ua, da] : List Value)[o]?) ∧ (∀ o, wx.cell? ⟨w.heap.size + 1, o, none⟩ = ([Value.bool false, ub, db] : List Value)[o]?) from ⟨(hk0.below hb).cell, (hk1.below hb).cell⟩)
  have HT := Lib.hid (fun (wx : World) (hb : Below w0.heap.size w0 wx) (x y z : Value) => show (∀ o, (set94 wx (w.heap.size + 1 + 1) x y z).cell? ⟨w.heap.size, o, none⟩ = ([Value.bool false, ua, da] : List Value)[o]?) ∧ (∀ o, (set94 wx (w.heap.size + 1 + 1) x y z).cell? ⟨w.heap.size + 1, o, none⟩ = ([Value.bool false, ub, db] : List Value)[o]?) from ⟨((((hk0.below hb).far (by simp; omega) _).far (by simp; omega) _).far (by simp; omega) _).cell, ((((hk1.below hb).far (by simp) _).far (by simp) _).far (by simp) _).cell⟩)
  clear hb0 hk0 hk1 hk2 hua hda hub hdb
  obtain ⟨g1, c1, rfl, l1, -⟩ := HUA.out
  obtain ⟨g2, c2, rfl, l2, -⟩ := HDA.out
  obtain ⟨g3, c3, rfl, l3, -⟩ := HUB.out
  obtain ⟨g4, c4, rfl, l4, -⟩ := HDB.out
  go_enter Tryz.func70, Tryz.ntmps70
  go_upto_region 1 with fail
  clear hw0
  go_region_held3 (fun wy : World => (∀ o, wy.cell? ⟨w.heap.size, o, none⟩ = ([Value.bool false, .slice (some ⟨g1, 0, none⟩) 1 c1, .slice (some ⟨g2, 0, none⟩) 1 c2] : List Value)[o]?) ∧ (∀ o, wy.cell? ⟨w.heap.size + 1, o, none⟩ = ([Value.bool false, .slice (some ⟨g3, 0, none⟩) 1 c3, .slice (some ⟨g4, 0, none⟩) 1 c4] : List Value)[o]?)) (first | exact HT.out _ HB3.out _ _ _ | exact HS.out _ HB3.out | exact HS.out _ HB2.out | exact HS.out _ HB1.out | exact HS.out _ (Below.refl _ _).drew | exact HS.out _ (Below.refl _ _)) (first | (go_at_call 76; have _g := HB2; clear _g; refine (HR.out _ _ w2 HN1.out HN2.out).mono ?_; rintro e w3 ⟨r3, rfl, HF3, HB3'⟩; obtain ⟨u3, d3, rfl, ⟨g7, c7, rfl, _l7, _k7⟩, ⟨g8, c8, rfl, _l8, _k8⟩⟩ := HF3.out; have HB3 := Lib.hid (HB2.out.trans (HB3'.out.mono HB2.out.size)); have q3 := (HK2.out.below HB3.out).cell; have r3 := (HK2.out.below HB3.out).frozen; dsimp only) | (go_at_call 75; have _g := HB1; clear _g; refine (HM.out 1 2 (by omega) (by omega) _ _ w1 (HDA.out.below HB1.out) (HUB.out.below HB1.out)).mono ?_; rintro e w2 ⟨r2, rfl, HN2, HB2'⟩; have HB2 := Lib.hid (HB1.out.trans (HB2'.out.mono HB1.out.size)); have HN1 := Lib.hid (HN1'.out.below HB2'.out); dsimp only) | (go_at_call 75; refine (HM.out 1 1 (by omega) (by omega) _ _ w0.drew (HUA.out.below (Below.refl _ _).drew) (HDB.out.below (Below.refl _ _).drew)).mono ?_; rintro e w1 ⟨r1, rfl, HN1', HB1'⟩; have HB1 : Hid (Below w0.heap.size w0 w1) := Lib.hid (below_undrew HB1'.out); dsimp only))
  go_wp2
  have HK3 := HK2.out.below HB3.out
  refine bodyPost_ret (results_frac rfl _ _ (w.heap.size + 1 + 1) _ _ _ rfl (blk3 w3 _ _ _ _ _ _ _ HK3)) rfl ?_
  obtain ⟨u9, d9, e9, n9, m9⟩ := HF3.out
  injection e9 with e9
  simp only [List.cons.injEq, Array.mk.injEq, true_and, and_true] at e9
  obtain ⟨rfl, rfl⟩ := e9
  exact ⟨_, rfl, Lib.hid ⟨_, _, rfl, nd94 n9 HK3 _ _ _, nd94 m9 HK3 _ _ _⟩, Lib.hid ((HB0.out.trans (HB3.out.mono HB0.out.size)).trans ((below94 _ _ _ _ _).mono (by omega)))⟩
set_option maxRecDepth 100000 in
set_option maxHeartbeats 1600000 in
theorem quotient_12 (w : World) : Calls Tryz.prog 55 #[.int .i64 1, .int .i64 2] w fun e w' => ∃ v, e = .returned v ∧ Hid (FD w' v 1 2) ∧ Hid (Below w.heap.size w w') := by
  obtain ⟨w0, hw0, hb0, hk0⟩ : ∃ w0, w.alloc (.cells #[.bool false, .slice none 0 0, .slice none 0 0] 94) = w0 ∧ Below w.heap.size w w0 ∧ Blk w0 w.heap.size [.bool false, .slice none 0 0, .slice none 0 0] 94 := ⟨_, rfl, (Below.refl _ _).alloc (Nat.le_refl _) _, heap_alloc_new w _⟩
  have HB0 := Lib.hid hb0
  have HK0 := Lib.hid hk0
  have HI := Lib.hid (int_any 1 (by omega) (by omega) w0)
  have HJ := Lib.hid (fun wx => int_any 2 (by omega) (by omega) wx)
  have HD := Lib.hid (fun a b wx (ha : FD wx a 1 1) (hb : FD wx b 2 1) => fdiv_12 a b wx ha hb)
  clear hb0 hk0
  go_enter Tryz.func55, Tryz.ntmps55
  go_wp2_with (first | (go_at_call 70; have _g := HB2; clear _g; refine (HD.out _ _ w2 (HF1.out.below HB2.out) HF2.out).mono ?_; rintro e w3 ⟨r3, rfl, HF3, HB3⟩; obtain ⟨u3, d3, rfl, ⟨g7, c7, rfl, _l7, _k7⟩, ⟨g8, c8, rfl, _l8, _k8⟩⟩ := HF3.out; have HK3 := Lib.hid (((HK0.out.below HB1.out).below HB2.out).below HB3.out); have q3 := HK3.out.cell; have r3 := HK3.out.frozen) | (go_at_call 59; have _g := HB1; clear _g; refine (HJ.out w1).mono ?_; rintro e w2 ⟨r2, rfl, HF2, HB2⟩) | (go_at_call 59; refine HI.out.mono ?_; rintro e w1 ⟨r1, rfl, HF1, HB1⟩))
  refine bodyPost_ret (results_frac rfl _ _ w.heap.size _ _ _ rfl (blk3 w3 _ _ _ _ _ _ _ HK3.out)) rfl ?_
  obtain ⟨u9, d9, e9, n9, m9⟩ := HF3.out
  injection e9 with e9
  simp only [List.cons.injEq, Array.mk.injEq, true_and, and_true] at e9
  obtain ⟨rfl, rfl⟩ := e9
  exact ⟨_, rfl, Lib.hid ⟨_, _, rfl, nd94 n9 HK3.out _ _ _, nd94 m9 HK3.out _ _ _⟩, Lib.hid ((((HB0.out.trans (HB1.out.mono HB0.out.size)).trans (HB2.out.mono (Nat.le_trans HB0.out.size HB1.out.size))).trans (HB3.out.mono (Nat.le_trans (Nat.le_trans HB0.out.size HB1.out.size) HB2.out.size))).trans (below94 _ _ _ _ _))⟩
end Go.Proofs.YtplkchmcojnimaaGreatDoor
/-
  strings.Builder: one string is written, and read.
-/
namespace Go.Proofs.YtplkchmcojnimaaGreatDoor
open Go.RowKit

theorem info127 : (Tryz.prog.info? 127).map (·.size) = some 2 := by kernel_rfl
set_option maxHeartbeats 1000000 in
set_option maxRecDepth 100000 in
theorem copyCheck_fresh (b : Nat) (w : World) (h0 : w.cell? ⟨b, 0, none⟩ = some (.pointer none)) (hsh : w.shape? b = some (127, 2)) (hfz : w.frozen? ⟨b, 0, none⟩ = false) :
    Calls Tryz.prog 97 #[.pointer (some ⟨b, 0, none⟩)] w fun e w' => e = .returned (.tuple #[]) ∧ w' = w.setCell ⟨b, 0, none⟩ (.pointer (some ⟨b, 0, none⟩)) := by
  obtain ⟨j, hj, hjs⟩ := Option.map_eq_some_iff.1 info127
  go_enter Tryz.func97, Tryz.ntmps97
  go_wp2
  rw [Lib.run_to_unsafe w ⟨b, 0, none⟩ Tryz.underlying125 Tryz.underlying153 hj (by rw [hjs]; decide) hsh (Nat.zero_lt_succ 1)]
  simp only [Result.andThen]
  rw [Oper.upon_value]
  go_wp2
  rw [run_callFunc_extern Tryz.func111 (by kernel_rfl) (by kernel_rfl) (by kernel_rfl) (e := Extern.AbiNoEscape.same) (by kernel_rfl)]
  rw [Lib.run_noEscape]
  simp only [Result.andThen]
  rw [Oper.upon_value]
  go_wp2
  rw [Lib.run_from_unsafe w ⟨b, 0, none⟩ Tryz.underlying153 Tryz.underlying125 hj hsh (by kernel_rfl)]
  simp only [Result.andThen]
  rw [Oper.upon_value]
  go_wp2
  go_end0
  exact ⟨rfl, rfl⟩
theorem own_set2 {w : World} {base b o : Nat} {e : TypeId} {size : Nat} {v : Value} {n : Nat} {xs : List Value} (h : w.ownsRow base e size v n xs) (hb : b < base) (x : Value) : (w.setCell ⟨b, o, none⟩ x).ownsRow base e size v n xs :=
  ownsRow_block h fun k _ hv => Below.heap_setCell _ _ _ _ (show k ≠ b by have := ownsRow_base h k hv; omega)
set_option maxHeartbeats 1000000 in
set_option maxRecDepth 100000 in
theorem write_string (b : Nat) (s : ByteArray) (hs : s.size ≤ 1000) (w : World) (h : Blk w b [.pointer none, .slice none 0 0] 127) :
    Calls Tryz.prog 85 #[.pointer (some ⟨b, 0, none⟩), .string s] w fun e w' => e = .returned (.tuple #[.int .i64 s.size, .nilIface]) ∧ ∃ v, Hid (Blk w' b [.pointer (some ⟨b, 0, none⟩), v] 127) ∧ Hid (w'.ownsRow w.heap.size 5 1 v s.size (Lib.strCells s)) ∧ Hid (Below b w w') := by
  obtain ⟨i0, hi, hz0, hz1, hz2⟩ := info_parts info5
  have hcc := copyCheck_fresh b w (h.cell 0) (by unfold Blk at h; simp [World.shape?, h]) (h.frozen 0)
  have HCC := Lib.hid hcc
  have hblk1 := h.set 0 (.pointer (some ⟨b, 0, none⟩))
  have HK1 := Lib.hid hblk1
  have hlt := h.lt
  clear hcc h hblk1
  simp only [List.set_cons_zero] at HK1
  go_enter Tryz.func85, Tryz.ntmps85
  go_upto_region 2 with (go_at_call 97; refine HCC.out.mono ?_; rintro e w1 ⟨rfl, hw1⟩; have HK := Lib.hid (show Blk w1 b [.pointer (some ⟨b, 0, none⟩), .slice none 0 0] 127 by rw [hw1]; exact HK1.out); have HB1 := Lib.hid (show Below b w w1 by rw [hw1]; exact (Below.refl b w).setCell (p := ⟨b, 0, none⟩) (Nat.le_refl b) _); have HZ := Lib.hid (show w1.heap.size = w.heap.size by rw [hw1]; simp [World.setCell]); clear hw1)
  have d1 := HK.out.cell 1
  go_wp2_with (at_builtin; refine Lib.wpList_append_own_string _ rfl _ _ 34 9 rfl w.heap.size 5 i0 Tryz.underlying34 Tryz.underlying9 hi hz0 hz1 hz2 _ 0 [] rfl (World.ownsRow_nil _ _ _ _) s rfl (by unfold maxLen; omega) (by omega) (by rw [HZ.out]; exact Nat.le_refl _) ?_; intro v' w2 hown' hgrow _; have HO2 := Lib.hid hown'; have HG2 := Lib.hid hgrow; obtain ⟨ao, cap, rfl⟩ := ownsRow_shape hown'; have HK2 : Hid (Blk w2 b [.pointer (some ⟨b, 0, none⟩), .slice none 0 0] 127) := Lib.hid (HK.out.grown HG2.out (by intro e; cases e)); have q2 := HK2.out.cell; have r2 := HK2.out.frozen; clear hown' hgrow)
  go_ret2
  have ho := HO2.out
  simp only [List.nil_append, Nat.zero_add] at ho ⊢
  exact ⟨rfl, _, Lib.hid (HK2.out.set 1 _), Lib.hid (own_set2 ho hlt _), Lib.hid ((HB1.out.trans (Below.ofGrown HG2.out (by rw [HZ.out]; omega) (fun k e => by cases e))).setCell (p := ⟨b, 1, none⟩) (Nat.le_refl b) _)⟩
set_option maxHeartbeats 2000000 in
set_option maxRecDepth 100000 in
theorem read_string (b B : Nat) (p : Value) (l : List UInt8) (h0 : l ≠ []) (hl : l.length ≤ 1000) (v : Value) (w : World) (hk : Blk w b [p, v] 127) (hown : w.ownsRow B 5 1 v l.length (Lib.byteCells l)) :
    Calls Tryz.prog 88 #[.pointer (some ⟨b, 0, none⟩)] w fun e w' => e = .returned (.string ⟨l.toArray⟩) ∧ Hid (Below B w w') := by
  have hl0 : l.length ≠ 0 := by simpa using h0
  obtain ⟨g, cap, cur, rfl, hbg, hg, hnc, hcm, hcs, htake⟩ : ∃ g cap cur, v = .slice (some ⟨g, 0, none⟩) l.length cap ∧ B ≤ g ∧ w.heap[g]? = some (.cells cur 5 (0, 0)) ∧ l.length ≤ cap ∧ cap ≤ maxLen ∧ cur.size = cap * 1 ∧ cur.toList.take (l.length * 1) = Lib.byteCells l := by
    rcases hown.2 with ⟨_, hz⟩ | ⟨g, cap, cur, hv, r⟩
    · exact absurd hz hl0
    · exact ⟨g, cap, cur, hv, r⟩
  have c1 : w.drew.cell? ⟨b, 1, none⟩ = some (.slice (some ⟨g, 0, none⟩) l.length cap) := hk.drew.cell 1
  have hSD : (Builtin.unsafeSliceData_ #[34] 144 #[.slice (some ⟨g, 0, none⟩) l.length cap]).run Tryz.prog w.drew = .ok (.pointer (some ⟨g, 0, none⟩)) w.drew :=
    Lib.run_unsafeSliceData_row _ _ _ _ _ _ (by omega)
  have hUS : (Builtin.unsafeString_ #[144, 3] 9 #[.pointer (some ⟨g, 0, none⟩), .int .i64 l.length]).run Tryz.prog w.drew = .ok (.string ⟨l.toArray⟩) (w.drew.freeze ⟨g, 0, none⟩ l.length) := by
    refine Lib.run_unsafeString_row w.drew 144 3 9 5 Tryz.underlying144 (by kernel_rfl) g cur.size (by have hg' : w.drew.heap[g]? = some (.cells cur 5 (0, 0)) := hg; simp [World.shape?, hg']) l h0 (by omega) (by unfold maxLen at hcm; omega) ?_
    intro j x hx
    have := hown.cells (g := g) rfl j (.int .u8 x.toNat) (by simp [Lib.byteCells, hx])
    exact this
  clear hk hown
  go_enter Tryz.func88, Tryz.ntmps88
  go_wp2
  go_region
  all_goals (go_wp2; go_ret; exact ⟨rfl, Lib.hid (Lib.below_freeze (Below.drew (Below.refl B w)) (p := ⟨g, 0, none⟩) hbg _)⟩)
end Go.Proofs.YtplkchmcojnimaaGreatDoor
/-
  strconv: FormatUint of a digit; nat: String.
-/
namespace Go.Proofs.YtplkchmcojnimaaGreatDoor
open Go.RowKit

set_option maxRecDepth 100000 in
set_option maxHeartbeats 1600000 in
theorem small_1 (w : World) : Calls Tryz.prog 112 #[.int .i64 1] w fun e w' => e = .returned (.string ⟨#[49]⟩) ∧ w' = w := by
  go_enter Tryz.func112, Tryz.ntmps112
  go_wp2
  go_ret
  exact ⟨by first | rfl | decide, rfl⟩
set_option maxRecDepth 100000 in
set_option maxHeartbeats 1600000 in
theorem format_1 (w : World) : Calls Tryz.prog 86 #[.int .u64 1, .int .i64 10] w fun e w' => e = .returned (.string ⟨#[49]⟩) ∧ w' = w := by
  have HS := Lib.hid (small_1 w)
  go_enter Tryz.func86, Tryz.ntmps86
  go_wp2_with (first | (go_at_call 98; go_in) | (go_at_call 112; refine HS.out.mono ?_; rintro e wz ⟨rfl, hz⟩; subst wz))
  go_ret
  exact ⟨rfl, rfl⟩
set_option maxRecDepth 100000 in
set_option maxHeartbeats 1600000 in
theorem small_2 (w : World) : Calls Tryz.prog 112 #[.int .i64 2] w fun e w' => e = .returned (.string ⟨#[50]⟩) ∧ w' = w := by
  go_enter Tryz.func112, Tryz.ntmps112
  go_wp2
  go_ret
  exact ⟨by first | rfl | decide, rfl⟩
set_option maxRecDepth 100000 in
set_option maxHeartbeats 1600000 in
theorem format_2 (w : World) : Calls Tryz.prog 86 #[.int .u64 2, .int .i64 10] w fun e w' => e = .returned (.string ⟨#[50]⟩) ∧ w' = w := by
  have HS := Lib.hid (small_2 w)
  go_enter Tryz.func86, Tryz.ntmps86
  go_wp2_with (first | (go_at_call 98; go_in) | (go_at_call 112; refine HS.out.mono ?_; rintro e wz ⟨rfl, hz⟩; subst wz))
  go_ret
  exact ⟨rfl, rfl⟩
set_option maxRecDepth 100000 in
set_option maxHeartbeats 1600000 in
theorem string_1 (v : Value) (w : World) (h : ND w v 1) : Calls Tryz.prog 71 #[v] w fun e w' => e = .returned (.string ⟨#[49]⟩) ∧ Hid (Below w.heap.size w w') := by
  obtain ⟨w0, hw0, hb0, hk0⟩ : ∃ w0, w.alloc (.cells #[.pointer none, .slice none 0 0] 127) = w0 ∧ Below w.heap.size w w0 ∧ Blk w0 w.heap.size [.pointer none, .slice none 0 0] 127 := ⟨_, rfl, (Below.refl _ _).alloc (Nat.le_refl _) _, heap_alloc_new w _⟩
  obtain ⟨g, c, rfl, hc1, hc⟩ := h.below hb0
  have HB0 := Lib.hid hb0
  have HF := Lib.hid (format_1 w0)
  have HW := Lib.hid (write_string w.heap.size ⟨#[49]⟩ (by decide) w0 hk0)
  clear hb0 hk0 h
  go_enter Tryz.func71, Tryz.ntmps71
  go_upto_region 5 with (first | (go_at_call 86; refine HF.out.mono ?_; rintro e wz ⟨rfl, hz⟩; subst wz) | (go_at_call 85; refine HW.out.mono ?_; rintro e w1 ⟨rfl, v1, HK1, HO1, HB1⟩))
  have HS := Lib.hid (read_string w.heap.size w0.heap.size _ [49] (by simp) (by simp) v1 w1 HK1.out HO1.out)
  go_wp2
  refine wp_loop_rounds 1 ?_
  rw [rounds_succ]
  go_wp2_with (go_at_call 88; refine HS.out.mono ?_; rintro e w2 ⟨rfl, HB2⟩)
  go_ret
  exact ⟨rfl, Lib.hid ((HB0.out.trans HB1.out).trans (HB2.out.mono HB0.out.size))⟩
set_option maxRecDepth 100000 in
set_option maxHeartbeats 1600000 in
theorem string_2 (v : Value) (w : World) (h : ND w v 2) : Calls Tryz.prog 71 #[v] w fun e w' => e = .returned (.string ⟨#[50]⟩) ∧ Hid (Below w.heap.size w w') := by
  obtain ⟨w0, hw0, hb0, hk0⟩ : ∃ w0, w.alloc (.cells #[.pointer none, .slice none 0 0] 127) = w0 ∧ Below w.heap.size w w0 ∧ Blk w0 w.heap.size [.pointer none, .slice none 0 0] 127 := ⟨_, rfl, (Below.refl _ _).alloc (Nat.le_refl _) _, heap_alloc_new w _⟩
  obtain ⟨g, c, rfl, hc1, hc⟩ := h.below hb0
  have HB0 := Lib.hid hb0
  have HF := Lib.hid (format_2 w0)
  have HW := Lib.hid (write_string w.heap.size ⟨#[50]⟩ (by decide) w0 hk0)
  clear hb0 hk0 h
  go_enter Tryz.func71, Tryz.ntmps71
  go_upto_region 5 with (first | (go_at_call 86; refine HF.out.mono ?_; rintro e wz ⟨rfl, hz⟩; subst wz) | (go_at_call 85; refine HW.out.mono ?_; rintro e w1 ⟨rfl, v1, HK1, HO1, HB1⟩))
  have HS := Lib.hid (read_string w.heap.size w0.heap.size _ [50] (by simp) (by simp) v1 w1 HK1.out HO1.out)
  go_wp2
  refine wp_loop_rounds 1 ?_
  rw [rounds_succ]
  go_wp2_with (go_at_call 88; refine HS.out.mono ?_; rintro e w2 ⟨rfl, HB2⟩)
  go_ret
  exact ⟨rfl, Lib.hid ((HB0.out.trans HB1.out).trans (HB2.out.mono HB0.out.size))⟩
end Go.Proofs.YtplkchmcojnimaaGreatDoor
