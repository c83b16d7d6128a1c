/-
  strconv: ParseUint of a digit; nat: Parse.
  num: Check of one half.
  frac: Of and Add of one half.
  frac: Add of one half and one half.
-/
import Derived.Lib.ConvBytes
import Derived.Test.YtplkchmcojnimaaGreatDoorSa17
import Derived.Test.YtplkchmcojnimaaGreatDoorSa19
/-
  strconv: ParseUint of a digit; nat: Parse.
-/
namespace Go.Proofs.YtplkchmcojnimaaGreatDoor
open Go.RowKit

theorem below_bytes (w : World) (e : TypeId) (s : ByteArray) : Below w.heap.size w (Lib.bytesWorld w e s) :=
  ⟨rfl, rfl, rfl, by rw [Lib.bytesWorld_size]; omega, fun b hb => Lib.bytesWorld_at_old w e s b hb⟩
set_option maxRecDepth 100000 in
set_option maxHeartbeats 1600000 in
theorem parseU_1 (w : World) : Calls Tryz.prog 128 #[.string ⟨#[49]⟩, .int .i64 10, .int .i64 32] w fun e w' => e = .returned (.tuple #[.int .u64 1, .nilIface]) ∧ Hid (Below w.heap.size w w') := by
  have hcv := Lib.run_convert_string_bytes (P := Tryz.prog) w 9 34 5 ⟨#[49]⟩ Tryz.underlying9 Tryz.underlying34 Tryz.underlying5
  have hc := Lib.bytesWorld_cell w 5 ⟨#[49]⟩ 0 (by decide)
  have HB := Lib.hid (below_bytes w 5 ⟨#[49]⟩)
  have hc : (Lib.bytesWorld w 5 ⟨#[49]⟩).cell? ⟨w.heap.size, 0, none⟩ = some (.int .u8 49) := hc
  generalize Lib.bytesWorld w 5 ⟨#[49]⟩ = w1 at hcv hc HB
  have hcv : (convert 9 34 (.string ⟨#[49]⟩)).run Tryz.prog w = .ok (.slice (some ⟨w.heap.size, 0, none⟩) 1 (grownCap w 1 0 5)) w1 := hcv
  generalize grownCap w 1 0 5 = cp at hcv
  go_enter Tryz.func128, Tryz.ntmps128
  go_wp2
  refine wp_loop_rounds 2 ?_
  rw [rounds_succ]
  go_wp2
  rw [rounds_succ]
  go_wp2
  go_ret2
  exact ⟨rfl, HB⟩
set_option maxRecDepth 100000 in
set_option maxHeartbeats 1600000 in
theorem parseUint_1 (w : World) : Calls Tryz.prog 107 #[.string ⟨#[49]⟩, .int .i64 10, .int .i64 32] w fun e w' => e = .returned (.tuple #[.int .u64 1, .nilIface]) ∧ Hid (Below w.heap.size w w') := by
  have HP := Lib.hid (parseU_1 w)
  go_enter Tryz.func107, Tryz.ntmps107
  go_wp2_with (go_at_call 128; refine HP.out.mono ?_; rintro e w1 ⟨rfl, HB1⟩)
  go_ret2
  exact ⟨rfl, HB1⟩
set_option maxRecDepth 100000 in
set_option maxHeartbeats 1600000 in
theorem parse_1 (w : World) : Calls Tryz.prog 92 #[.string ⟨#[49]⟩] w fun e w' => ∃ v, e = .returned v ∧ Hid (ND w' v 1) ∧ Hid (Below w.heap.size w w') := by
  obtain ⟨i0, hi, hz0, hz1, hz2⟩ := info_parts info90
  have HP := Lib.hid (parseUint_1 w)
  have HT := Lib.hid (fun g c wx (h : World.cell? wx ⟨g, 0, none⟩ = some (.int .u32 (1 : Nat))) => trim_one g c 1 (by omega) wx h)
  have hx0 : ((⟨#[49]⟩ : ByteArray).extract 0 1) = ⟨#[49]⟩ := by kernel_rfl
  go_enter Tryz.func92, Tryz.ntmps92
  go_wp2
  refine wp_loop_rounds 2 ?_
  rw [rounds_succ]
  go_wp2_with (first | (go_at_call 107; refine HP.out.mono ?_; rintro e w1 ⟨rfl, HB1⟩) | (at_builtin; refine wpList_append_lies _ rfl _ _ 92 rfl w1.heap.size 90 i0 (.int .u32 0) 1 4 Tryz.underlying92 hi hz0 hz1 hz2 rfl (by decide) _ 0 [] rfl (World.ownsRow_nil _ _ _ _) ⟨w1.heap.size, 0, none⟩ 1 1 [.int .u32 1] rfl rfl (news1' _ _ _) (one_int _ _) Nat.one_pos (by unfold maxLen; omega) (by omega) (alloc_le _ _) _ rfl ?_; intro g3 cap3 w3 hown3 hgrow3 hat3 hlt3; have HO3 := Lib.hid hown3; have HG3 := Lib.hid hgrow3; clear hown3 hgrow3 hat3 hlt3))
  have ho := HO3.out
  simp only [List.nil_append, Nat.zero_add] at ho
  have HND := Lib.hid (nd_row (x := 1) ho)
  obtain ⟨g9, c9, e9, l9, k9⟩ := HND.out
  injection e9 with e9 _ e9c
  injection e9 with e9
  injection e9 with e9
  subst e9 e9c
  clear ho
  rw [rounds_succ]
  go_wp2_with (go_at_call 93; refine (HT.out g3 cap3 w3 k9).mono ?_; rintro e wz ⟨rfl, hz⟩; subst wz)
  go_ret
  exact ⟨_, rfl, HND, Lib.hid ((HB1.out.alloc HB1.out.size _).trans (Below.ofGrown HG3.out (Nat.le_trans HB1.out.size (alloc_le _ _)) (fun k e => by have e' : (none : Option Nat) = some k := e; cases e')))⟩
set_option maxRecDepth 100000 in
set_option maxHeartbeats 1600000 in
theorem parseU_2 (w : World) : Calls Tryz.prog 128 #[.string ⟨#[50]⟩, .int .i64 10, .int .i64 32] w fun e w' => e = .returned (.tuple #[.int .u64 2, .nilIface]) ∧ Hid (Below w.heap.size w w') := by
  have hcv := Lib.run_convert_string_bytes (P := Tryz.prog) w 9 34 5 ⟨#[50]⟩ Tryz.underlying9 Tryz.underlying34 Tryz.underlying5
  have hc := Lib.bytesWorld_cell w 5 ⟨#[50]⟩ 0 (by decide)
  have HB := Lib.hid (below_bytes w 5 ⟨#[50]⟩)
  have hc : (Lib.bytesWorld w 5 ⟨#[50]⟩).cell? ⟨w.heap.size, 0, none⟩ = some (.int .u8 50) := hc
  generalize Lib.bytesWorld w 5 ⟨#[50]⟩ = w1 at hcv hc HB
  have hcv : (convert 9 34 (.string ⟨#[50]⟩)).run Tryz.prog w = .ok (.slice (some ⟨w.heap.size, 0, none⟩) 1 (grownCap w 1 0 5)) w1 := hcv
  generalize grownCap w 1 0 5 = cp at hcv
  go_enter Tryz.func128, Tryz.ntmps128
  go_wp2
  refine wp_loop_rounds 2 ?_
  rw [rounds_succ]
  go_wp2
  rw [rounds_succ]
  go_wp2
  go_ret2
  exact ⟨rfl, HB⟩
set_option maxRecDepth 100000 in
set_option maxHeartbeats 1600000 in
theorem parseUint_2 (w : World) : Calls Tryz.prog 107 #[.string ⟨#[50]⟩, .int .i64 10, .int .i64 32] w fun e w' => e = .returned (.tuple #[.int .u64 2, .nilIface]) ∧ Hid (Below w.heap.size w w') := by
  have HP := Lib.hid (parseU_2 w)
  go_enter Tryz.func107, Tryz.ntmps107
  go_wp2_with (go_at_call 128; refine HP.out.mono ?_; rintro e w1 ⟨rfl, HB1⟩)
  go_ret2
  exact ⟨rfl, HB1⟩
set_option maxRecDepth 100000 in
set_option maxHeartbeats 1600000 in
theorem parse_2 (w : World) : Calls Tryz.prog 92 #[.string ⟨#[50]⟩] w fun e w' => ∃ v, e = .returned v ∧ Hid (ND w' v 2) ∧ Hid (Below w.heap.size w w') := by
  obtain ⟨i0, hi, hz0, hz1, hz2⟩ := info_parts info90
  have HP := Lib.hid (parseUint_2 w)
  have HT := Lib.hid (fun g c wx (h : World.cell? wx ⟨g, 0, none⟩ = some (.int .u32 (2 : Nat))) => trim_one g c 2 (by omega) wx h)
  have hx0 : ((⟨#[50]⟩ : ByteArray).extract 0 1) = ⟨#[50]⟩ := by kernel_rfl
  go_enter Tryz.func92, Tryz.ntmps92
  go_wp2
  refine wp_loop_rounds 2 ?_
  rw [rounds_succ]
  go_wp2_with (first | (go_at_call 107; refine HP.out.mono ?_; rintro e w1 ⟨rfl, HB1⟩) | (at_builtin; refine wpList_append_lies _ rfl _ _ 92 rfl w1.heap.size 90 i0 (.int .u32 0) 1 4 Tryz.underlying92 hi hz0 hz1 hz2 rfl (by decide) _ 0 [] rfl (World.ownsRow_nil _ _ _ _) ⟨w1.heap.size, 0, none⟩ 1 1 [.int .u32 2] rfl rfl (news1' _ _ _) (one_int _ _) Nat.one_pos (by unfold maxLen; omega) (by omega) (alloc_le _ _) _ rfl ?_; intro g3 cap3 w3 hown3 hgrow3 hat3 hlt3; have HO3 := Lib.hid hown3; have HG3 := Lib.hid hgrow3; clear hown3 hgrow3 hat3 hlt3))
  have ho := HO3.out
  simp only [List.nil_append, Nat.zero_add] at ho
  have HND := Lib.hid (nd_row (x := 2) ho)
  obtain ⟨g9, c9, e9, l9, k9⟩ := HND.out
  injection e9 with e9 _ e9c
  injection e9 with e9
  injection e9 with e9
  subst e9 e9c
  clear ho
  rw [rounds_succ]
  go_wp2_with (go_at_call 93; refine (HT.out g3 cap3 w3 k9).mono ?_; rintro e wz ⟨rfl, hz⟩; subst wz)
  go_ret
  exact ⟨_, rfl, HND, Lib.hid ((HB1.out.alloc HB1.out.size _).trans (Below.ofGrown HG3.out (Nat.le_trans HB1.out.size (alloc_le _ _)) (fun k e => by have e' : (none : Option Nat) = some k := e; cases e')))⟩
end Go.Proofs.YtplkchmcojnimaaGreatDoor
/-
  num: Check of one half.
-/
namespace Go.Proofs.YtplkchmcojnimaaGreatDoor
open Go.RowKit

set_option maxRecDepth 100000 in
set_option maxHeartbeats 1600000 in
theorem check_12 (w : World) : Calls Tryz.prog 72 #[ratV 49 50] w fun e w' => e = .returned (.int .i64 0) ∧ Hid (Below w.heap.size w w') := by
  obtain ⟨w0, hw0, hb0, hk0⟩ : ∃ w0, w.alloc (.cells #[.string ⟨#[49]⟩, .string ⟨#[50]⟩] 62) = w0 ∧ Below w.heap.size w w0 ∧ Blk w0 w.heap.size [.string ⟨#[49]⟩, .string ⟨#[50]⟩] 62 := ⟨_, rfl, (Below.refl _ _).alloc (Nat.le_refl _) _, heap_alloc_new w _⟩
  have HB0 := Lib.hid hb0
  have HQ := Lib.hid (fun (wx : World) (hb : Below w0.heap.size w0 wx) => (hk0.below hb).cell)
  have q0 := hk0.cell
  have HC := Lib.hid (cut_49 w0)
  have HD1 := Lib.hid (digits_49 w0)
  have HD2 := Lib.hid (fun wx => digits_50 wx)
  have HP1 := Lib.hid (fun wx => parse_1 wx)
  have HP2 := Lib.hid (fun wx => parse_2 wx)
  have HG := Lib.hid (fun u v wx (h : ND wx u 1) (k : ND wx v 2) => gcd_12 u v wx h k)
  have HO := Lib.hid (fun v wx (h : ND wx v 1) => one_any 1 v wx h)
  have c1 : ((⟨#[49]⟩ : ByteArray).toList == [48]) = false := by kernel_rfl
  have c2 : ((⟨#[50]⟩ : ByteArray).toList == [48]) = false := by kernel_rfl
  have c3 : ((⟨#[50]⟩ : ByteArray).toList == [49]) = false := by kernel_rfl
  clear hb0 hk0
  simp only [ratV]
  go_enter Tryz.func72, Tryz.ntmps72
  go_upto_region 7 with (first | (go_at_call 89; refine HC.out.mono ?_; rintro e wz ⟨rfl, hz⟩; subst wz) | (go_at_call 90; have _g := HD1; refine HD1.out.mono ?_; clear HD1; rintro e w1 ⟨rfl, HB1⟩; have q1 := HQ.out w1 HB1.out) | (go_at_call 90; refine (HD2.out w1).mono ?_; rintro e w2 ⟨rfl, HB2'⟩; have HB2 := Lib.hid (HB1.out.trans (HB2'.out.mono HB1.out.size)); have q2 := HQ.out w2 HB2.out))
  clear hw0 q0 q1 q2
  go_region_held3 (fun wy : World => ∀ o, wy.cell? ⟨w.heap.size, o, none⟩ = ([Value.string ⟨#[49]⟩, .string ⟨#[50]⟩] : List Value)[o]?) (first | exact HQ.out _ HB5.out | exact HQ.out _ HB4.out | exact HQ.out _ HB3.out | exact HQ.out _ HB2.out.drew | exact HQ.out _ HB2.out) (first | (go_at_call 74; refine (HO.out _ w5 HN5.out).mono ?_; rintro e wz ⟨rfl, hz⟩; subst wz; dsimp only) | (go_at_call 91; refine (HG.out _ _ w4 HN3.out HN4.out).mono ?_; rintro e w5 ⟨v5, rfl, HN5, HB5'⟩; have HB5 := Lib.hid (HB4.out.trans (HB5'.out.mono HB4.out.size)); dsimp only) | (go_at_call 92; have _g := HB3; clear _g; refine (HP2.out w3).mono ?_; rintro e w4 ⟨v4, rfl, HN4, HB4'⟩; have HB4 := Lib.hid (HB3.out.trans (HB4'.out.mono HB3.out.size)); have HN3 := Lib.hid (HN3'.out.below HB4'.out); dsimp only) | (go_at_call 92; refine (HP1.out w2.drew).mono ?_; rintro e w3 ⟨v3, rfl, HN3', HB3'⟩; have HB3 : Hid (Below w0.heap.size w0 w3) := Lib.hid (HB2.out.trans ((below_undrew HB3'.out).mono HB2.out.size)); dsimp only))
  go_wp2
  go_ret
  exact ⟨rfl, Lib.hid (HB0.out.trans (HB5.out.mono HB0.out.size))⟩
end Go.Proofs.YtplkchmcojnimaaGreatDoor
/-
  frac: Of and Add of one half.
-/
namespace Go.Proofs.YtplkchmcojnimaaGreatDoor
open Go.RowKit

set_option maxRecDepth 100000 in
set_option maxHeartbeats 1600000 in
theorem fof_12 (w : World) : Calls Tryz.prog 73 #[ratV 49 50] w fun e w' => ∃ v, e = .returned v ∧ Hid (FD w' v 1 2) ∧ Hid (Below w.heap.size w w') := by
  obtain ⟨w0, hw0, hb0, hk0, hk1⟩ : ∃ w0, (w.alloc (.cells #[.string ⟨#[49]⟩, .string ⟨#[50]⟩] 62)).alloc (.cells #[.bool false, .slice none 0 0, .slice none 0 0] 94) = w0 ∧ Below w.heap.size w w0 ∧ Blk w0 w.heap.size [.string ⟨#[49]⟩, .string ⟨#[50]⟩] 62 ∧ Blk w0 (w.heap.size + 1) [.bool false, .slice none 0 0, .slice none 0 0] 94 := by
    refine ⟨_, rfl, ((Below.refl _ _).alloc (Nat.le_refl _) _).alloc (by simp only [World.size_alloc]; omega) _, (news_blk w [.string ⟨#[49]⟩, .string ⟨#[50]⟩] 62).alloc _, ?_⟩
    have := news_blk (w.alloc (.cells #[.string ⟨#[49]⟩, .string ⟨#[50]⟩] 62)) [.bool false, .slice none 0 0, .slice none 0 0] 94
    simp only [World.size_alloc] at this
    exact this
  have HB0 := Lib.hid hb0
  have HK1 := Lib.hid hk1
  have HQ := Lib.hid (fun (wx : World) (hb : Below w0.heap.size w0 wx) => (hk0.below hb).cell)
  have HT := Lib.hid (fun (wx : World) (hb : Below w0.heap.size w0 wx) (x y z : Value) => show (∀ o, (set94 wx (w.heap.size + 1) x y z).cell? ⟨w.heap.size, o, none⟩ = ([Value.string ⟨#[49]⟩, .string ⟨#[50]⟩] : List Value)[o]?) from ((((hk0.below hb).far (by simp) _).far (by simp) _).far (by simp) _).cell)
  have q0 := hk0.cell
  have HC := Lib.hid (cut_49 w0)
  have HP1 := Lib.hid (fun wx => parse_1 wx)
  have HP2 := Lib.hid (fun wx => parse_2 wx)
  clear hb0 hk0 hk1
  simp only [ratV]
  go_enter Tryz.func73, Tryz.ntmps73
  go_upto_region 2 with (go_at_call 89; refine HC.out.mono ?_; rintro e wz ⟨rfl, hz⟩; subst wz)
  clear hw0 q0
  go_region_held3 (fun wy : World => ∀ o, wy.cell? ⟨w.heap.size, o, none⟩ = ([Value.string ⟨#[49]⟩, .string ⟨#[50]⟩] : List Value)[o]?) (first | exact HT.out _ HB4.out _ _ _ | exact HQ.out _ HB4.out | exact HQ.out _ HB3.out | exact HQ.out _ (Below.refl _ _).drew | exact HQ.out _ (Below.refl _ _)) (first | (go_at_call 92; have _g := HB3; clear _g; refine (HP2.out w3).mono ?_; rintro e w4 ⟨v4, rfl, HN4, HB4'⟩; obtain ⟨g4, c4, rfl, _l4, _k4⟩ := HN4.out; have HB4 := Lib.hid (HB3.out.trans (HB4'.out.mono HB3.out.size)); have HN3 := Lib.hid (HN3'.out.below HB4'.out); have q4 := (HK1.out.below HB4.out).cell; have r4 := (HK1.out.below HB4.out).frozen; dsimp only) | (go_at_call 92; refine (HP1.out w0.drew).mono ?_; rintro e w3 ⟨v3, rfl, HN3', HB3'⟩; obtain ⟨g3, c3, rfl, _l3, _k3⟩ := HN3'.out; have HB3 : Hid (Below w0.heap.size w0 w3) := Lib.hid (below_undrew HB3'.out); dsimp only))
  go_wp2
  have HK4 := HK1.out.below HB4.out
  refine bodyPost_ret (results_frac rfl _ _ (w.heap.size + 1) _ _ _ rfl (blk3 w4 _ _ _ _ _ _ _ HK4)) rfl ?_
  exact ⟨_, rfl, Lib.hid ⟨_, _, rfl, nd94 HN3.out HK4 _ _ _, nd94 HN4.out HK4 _ _ _⟩, Lib.hid ((HB0.out.trans (HB4.out.mono HB0.out.size)).trans ((below94 _ _ _ _ _).mono (by omega)))⟩
end Go.Proofs.YtplkchmcojnimaaGreatDoor
/-
  frac: Add of one half and one half.
-/
namespace Go.Proofs.YtplkchmcojnimaaGreatDoor
open Go.RowKit

set_option maxRecDepth 100000 in
set_option maxHeartbeats 1600000 in
theorem fadd_12 (a b : Value) (w : World) (h : FD w a 1 2) (k : FD w b 1 2) :
    Calls Tryz.prog 58 #[a, b] w fun e w' => ∃ v, e = .returned v ∧ Hid (FD w' v 1 1) ∧ Hid (Below w.heap.size w w') := by
  obtain ⟨ua, da, rfl, hua, hda⟩ := h
  obtain ⟨ub, db, rfl, hub, hdb⟩ := k
  obtain ⟨w0, hw0, hb0, hk0, hk1, hk2⟩ : ∃ w0, ((w.alloc (.cells #[.bool false, ua, da] 94)).alloc (.cells #[.bool false, ub, db] 94)).alloc (.cells #[.bool false, .slice none 0 0, .slice none 0 0] 94) = w0 ∧ Below w.heap.size w w0 ∧ Blk w0 w.heap.size [.bool false, ua, da] 94 ∧ Blk w0 (w.heap.size + 1) [.bool false, ub, db] 94 ∧ Blk w0 (w.heap.size + 1 + 1) [.bool false, .slice none 0 0, .slice none 0 0] 94 := by
    refine ⟨_, rfl, (((Below.refl _ _).alloc (Nat.le_refl _) _).alloc (by simp only [World.size_alloc]; omega) _).alloc (by simp only [World.size_alloc]; omega) _, ((news_blk w [.bool false, ua, da] 94).alloc _).alloc _, ?_, ?_⟩
    · have := (news_blk (w.alloc (.cells #[.bool false, ua, da] 94)) [.bool false, ub, db] 94).alloc (.cells #[.bool false, .slice none 0 0, .slice none 0 0] 94)
      simp only [World.size_alloc] at this
      exact this
    · have := news_blk ((w.alloc (.cells #[.bool false, ua, da] 94)).alloc (.cells #[.bool false, ub, db] 94)) [.bool false, .slice none 0 0, .slice none 0 0] 94
      simp only [World.size_alloc] at this
      exact this
  have HB0 := Lib.hid hb0
  have HK2 := Lib.hid hk2
  have HUA := Lib.hid (hua.below hb0)
  have HDA := Lib.hid (hda.below hb0)
  have HUB := Lib.hid (hub.below hb0)
  have HDB := Lib.hid (hdb.below hb0)
  have HM := Lib.hid (fun x y (hx : 0 < x ∧ x < 1000) (hy : 0 < y ∧ y < 1000) u v wx (hu : ND wx u x) (hv : ND wx v y) => mul_any x y hx hy u v wx hu hv)
  have HR := Lib.hid (fun u d wx (hu : ND wx u 4) (hd : ND wx d 4) => reduced_44 u d wx hu hd)
  have HA := Lib.hid (fun u d wx (hu : ND wx u 2) (hd : ND wx d 2) => add_22 u d wx hu hd)
  have HO := Lib.hid (fun wx (hv : ND wx da 2) => one_any 2 da wx hv)
  have HS := Lib.hid (fun (wx : World) (hb : Below w0.heap.size w0 wx) => show (∀ o, wx.cell? ⟨w.heap.size, o, none⟩ = ([Value.bool false, ua, da] : List Value)[o]?) ∧ (∀ o, wx.cell? ⟨w.heap.size + 1, o, none⟩ = ([Value.bool false, ub, db] : List Value)[o]?) from ⟨(hk0.below hb).cell, (hk1.below hb).cell⟩)
  have HT := Lib.hid (fun (wx : World) (hb : Below w0.heap.size w0 wx) (x y z : Value) => show (∀ o, (set94 wx (w.heap.size + 1 + 1) x y z).cell? ⟨w.heap.size, o, none⟩ = ([Value.bool false, ua, da] : List Value)[o]?) ∧ (∀ o, (set94 wx (w.heap.size + 1 + 1) x y z).cell? ⟨w.heap.size + 1, o, none⟩ = ([Value.bool false, ub, db] : List Value)[o]?) from ⟨((((hk0.below hb).far (by simp; omega) _).far (by simp; omega) _).far (by simp; omega) _).cell, ((((hk1.below hb).far (by simp) _).far (by simp) _).far (by simp) _).cell⟩)
  have s0 := hk0.cell
  have s1 := hk1.cell
  clear hb0 hk0 hk1 hk2 hua hda hub hdb
  obtain ⟨g1, c1, rfl, l1, -⟩ := HUA.out
  obtain ⟨g2, c2, rfl, l2, -⟩ := HDA.out
  obtain ⟨g3, c3, rfl, l3, -⟩ := HUB.out
  obtain ⟨g4, c4, rfl, l4, -⟩ := HDB.out
  go_enter Tryz.func58, Tryz.ntmps58
  go_upto_region 1 with fail
  clear hw0
  go_quiet (fail)
  go_upto_region 4 with (go_at_call 74; refine (HO.out _ (HDA.out.below (below_drewN (Below.refl _ _) _))).mono ?_; rintro e wz ⟨rfl, hz⟩; subst wz)
  generalize hwa : w0.drewN _ = wa
  have HBA := Lib.hid (show Below w0.heap.size w0 wa by rw [← hwa]; exact below_drewN (Below.refl _ _) _)
  clear hwa s0 s1
  go_region_held3 (fun wy : World => (∀ o, wy.cell? ⟨w.heap.size, o, none⟩ = ([Value.bool false, .slice (some ⟨g1, 0, none⟩) 1 c1, .slice (some ⟨g2, 0, none⟩) 1 c2] : List Value)[o]?) ∧ (∀ o, wy.cell? ⟨w.heap.size + 1, o, none⟩ = ([Value.bool false, .slice (some ⟨g3, 0, none⟩) 1 c3, .slice (some ⟨g4, 0, none⟩) 1 c4] : List Value)[o]?)) (first | exact HS.out _ HB3.out | exact HS.out _ HB2.out | exact HS.out _ HB1.out | exact HS.out _ HBA.out.drew | exact HS.out _ HBA.out) (first | (go_at_call 75; have _g := HB2; clear _g; refine (HM.out 2 2 (by omega) (by omega) _ _ w2 (HDA.out.below HB2.out) (HDB.out.below HB2.out)).mono ?_; rintro e w3 ⟨r3, rfl, HN3, HB3'⟩; have HB3 := Lib.hid (HB2.out.trans (HB3'.out.mono HB2.out.size)); have HN1 := Lib.hid (HN1'.out.below HB3'.out); have HN2 := Lib.hid (HN2'.out.below HB3'.out); dsimp only) | (go_at_call 75; have _g := HB1; clear _g; refine (HM.out 1 2 (by omega) (by omega) _ _ w1 (HUB.out.below HB1.out) (HDA.out.below HB1.out)).mono ?_; rintro e w2 ⟨r2, rfl, HN2', HB2'⟩; have HB2 := Lib.hid (HB1.out.trans (HB2'.out.mono HB1.out.size)); have HN1' := Lib.hid (HN1''.out.below HB2'.out); dsimp only) | (go_at_call 75; refine (HM.out 1 2 (by omega) (by omega) _ _ wa.drew (HUA.out.below HBA.out.drew) (HDB.out.below HBA.out.drew)).mono ?_; rintro e w1 ⟨r1, rfl, HN1'', HB1'⟩; have HB1 : Hid (Below w0.heap.size w0 w1) := Lib.hid (HBA.out.trans ((below_undrew HB1'.out).mono HBA.out.size)); dsimp only))
  obtain ⟨s0, s1⟩ := HS.out w3 HB3.out
  go_upto_region 6 with fail
  clear s0 s1
  go_region_held3 (fun wy : World => (∀ o, wy.cell? ⟨w.heap.size, o, none⟩ = ([Value.bool false, .slice (some ⟨g1, 0, none⟩) 1 c1, .slice (some ⟨g2, 0, none⟩) 1 c2] : List Value)[o]?) ∧ (∀ o, wy.cell? ⟨w.heap.size + 1, o, none⟩ = ([Value.bool false, .slice (some ⟨g3, 0, none⟩) 1 c3, .slice (some ⟨g4, 0, none⟩) 1 c4] : List Value)[o]?)) (first | exact HT.out _ HB5.out _ _ _ | exact HS.out _ HB5.out | exact HS.out _ HB4.out | exact HS.out _ HB3.out.drew | exact HS.out _ HB3.out) (first | (go_at_call 76; refine (HR.out _ _ w4 HN4.out (HN3.out.below HB4'.out)).mono ?_; rintro e w5 ⟨r5, rfl, HF5, HB5'⟩; obtain ⟨u5, d5, rfl, ⟨g7, c7, rfl, _l7, _k7⟩, ⟨g8, c8, rfl, _l8, _k8⟩⟩ := HF5.out; have HB5 := Lib.hid (HB4.out.trans (HB5'.out.mono HB4.out.size)); have q5 := (HK2.out.below HB5.out).cell; have r5 := (HK2.out.below HB5.out).frozen; dsimp only) | (go_at_call 77; refine (HA.out _ _ w3.drew (HN1.out.below (Below.refl _ _).drew) (HN2.out.below (Below.refl _ _).drew)).mono ?_; rintro e w4 ⟨r4, rfl, HN4, HB4''⟩; have HB4' : Hid (Below w3.heap.size w3 w4) := Lib.hid (below_undrew HB4''.out); have HB4 := Lib.hid (HB3.out.trans (HB4'.out.mono HB3.out.size)); dsimp only))
  go_wp2
  have HK5 := HK2.out.below HB5.out
  refine bodyPost_ret (results_frac rfl _ _ (w.heap.size + 1 + 1) _ _ _ rfl (blk3 w5 _ _ _ _ _ _ _ HK5)) rfl ?_
  obtain ⟨u9, d9, e9, n9, m9⟩ := HF5.out
  injection e9 with e9
  simp only [List.cons.injEq, Array.mk.injEq, true_and, and_true] at e9
  obtain ⟨rfl, rfl⟩ := e9
  exact ⟨_, rfl, Lib.hid ⟨_, _, rfl, nd94 n9 HK5 _ _ _, nd94 m9 HK5 _ _ _⟩, Lib.hid ((HB0.out.trans (HB5.out.mono HB0.out.size)).trans ((below94 _ _ _ _ _).mono (by omega)))⟩
end Go.Proofs.YtplkchmcojnimaaGreatDoor
