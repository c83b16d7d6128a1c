/-
  frac: Rat; num: Make, Whole.
  strings: Trim of a digit at the digits: the set.
  strings: Trim of a digit at the digits; CutPrefix; num: digits.
-/
import Derived.Deep.WholeRow
import Derived.Laws.Strings3
import Derived.Lib.AsciiSet
import Derived.Lib.IndexBytes
import Derived.LoopN
import Derived.Test.YtplkchmcojnimaaGreatDoorSa1
import Derived.Test.YtplkchmcojnimaaGreatDoorSa18
/-
  frac: Rat; num: Make, Whole.
-/
namespace Go.Proofs.YtplkchmcojnimaaGreatDoor
open Go.RowKit

theorem results_rat {fn : Func} {a : Tmp} (hf : fn.results = #[.cell a 62]) (tmps : Array Value) (w : World) (r : Nat) (x y : Value) (hr : tmps.getD a undef = .pointer (some ⟨r, 0, none⟩)) (h : Blk w r [x, y] 62) :
    (results fn tmps).run Tryz.prog w = .ok (.agg #[x, y]) w :=
  results_cell_row (P := Tryz.prog) hf tmps w r 62 #[x, y] (0, 0) _ hr h Tryz.underlying62 rfl (by kernel_rfl)
theorem run_load_rat {w : World} {r : Nat} {x y : Value} (h : Blk w r [x, y] 62) : (loadVar 62 ⟨r, 0, none⟩).run Tryz.prog w = .ok (.agg #[x, y]) w :=
  run_loadVar_row (P := Tryz.prog) w r 62 62 #[x, y] (0, 0) _ h Tryz.underlying62 rfl (by kernel_rfl)
theorem results_rat2 {fn : Func} {a u : Tmp} (hf : fn.results = #[.cell a 62, .tmp u]) (tmps : Array Value) (w : World) (r : Nat) (x y : Value) (hr : tmps.getD a undef = .pointer (some ⟨r, 0, none⟩)) (h : Blk w r [x, y] 62) :
    (results fn tmps).run Tryz.prog w = .ok (.tuple #[.agg #[x, y], tmps.getD u undef]) w := by
  rw [results_cell_tmp hf, hr]
  simp only [asAddr, Sem.run_pure, Result.andThen_ok]
  rw [run_load_rat h]
  rfl
def set62 (w : World) (r : Nat) (x y : Value) : World := (w.setCell ⟨r, 0, none⟩ x).setCell ⟨r, 1, none⟩ y
theorem below62 (w : World) (r : Nat) (x y : Value) : Below r w (set62 w r x y) :=
  ((Below.refl r w).setCell (p := ⟨r, 0, none⟩) (Nat.le_refl r) x).setCell (p := ⟨r, 1, none⟩) (Nat.le_refl r) y
theorem blk62 (w : World) (x y x' y' : Value) (r : Nat) (h : Blk w r [x, y] 62) : Blk (set62 w r x' y') r [x', y'] 62 := (h.set 0 _).set 1 _
def ratV (x y : UInt8) : Value := .agg #[.string ⟨#[x]⟩, .string ⟨#[y]⟩]
set_option maxRecDepth 100000 in
set_option maxHeartbeats 1600000 in
theorem rat_12 (v : Value) (w : World) (h : FD w v 1 2) : Calls Tryz.prog 56 #[v] w fun e w' => e = .returned (ratV 49 50) ∧ Hid (Below w.heap.size w w') := by
  obtain ⟨u, d, rfl, hu, hd⟩ := h
  obtain ⟨w0, hw0, hb0, hk0, hk1⟩ : ∃ w0, (w.alloc (.cells #[.bool false, u, d] 94)).alloc (.cells #[.string ⟨#[]⟩, .string ⟨#[]⟩] 62) = w0 ∧ Below w.heap.size w w0 ∧ Blk w0 w.heap.size [.bool false, u, d] 94 ∧ Blk w0 (w.heap.size + 1) [.string ⟨#[]⟩, .string ⟨#[]⟩] 62 := by
    refine ⟨_, rfl, ((Below.refl _ _).alloc (Nat.le_refl _) _).alloc (by simp only [World.size_alloc]; omega) _, (news_blk w [.bool false, u, d] 94).alloc _, ?_⟩
    have := news_blk (w.alloc (.cells #[.bool false, u, d] 94)) [.string ⟨#[]⟩, .string ⟨#[]⟩] 62
    simp only [World.size_alloc] at this
    exact this
  have HB0 := Lib.hid hb0
  have HK1 := Lib.hid hk1
  have HQ := Lib.hid (fun (wx : World) (hb : Below w0.heap.size w0 wx) => (hk0.below hb).cell)
  have q0 := hk0.cell
  have HS := Lib.hid (string_1 u w0 (hu.below hb0))
  have HT := Lib.hid (fun wx (hb : Below w0.heap.size w0 wx) => string_2 d wx ((hd.below hb0).below hb))
  obtain ⟨g1, c1, rfl, l1, -⟩ := hu
  obtain ⟨g2, c2, rfl, l2, -⟩ := hd
  clear hb0 hk0 hk1
  go_enter Tryz.func56, Tryz.ntmps56
  go_wp2_with (first | (go_at_call 71; have _g := HS; refine HS.out.mono ?_; clear HS; rintro e w1 ⟨rfl, HB1⟩; have q1 := HQ.out w1 HB1.out) | (go_at_call 71; refine (HT.out w1 HB1.out).mono ?_; rintro e w2 ⟨rfl, HB2⟩; have HK2 := Lib.hid ((HK1.out.below HB1.out).below HB2.out); have q2 := HK2.out.cell; have r2 := HK2.out.frozen))
  refine bodyPost_ret (results_rat rfl _ _ (w.heap.size + 1) _ _ rfl (blk62 w2 _ _ _ _ _ HK2.out)) rfl ?_
  exact ⟨rfl, Lib.hid (((HB0.out.trans (HB1.out.mono HB0.out.size)).trans (HB2.out.mono (Nat.le_trans HB0.out.size HB1.out.size))).trans ((below62 _ _ _ _).mono (by omega)))⟩
set_option maxRecDepth 100000 in
set_option maxHeartbeats 1600000 in
theorem rat_11 (v : Value) (w : World) (h : FD w v 1 1) : Calls Tryz.prog 56 #[v] w fun e w' => e = .returned (ratV 49 49) ∧ Hid (Below w.heap.size w w') := by
  obtain ⟨u, d, rfl, hu, hd⟩ := h
  obtain ⟨w0, hw0, hb0, hk0, hk1⟩ : ∃ w0, (w.alloc (.cells #[.bool false, u, d] 94)).alloc (.cells #[.string ⟨#[]⟩, .string ⟨#[]⟩] 62) = w0 ∧ Below w.heap.size w w0 ∧ Blk w0 w.heap.size [.bool false, u, d] 94 ∧ Blk w0 (w.heap.size + 1) [.string ⟨#[]⟩, .string ⟨#[]⟩] 62 := by
    refine ⟨_, rfl, ((Below.refl _ _).alloc (Nat.le_refl _) _).alloc (by simp only [World.size_alloc]; omega) _, (news_blk w [.bool false, u, d] 94).alloc _, ?_⟩
    have := news_blk (w.alloc (.cells #[.bool false, u, d] 94)) [.string ⟨#[]⟩, .string ⟨#[]⟩] 62
    simp only [World.size_alloc] at this
    exact this
  have HB0 := Lib.hid hb0
  have HK1 := Lib.hid hk1
  have HQ := Lib.hid (fun (wx : World) (hb : Below w0.heap.size w0 wx) => (hk0.below hb).cell)
  have q0 := hk0.cell
  have HS := Lib.hid (string_1 u w0 (hu.below hb0))
  have HT := Lib.hid (fun wx (hb : Below w0.heap.size w0 wx) => string_1 d wx ((hd.below hb0).below hb))
  obtain ⟨g1, c1, rfl, l1, -⟩ := hu
  obtain ⟨g2, c2, rfl, l2, -⟩ := hd
  clear hb0 hk0 hk1
  go_enter Tryz.func56, Tryz.ntmps56
  go_wp2_with (first | (go_at_call 71; have _g := HS; refine HS.out.mono ?_; clear HS; rintro e w1 ⟨rfl, HB1⟩; have q1 := HQ.out w1 HB1.out) | (go_at_call 71; refine (HT.out w1 HB1.out).mono ?_; rintro e w2 ⟨rfl, HB2⟩; have HK2 := Lib.hid ((HK1.out.below HB1.out).below HB2.out); have q2 := HK2.out.cell; have r2 := HK2.out.frozen))
  refine bodyPost_ret (results_rat rfl _ _ (w.heap.size + 1) _ _ rfl (blk62 w2 _ _ _ _ _ HK2.out)) rfl ?_
  exact ⟨rfl, Lib.hid (((HB0.out.trans (HB1.out.mono HB0.out.size)).trans (HB2.out.mono (Nat.le_trans HB0.out.size HB1.out.size))).trans ((below62 _ _ _ _).mono (by omega)))⟩
set_option maxRecDepth 100000 in
set_option maxHeartbeats 1600000 in
theorem rat_21 (v : Value) (w : World) (h : FD w v 2 1) : Calls Tryz.prog 56 #[v] w fun e w' => e = .returned (ratV 50 49) ∧ Hid (Below w.heap.size w w') := by
  obtain ⟨u, d, rfl, hu, hd⟩ := h
  obtain ⟨w0, hw0, hb0, hk0, hk1⟩ : ∃ w0, (w.alloc (.cells #[.bool false, u, d] 94)).alloc (.cells #[.string ⟨#[]⟩, .string ⟨#[]⟩] 62) = w0 ∧ Below w.heap.size w w0 ∧ Blk w0 w.heap.size [.bool false, u, d] 94 ∧ Blk w0 (w.heap.size + 1) [.string ⟨#[]⟩, .string ⟨#[]⟩] 62 := by
    refine ⟨_, rfl, ((Below.refl _ _).alloc (Nat.le_refl _) _).alloc (by simp only [World.size_alloc]; omega) _, (news_blk w [.bool false, u, d] 94).alloc _, ?_⟩
    have := news_blk (w.alloc (.cells #[.bool false, u, d] 94)) [.string ⟨#[]⟩, .string ⟨#[]⟩] 62
    simp only [World.size_alloc] at this
    exact this
  have HB0 := Lib.hid hb0
  have HK1 := Lib.hid hk1
  have HQ := Lib.hid (fun (wx : World) (hb : Below w0.heap.size w0 wx) => (hk0.below hb).cell)
  have q0 := hk0.cell
  have HS := Lib.hid (string_2 u w0 (hu.below hb0))
  have HT := Lib.hid (fun wx (hb : Below w0.heap.size w0 wx) => string_1 d wx ((hd.below hb0).below hb))
  obtain ⟨g1, c1, rfl, l1, -⟩ := hu
  obtain ⟨g2, c2, rfl, l2, -⟩ := hd
  clear hb0 hk0 hk1
  go_enter Tryz.func56, Tryz.ntmps56
  go_wp2_with (first | (go_at_call 71; have _g := HS; refine HS.out.mono ?_; clear HS; rintro e w1 ⟨rfl, HB1⟩; have q1 := HQ.out w1 HB1.out) | (go_at_call 71; refine (HT.out w1 HB1.out).mono ?_; rintro e w2 ⟨rfl, HB2⟩; have HK2 := Lib.hid ((HK1.out.below HB1.out).below HB2.out); have q2 := HK2.out.cell; have r2 := HK2.out.frozen))
  refine bodyPost_ret (results_rat rfl _ _ (w.heap.size + 1) _ _ rfl (blk62 w2 _ _ _ _ _ HK2.out)) rfl ?_
  exact ⟨rfl, Lib.hid (((HB0.out.trans (HB1.out.mono HB0.out.size)).trans (HB2.out.mono (Nat.le_trans HB0.out.size HB1.out.size))).trans ((below62 _ _ _ _).mono (by omega)))⟩
set_option maxRecDepth 100000 in
set_option maxHeartbeats 1600000 in
theorem make_12 (w : World) : Calls Tryz.prog 31 #[.int .i64 1, .int .i64 2] w fun e w' => e = .returned (.tuple #[ratV 49 50, .int .i64 0]) ∧ Hid (Below w.heap.size w w') := by
  obtain ⟨w0, hw0, hb0, hk0⟩ : ∃ w0, w.alloc (.cells #[.string ⟨#[]⟩, .string ⟨#[]⟩] 62) = w0 ∧ Below w.heap.size w w0 ∧ Blk w0 w.heap.size [.string ⟨#[]⟩, .string ⟨#[]⟩] 62 := ⟨_, rfl, (Below.refl _ _).alloc (Nat.le_refl _) _, heap_alloc_new w _⟩
  have HB0 := Lib.hid hb0
  have HK0 := Lib.hid hk0
  have HQ := Lib.hid (quotient_12 w0)
  have HR := Lib.hid (fun v wx (h : FD wx v 1 2) => rat_12 v wx h)
  clear hb0 hk0
  simp only [ratV] at HR ⊢
  go_enter Tryz.func31, Tryz.ntmps31
  go_wp2_with (first | (go_at_call 55; refine HQ.out.mono ?_; rintro e w1 ⟨v1, rfl, HF1, HB1⟩) | (go_at_call 56; refine (HR.out _ w1 HF1.out).mono ?_; rintro e w2 ⟨rfl, HB2⟩; have HK2 := Lib.hid ((HK0.out.below HB1.out).below HB2.out); have q2 := HK2.out.cell; have r2 := HK2.out.frozen))
  refine bodyPost_ret (results_rat2 rfl _ _ w.heap.size _ _ rfl (blk62 w2 _ _ _ _ _ HK2.out)) rfl ?_
  exact ⟨rfl, Lib.hid (((HB0.out.trans (HB1.out.mono HB0.out.size)).trans (HB2.out.mono (Nat.le_trans HB0.out.size HB1.out.size))).trans (below62 _ _ _ _))⟩
set_option maxRecDepth 100000 in
set_option maxHeartbeats 1600000 in
theorem whole_1 (w : World) : Calls Tryz.prog 33 #[.int .i64 1] w fun e w' => e = .returned (ratV 49 49) ∧ Hid (Below w.heap.size w w') := by
  obtain ⟨w0, hw0, hb0, hk0⟩ : ∃ w0, w.alloc (.cells #[.string ⟨#[]⟩, .string ⟨#[]⟩] 62) = w0 ∧ Below w.heap.size w w0 ∧ Blk w0 w.heap.size [.string ⟨#[]⟩, .string ⟨#[]⟩] 62 := ⟨_, rfl, (Below.refl _ _).alloc (Nat.le_refl _) _, heap_alloc_new w _⟩
  have HB0 := Lib.hid hb0
  have HK0 := Lib.hid hk0
  have HQ := Lib.hid (int_any 1 (by omega) (by omega) w0)
  have HR := Lib.hid (fun v wx (h : FD wx v 1 1) => rat_11 v wx h)
  clear hb0 hk0
  simp only [ratV] at HR ⊢
  go_enter Tryz.func33, Tryz.ntmps33
  go_wp2_with (first | (go_at_call 59; refine HQ.out.mono ?_; rintro e w1 ⟨v1, rfl, HF1, HB1⟩) | (go_at_call 56; refine (HR.out _ w1 HF1.out).mono ?_; rintro e w2 ⟨rfl, HB2⟩; have HK2 := Lib.hid ((HK0.out.below HB1.out).below HB2.out); have q2 := HK2.out.cell; have r2 := HK2.out.frozen))
  refine bodyPost_ret (results_rat rfl _ _ w.heap.size _ _ rfl (blk62 w2 _ _ _ _ _ HK2.out)) rfl ?_
  exact ⟨rfl, Lib.hid (((HB0.out.trans (HB1.out.mono HB0.out.size)).trans (HB2.out.mono (Nat.le_trans HB0.out.size HB1.out.size))).trans (below62 _ _ _ _))⟩
set_option maxRecDepth 100000 in
set_option maxHeartbeats 1600000 in
theorem whole_2 (w : World) : Calls Tryz.prog 33 #[.int .i64 2] w fun e w' => e = .returned (ratV 50 49) ∧ Hid (Below w.heap.size w w') := by
  obtain ⟨w0, hw0, hb0, hk0⟩ : ∃ w0, w.alloc (.cells #[.string ⟨#[]⟩, .string ⟨#[]⟩] 62) = w0 ∧ Below w.heap.size w w0 ∧ Blk w0 w.heap.size [.string ⟨#[]⟩, .string ⟨#[]⟩] 62 := ⟨_, rfl, (Below.refl _ _).alloc (Nat.le_refl _) _, heap_alloc_new w _⟩
  have HB0 := Lib.hid hb0
  have HK0 := Lib.hid hk0
  have HQ := Lib.hid (int_any 2 (by omega) (by omega) w0)
  have HR := Lib.hid (fun v wx (h : FD wx v 2 1) => rat_21 v wx h)
  clear hb0 hk0
  simp only [ratV] at HR ⊢
  go_enter Tryz.func33, Tryz.ntmps33
  go_wp2_with (first | (go_at_call 59; refine HQ.out.mono ?_; rintro e w1 ⟨v1, rfl, HF1, HB1⟩) | (go_at_call 56; refine (HR.out _ w1 HF1.out).mono ?_; rintro e w2 ⟨rfl, HB2⟩; have HK2 := Lib.hid ((HK0.out.below HB1.out).below HB2.out); have q2 := HK2.out.cell; have r2 := HK2.out.frozen))
  refine bodyPost_ret (results_rat rfl _ _ w.heap.size _ _ rfl (blk62 w2 _ _ _ _ _ HK2.out)) rfl ?_
  exact ⟨rfl, Lib.hid (((HB0.out.trans (HB1.out.mono HB0.out.size)).trans (HB2.out.mono (Nat.le_trans HB0.out.size HB1.out.size))).trans (below62 _ _ _ _))⟩
end Go.Proofs.YtplkchmcojnimaaGreatDoor
/-
  strings: Trim of a digit at the digits: the set.
-/
namespace Go.Proofs.YtplkchmcojnimaaGreatDoor
open Go.RowKit

def digitsB : ByteArray := ⟨#[48, 49, 50, 51, 52, 53, 54, 55, 56, 57]⟩
set_option maxHeartbeats 4000000 in
set_option maxRecDepth 1000000 in
theorem makeSet_any (w : World) :
    Calls Tryz.prog 122 #[.string digitsB] w fun e w' => e = .returned (.tuple #[.agg (Lib.setCells digitsB.data.toList), .bool true]) ∧ Hid (Below w.heap.size w w') := by
  obtain ⟨chars, hch⟩ : ∃ c, c = digitsB := ⟨_, rfl⟩
  have HA := Lib.hid (show ∀ (j : Nat) b, chars.data.toList[j]? = some b → b.toNat < 128 from fun j b hb => by
    rw [hch] at hb
    have hm := List.mem_of_getElem? hb
    exact (show ∀ b ∈ digitsB.data.toList, b.toNat < 128 by decide) b hm)
  have HN := Lib.hid (show chars.size = 10 by rw [hch]; rfl)
  rw [← hch]
  clear hch
  go_enter Tryz.func122, Tryz.ntmps122
  go_wp2
  have hz : Tryz.zeroCells167 = Lib.setCells [] := by kernel_rfl
  rw [hz]
  have hi167 : (Tryz.prog.info? 167).map (·.size) = some 256 := by kernel_rfl
  go_loopg [4] chars.size (fun g s4 wx => ∃ i : Nat, i + g = chars.size ∧ s4 = .int .i64 i ∧ wx = w.alloc (.cells (Lib.setCells (chars.data.toList.take i)) 167))
  case atStart => exact ⟨0, by omega, rfl, rfl⟩
  case round =>
    obtain ⟨i, hig, rfl, rfl⟩ := hrel
    cases gk with
    | zero =>
      obtain rfl : i = chars.size := by omega
      have hiz : ¬ ((chars.size : Int) < (chars.size : Int)) := by omega
      rw [show chars.data.toList.take chars.size = chars.data.toList from List.take_of_length_le (by rw [← Lib.size_eq]; exact Nat.le_refl _)]
      have hsz := Lib.setCells_size chars.data.toList
      generalize hsc : Lib.setCells chars.data.toList = cs at hsz ⊢
      have h1 : cs.all (·.oneCell') = true := by rw [← hsc]; exact Lib.setCells_one _
      have hst : (w.alloc (.cells cs 167)).setRow w.heap.size cs = w.alloc (.cells cs 167) := World.setRow_alloc_new w cs cs 167
      go_wp2_with (first | (refine wpList_load_row rfl 167 _ rfl w.heap.size rfl 167 cs (0, 0) _ (heap_alloc_last w _) Tryz.underlying167 rfl (by rw [hi167, hsz]) ?_) | (refine wpList_store_row rfl 167 _ _ rfl w.heap.size cs rfl rfl 167 cs (heap_alloc_last w _) (by rw [hi167, hsz]) rfl h1 ?_; rw [hst]))
      refine bodyPost_ret (v := .tuple #[.agg cs, .bool true]) ?_ rfl ⟨rfl, Lib.hid ((Below.refl _ _).alloc (Nat.le_refl _) _)⟩
      rw [results_cell_tmp rfl]
      have hld := run_loadVar_new (P := Tryz.prog) w 167 cs 256 4 Tryz.underlying167 (by rw [hi167, hsz])
      simp [asAddr, Result.andThen, hld]
    | succ g =>
      have hi : i < chars.size := by omega
      have hiz : (i : Int) < (chars.size : Int) := by omega
      obtain ⟨x, hx⟩ : ∃ x : UInt8, chars[i]'hi = x := ⟨_, rfl⟩
      have hxl : chars.data.toList[i]? = some x := by rw [← hx]; exact Lib.data_getElem? chars i hi
      have hx128 : ¬ ((128 : Int) ≤ (x.toNat : Int)) := by have := HA.out i x hxl; omega
      have hx256 : (x.toNat : Int) < 256 := by have := HA.out i x hxl; omega
      have hcell := Lib.setCells_at (chars.data.toList.take i) x
      have Hx := Lib.hid hxl
      have hn10 := HN.out
      clear hxl
      go_wp2
      go_roundg g
      case measure => omega
      case rel => exact ⟨i + 1, by omega, by first | rfl | simp, by rw [List.take_add_one, Hx.out]; simp only [Option.toList]; rw [Lib.setCells_snoc]⟩
end Go.Proofs.YtplkchmcojnimaaGreatDoor
/-
  strings: Trim of a digit at the digits; CutPrefix; num: digits.
-/
namespace Go.Proofs.YtplkchmcojnimaaGreatDoor
open Go.RowKit

set_option maxRecDepth 100000 in
set_option maxHeartbeats 1600000 in
theorem contains_49 (b : Nat) (w : World) (hc : w.cell? ⟨b, 49, none⟩ = some (.bool true)) :
    Calls Tryz.prog 138 #[.pointer (some ⟨b, 0, none⟩), .int .u8 49] w fun e w' => e = .returned (.bool true) ∧ w' = w := by
  go_enter Tryz.func138, Tryz.ntmps138
  go_wp2
  go_ret
  exact ⟨rfl, rfl⟩
set_option maxRecDepth 100000 in
set_option maxHeartbeats 1600000 in
theorem trimRight_49 (b : Nat) (w : World) (hc : w.cell? ⟨b, 49, none⟩ = some (.bool true)) :
    Calls Tryz.prog 124 #[.string ⟨#[49]⟩, .pointer (some ⟨b, 0, none⟩)] w fun e w' => e = .returned (.string ⟨#[]⟩) ∧ w' = w := by
  have HC := Lib.hid (contains_49 b w hc)
  clear hc
  go_enter Tryz.func124, Tryz.ntmps124
  go_wp2
  refine wp_loop_rounds 2 ?_
  rw [rounds_succ]
  go_wp2_with (go_at_call 138; refine HC.out.mono ?_; rintro e wz ⟨rfl, hz⟩; subst wz)
  rw [rounds_succ]
  go_wp2
  go_ret
  exact ⟨rfl, rfl⟩
set_option maxRecDepth 100000 in
set_option maxHeartbeats 1600000 in
theorem contains_50 (b : Nat) (w : World) (hc : w.cell? ⟨b, 50, none⟩ = some (.bool true)) :
    Calls Tryz.prog 138 #[.pointer (some ⟨b, 0, none⟩), .int .u8 50] w fun e w' => e = .returned (.bool true) ∧ w' = w := by
  go_enter Tryz.func138, Tryz.ntmps138
  go_wp2
  go_ret
  exact ⟨rfl, rfl⟩
set_option maxRecDepth 100000 in
set_option maxHeartbeats 1600000 in
theorem trimRight_50 (b : Nat) (w : World) (hc : w.cell? ⟨b, 50, none⟩ = some (.bool true)) :
    Calls Tryz.prog 124 #[.string ⟨#[50]⟩, .pointer (some ⟨b, 0, none⟩)] w fun e w' => e = .returned (.string ⟨#[]⟩) ∧ w' = w := by
  have HC := Lib.hid (contains_50 b w hc)
  clear hc
  go_enter Tryz.func124, Tryz.ntmps124
  go_wp2
  refine wp_loop_rounds 2 ?_
  rw [rounds_succ]
  go_wp2_with (go_at_call 138; refine HC.out.mono ?_; rintro e wz ⟨rfl, hz⟩; subst wz)
  rw [rounds_succ]
  go_wp2
  go_ret
  exact ⟨rfl, rfl⟩
set_option maxRecDepth 100000 in
set_option maxHeartbeats 1600000 in
theorem trimLeft_none (b : Nat) (w : World) :
    Calls Tryz.prog 123 #[.string ⟨#[]⟩, .pointer (some ⟨b, 0, none⟩)] w fun e w' => e = .returned (.string ⟨#[]⟩) ∧ w' = w := by
  go_enter Tryz.func123, Tryz.ntmps123
  go_wp2
  refine wp_loop_rounds 1 ?_
  rw [rounds_succ]
  go_wp2
  go_ret
  exact ⟨rfl, rfl⟩
set_option maxRecDepth 100000 in
set_option maxHeartbeats 1600000 in
theorem trim_49 (w : World) : Calls Tryz.prog 104 #[.string ⟨#[49]⟩, .string digitsB] w fun e w' => e = .returned (.string ⟨#[]⟩) ∧ Hid (Below w.heap.size w w') := by
  have HM := Lib.hid (makeSet_any w)
  have hi167 : (Tryz.prog.info? 167).map (·.size) = some 256 := by kernel_rfl
  have hz : Tryz.zeroCells167 = Lib.setCells [] := by kernel_rfl
  have hsz := Lib.setCells_size digitsB.data.toList
  have hsz0 := Lib.setCells_size []
  have h1 : (Lib.setCells digitsB.data.toList).all (·.oneCell') = true := Lib.setCells_one _
  have hcat : (Lib.setCells digitsB.data.toList)[49]? = some (.bool true) := Lib.setCells_at digitsB.data.toList 49
  generalize Lib.setCells digitsB.data.toList = cs at HM hsz h1 hcat
  have hdz : digitsB.size = 10 := rfl
  have hde : (Value.string digitsB) = .string ⟨#[48, 49, 50, 51, 52, 53, 54, 55, 56, 57]⟩ := rfl
  have HL := Lib.hid (fun b wx => trimLeft_none b wx)
  have HR := Lib.hid (fun b wx (hc : World.cell? wx ⟨b, 49, none⟩ = some (.bool true)) => trimRight_49 b wx hc)
  rw [hde] at HM ⊢
  go_enter Tryz.func104, Tryz.ntmps104
  go_wp2_with (first | (go_at_call 122; refine HM.out.mono ?_; rintro e w1 ⟨rfl, HB1⟩) | (go_at_call 124; refine (HR.out w1.heap.size (w1.alloc (.cells cs 167)) (by rw [cell_of_row _ _ 49 cs 167 (0, 0) (heap_alloc_last w1 _)]; exact hcat)).mono ?_; rintro e wz ⟨rfl, hzz⟩; subst wz) | (go_at_call 123; refine (HL.out _ _).mono ?_; rintro e wz ⟨rfl, hzz⟩; subst wz) | (refine wpList_store_row rfl 167 _ _ rfl w1.heap.size cs rfl rfl 167 (Lib.setCells []) (heap_alloc_last w1 _) (by rw [hi167, hsz]) (by rw [hsz0, hsz]) h1 ?_; rw [World.setRow_alloc_new]))
  go_ret
  exact ⟨rfl, Lib.hid (HB1.out.alloc HB1.out.size _)⟩
set_option maxRecDepth 100000 in
set_option maxHeartbeats 1600000 in
theorem cut_49 (w : World) : Calls Tryz.prog 89 #[.string ⟨#[49]⟩, .string ⟨#[45]⟩] w fun e w' => e = .returned (.tuple #[.string ⟨#[49]⟩, .bool false]) ∧ w' = w := by
  have hq : (((⟨#[49]⟩ : ByteArray).extract 0 1).toList == [45]) = false := by kernel_rfl
  go_enter Tryz.func89, Tryz.ntmps89
  go_wp2
  go_ret2
  exact ⟨rfl, rfl⟩
set_option maxRecDepth 100000 in
set_option maxHeartbeats 1600000 in
theorem digits_49 (w : World) : Calls Tryz.prog 90 #[.string ⟨#[49]⟩] w fun e w' => e = .returned (.bool true) ∧ Hid (Below w.heap.size w w') := by
  have HT := Lib.hid (trim_49 w)
  have hde : (Value.string digitsB) = .string ⟨#[48, 49, 50, 51, 52, 53, 54, 55, 56, 57]⟩ := rfl
  rw [hde] at HT
  go_enter Tryz.func90, Tryz.ntmps90
  go_wp2_with (go_at_call 104; refine HT.out.mono ?_; rintro e w1 ⟨rfl, HB1⟩)
  go_ret
  exact ⟨rfl, HB1⟩
set_option maxRecDepth 100000 in
set_option maxHeartbeats 1600000 in
theorem trim_50 (w : World) : Calls Tryz.prog 104 #[.string ⟨#[50]⟩, .string digitsB] w fun e w' => e = .returned (.string ⟨#[]⟩) ∧ Hid (Below w.heap.size w w') := by
  have HM := Lib.hid (makeSet_any w)
  have hi167 : (Tryz.prog.info? 167).map (·.size) = some 256 := by kernel_rfl
  have hz : Tryz.zeroCells167 = Lib.setCells [] := by kernel_rfl
  have hsz := Lib.setCells_size digitsB.data.toList
  have hsz0 := Lib.setCells_size []
  have h1 : (Lib.setCells digitsB.data.toList).all (·.oneCell') = true := Lib.setCells_one _
  have hcat : (Lib.setCells digitsB.data.toList)[50]? = some (.bool true) := Lib.setCells_at digitsB.data.toList 50
  generalize Lib.setCells digitsB.data.toList = cs at HM hsz h1 hcat
  have hdz : digitsB.size = 10 := rfl
  have hde : (Value.string digitsB) = .string ⟨#[48, 49, 50, 51, 52, 53, 54, 55, 56, 57]⟩ := rfl
  have HL := Lib.hid (fun b wx => trimLeft_none b wx)
  have HR := Lib.hid (fun b wx (hc : World.cell? wx ⟨b, 50, none⟩ = some (.bool true)) => trimRight_50 b wx hc)
  rw [hde] at HM ⊢
  go_enter Tryz.func104, Tryz.ntmps104
  go_wp2_with (first | (go_at_call 122; refine HM.out.mono ?_; rintro e w1 ⟨rfl, HB1⟩) | (go_at_call 124; refine (HR.out w1.heap.size (w1.alloc (.cells cs 167)) (by rw [cell_of_row _ _ 50 cs 167 (0, 0) (heap_alloc_last w1 _)]; exact hcat)).mono ?_; rintro e wz ⟨rfl, hzz⟩; subst wz) | (go_at_call 123; refine (HL.out _ _).mono ?_; rintro e wz ⟨rfl, hzz⟩; subst wz) | (refine wpList_store_row rfl 167 _ _ rfl w1.heap.size cs rfl rfl 167 (Lib.setCells []) (heap_alloc_last w1 _) (by rw [hi167, hsz]) (by rw [hsz0, hsz]) h1 ?_; rw [World.setRow_alloc_new]))
  go_ret
  exact ⟨rfl, Lib.hid (HB1.out.alloc HB1.out.size _)⟩
set_option maxRecDepth 100000 in
set_option maxHeartbeats 1600000 in
theorem cut_50 (w : World) : Calls Tryz.prog 89 #[.string ⟨#[50]⟩, .string ⟨#[45]⟩] w fun e w' => e = .returned (.tuple #[.string ⟨#[50]⟩, .bool false]) ∧ w' = w := by
  have hq : (((⟨#[50]⟩ : ByteArray).extract 0 1).toList == [45]) = false := by kernel_rfl
  go_enter Tryz.func89, Tryz.ntmps89
  go_wp2
  go_ret2
  exact ⟨rfl, rfl⟩
set_option maxRecDepth 100000 in
set_option maxHeartbeats 1600000 in
theorem digits_50 (w : World) : Calls Tryz.prog 90 #[.string ⟨#[50]⟩] w fun e w' => e = .returned (.bool true) ∧ Hid (Below w.heap.size w w') := by
  have HT := Lib.hid (trim_50 w)
  have hde : (Value.string digitsB) = .string ⟨#[48, 49, 50, 51, 52, 53, 54, 55, 56, 57]⟩ := rfl
  rw [hde] at HT
  go_enter Tryz.func90, Tryz.ntmps90
  go_wp2_with (go_at_call 104; refine HT.out.mono ?_; rintro e w1 ⟨rfl, HB1⟩)
  go_ret
  exact ⟨rfl, HB1⟩
end Go.Proofs.YtplkchmcojnimaaGreatDoor
