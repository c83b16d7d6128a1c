/-
  graph: the closure of pointwise at the sum of the graph of two nodes.
-/
import Derived.Test.YtdbhlkejfecffaaGreatDoorSa34
/-
  graph: the closure of pointwise at the sum of the graph of two nodes.
-/
namespace Go.Proofs.YtdbhlkejfecffaaGreatDoor
open Go.RowKit KeepPlain

/-- What the closure of pointwise finds. -/
structure PAt (w : World) (p5 p7 p3 p10 gT cT gD cD gP cP : Nat) (a0 a1 : Nat) (A D : Value) : Prop where
  v : Blk w p5 [.slice (some ⟨gT, 0, none⟩) 2 cT] 63
  s : Blk w p7 [.slice (some ⟨gP, 0, none⟩) 2 cP] 47
  n : Blk w p3 (nodeC 4 A D) 57
  o : Blk w p10 [.slice none 0 0] 22
  t : (∀ o, o < 4 → w.cell? ⟨gT, o, none⟩ = ([.slice none 0 0, .slice (some ⟨gD, 0, none⟩) 1 cD, .slice none 0 0, .slice (some ⟨gD, 0, none⟩) 1 cD] : List Value)[o]?)
  d : w.cell? ⟨gD, 0, none⟩ = some (.int .i64 3)
  e0 : w.cell? ⟨gP, 0, none⟩ = some (.slice (some ⟨a0, 0, none⟩) 0 0)
  e1 : w.cell? ⟨gP, 1, none⟩ = some (.slice (some ⟨a1, 0, none⟩) 0 0)
theorem cell_below {w w' : World} (hb : Below w.heap.size w w') {b o : Nat} {v : Value} (h : w.cell? ⟨b, o, none⟩ = some v) : w'.cell? ⟨b, o, none⟩ = some v := by
  rw [hb.cell (p := ⟨b, o, none⟩) (World.block_lt_of_cell? w _ h)]; exact h
theorem PAt.below {w w' : World} {p5 p7 p3 p10 gT cT gD cD gP cP a0 a1 : Nat} {A D : Value} (h : PAt w p5 p7 p3 p10 gT cT gD cD gP cP a0 a1 A D) (hb : Below w.heap.size w w') : PAt w' p5 p7 p3 p10 gT cT gD cD gP cP a0 a1 A D := by
  refine ⟨h.v.below hb, h.s.below hb, h.n.below hb, h.o.below hb, fun o ho => ?_, cell_below hb h.d, cell_below hb h.e0, cell_below hb h.e1⟩
  have h1 := h.t o ho
  rw [← h1]
  refine hb.cell (p := ⟨gT, o, none⟩) ?_
  have : ∃ v, w.cell? ⟨gT, o, none⟩ = some v := by
    rw [h1]
    exact ⟨_, List.getElem?_eq_getElem (by simpa using ho)⟩
  obtain ⟨v, hv⟩ := this
  exact World.block_lt_of_cell? w _ hv
theorem PAt.drew {w : World} {p5 p7 p3 p10 gT cT gD cD gP cP a0 a1 : Nat} {A D : Value} (h : PAt w p5 p7 p3 p10 gT cT gD cD gP cP a0 a1 A D) : PAt w.drew p5 p7 p3 p10 gT cT gD cD gP cP a0 a1 A D := ⟨h.v, h.s, h.n, h.o, h.t, h.d, h.e0, h.e1⟩
theorem PAt.set {w : World} {p5 p7 p3 p10 gT cT gD cD gP cP a0 a1 b o : Nat} {A D v : Value} (h : PAt w p5 p7 p3 p10 gT cT gD cD gP cP a0 a1 A D) (hb : p5 < b ∧ p7 < b ∧ p3 < b ∧ p10 < b ∧ gT < b ∧ gD < b ∧ gP < b) : PAt (w.setCell ⟨b, o, none⟩ v) p5 p7 p3 p10 gT cT gD cD gP cP a0 a1 A D := by
  have hc : ∀ (x i : Nat), x < b → (w.setCell ⟨b, o, none⟩ v).cell? ⟨x, i, none⟩ = w.cell? ⟨x, i, none⟩ := fun x i hx =>
    World.cell?_of_block (a := ⟨x, i, none⟩) (Below.heap_setCell _ _ _ _ (show x ≠ b by omega))
  exact ⟨h.v.far (by simp; omega) _, h.s.far (by simp; omega) _, h.n.far (by simp; omega) _, h.o.far (by simp; omega) _, fun i hi => by rw [hc _ _ (by omega)]; exact h.t i hi, by rw [hc _ _ (by omega)]; exact h.d, by rw [hc _ _ (by omega)]; exact h.e0, by rw [hc _ _ (by omega)]; exact h.e1⟩
set_option maxRecDepth 100000 in
set_option maxHeartbeats 1600000 in
theorem point_six (ga p5 p7 p3 p10 gT cT gD cD gP cP a0 a1 : Nat) (A D : Value) (w : World) (h : PAt w p5 p7 p3 p10 gT cT gD cD gP cP a0 a1 A D) (hne : p3 ≠ p10) :
    Calls Tryz.prog 157 #[.slice (some ⟨ga, 0, none⟩) 0 0, .pointer (some ⟨p5, 0, none⟩), .pointer (some ⟨p7, 0, none⟩), .pointer (some ⟨p3, 0, none⟩), .pointer (some ⟨p10, 0, none⟩)] w fun e w' =>
      e = .returned (.tuple #[]) ∧ ∃ gR cR, Hid (Blk w' p10 [.slice (some ⟨gR, 0, none⟩) 1 cR] 22) ∧ Hid (w'.cell? ⟨gR, 0, none⟩ = some (.int .i64 6)) ∧ Hid (w.heap.size ≤ gR) ∧ Hid (KeepB p10 w.heap.size w w') := by
  obtain ⟨w0, hw0, hb0, hk0⟩ : ∃ w0, w.alloc (.cells #[.int .i64 0, .int .i64 0, .int .i64 0] 218) = w0 ∧ Below w.heap.size w w0 ∧ Blk w0 w.heap.size [.int .i64 0, .int .i64 0, .int .i64 0] 218 := ⟨_, rfl, (Below.refl _ _).alloc (Nat.le_refl _) _, heap_alloc_new w _⟩
  have HB0 := Lib.hid hb0
  have HK0 := Lib.hid hk0
  have HP0 := Lib.hid (h.below hb0)
  have HL := Lib.hid (show p5 < w.heap.size ∧ p7 < w.heap.size ∧ p3 < w.heap.size ∧ p10 < w.heap.size ∧ gT < w.heap.size ∧ gD < w.heap.size ∧ gP < w.heap.size from ⟨h.v.lt, h.s.lt, h.n.lt, h.o.lt, World.block_lt_of_cell? w _ (show w.cell? ⟨gT, 0, none⟩ = some (.slice none 0 0) from h.t 0 (by omega)), World.block_lt_of_cell? w _ h.d, World.block_lt_of_cell? w _ h.e0⟩)
  have HZ := Lib.hid (show w0.heap.size = w.heap.size + 1 by rw [← hw0, World.size_alloc])
  have q5 := HP0.out.v.cell
  have t0 := HP0.out.t 0 (by omega)
  have t1 := HP0.out.t 1 (by omega)
  simp only [List.getElem?_cons_zero, List.getElem?_cons_succ] at t0 t1
  clear hb0 hk0 h
  go_enter Tryz.func157, Tryz.ntmps157
  go_wp2
  refine wp_loop_rounds 3 ?_
  rw [rounds_succ]
  go_upto_region 4 with fail
  clear q5 t0 t1 hw0
  obtain ⟨wa, hwa⟩ : ∃ wa, wa = w0.alloc (.cells #[.slice none 0 0, .slice (some ⟨gD, 0, none⟩) 1 cD] 68) := ⟨_, rfl⟩
  have hba : Below w0.heap.size w0 wa := by rw [hwa]; exact (Below.refl _ _).alloc (Nat.le_refl _) _
  have HTa := Lib.hid (show Blk wa w0.heap.size [.slice none 0 0, .slice (some ⟨gD, 0, none⟩) 1 cD] 68 by rw [hwa]; exact news_blk w0 _ _)
  have HPa := Lib.hid (HP0.out.below hba)
  have HKa := Lib.hid (HK0.out.below hba)
  have HBa := Lib.hid (HB0.out.trans (hba.mono HB0.out.size))
  rw [← hwa]
  clear hwa hba
  have HWS := Lib.hid (show w.heap.size < w0.heap.size from by have := HB0.out.size; have := HK0.out.lt; omega)
  have HSa := Lib.hid (show (∀ o, wa.cell? ⟨w0.heap.size, o, none⟩ = ([.slice none 0 0, .slice (some ⟨gD, 0, none⟩) 1 cD] : List Value)[o]?) ∧ (∀ o, wa.cell? ⟨p7, o, none⟩ = ([.slice (some ⟨gP, 0, none⟩) 2 cP] : List Value)[o]?) ∧ wa.cell? ⟨gP, 0, none⟩ = some (.slice (some ⟨a0, 0, none⟩) 0 0) ∧ wa.cell? ⟨gD, 0, none⟩ = some (.int .i64 3) from ⟨HTa.out.cell, HPa.out.s.cell, HPa.out.e0, HPa.out.d⟩)
  have HSb := Lib.hid (show (∀ o, (wa.setCell ⟨w.heap.size, 0, none⟩ (.int .i64 3)).cell? ⟨w0.heap.size, o, none⟩ = ([.slice none 0 0, .slice (some ⟨gD, 0, none⟩) 1 cD] : List Value)[o]?) ∧ (∀ o, (wa.setCell ⟨w.heap.size, 0, none⟩ (.int .i64 3)).cell? ⟨p7, o, none⟩ = ([.slice (some ⟨gP, 0, none⟩) 2 cP] : List Value)[o]?) ∧ (wa.setCell ⟨w.heap.size, 0, none⟩ (.int .i64 3)).cell? ⟨gP, 0, none⟩ = some (.slice (some ⟨a0, 0, none⟩) 0 0) ∧ (wa.setCell ⟨w.heap.size, 0, none⟩ (.int .i64 3)).cell? ⟨gD, 0, none⟩ = some (.int .i64 3) from ⟨(HTa.out.far (p := ⟨w.heap.size, 0, none⟩) (by have := HWS.out; simp; omega) (.int .i64 3)).cell, (HPa.out.set (o := 0) (v := .int .i64 3) HL.out).s.cell, (HPa.out.set (o := 0) (v := .int .i64 3) HL.out).e0, (HPa.out.set (o := 0) (v := .int .i64 3) HL.out).d⟩)
  have ka := HKa.out.cell
  have fa := HKa.out.frozen
  go_region_held3 (fun wy : World => (∀ o, wy.cell? ⟨w0.heap.size, o, none⟩ = ([.slice none 0 0, .slice (some ⟨gD, 0, none⟩) 1 cD] : List Value)[o]?) ∧ (∀ o, wy.cell? ⟨p7, o, none⟩ = ([.slice (some ⟨gP, 0, none⟩) 2 cP] : List Value)[o]?) ∧ wy.cell? ⟨gP, 0, none⟩ = some (.slice (some ⟨a0, 0, none⟩) 0 0) ∧ wy.cell? ⟨gD, 0, none⟩ = some (.int .i64 3)) (first | exact HSa.out | exact HSb.out) (first | (go_at_call 154; refine (dot_none _ _ _ _ _).mono ?_; rintro e wy ⟨rfl, hwy⟩; subst wy; dsimp only))
  obtain ⟨wb, hwb⟩ : ∃ wb, wb = (wa.setCell ⟨w.heap.size, 0, none⟩ (.int .i64 3)).drew := ⟨_, rfl⟩
  have HP0b := Lib.hid (show PAt wb p5 p7 p3 p10 gT cT gD cD gP cP a0 a1 A D by rw [hwb]; exact (HPa.out.set (o := 0) (v := .int .i64 3) HL.out).drew)
  have HK0b := Lib.hid (show Blk wb w.heap.size [.int .i64 3, .int .i64 0, .int .i64 0] 218 by rw [hwb]; exact (HKa.out.set 0 (.int .i64 3)).drew)
  have HB0b := Lib.hid (show Below w.heap.size w wb by rw [hwb]; exact (HBa.out.setCell (Nat.le_refl _) _).drew)
  rw [← hwb]
  clear hwb HTa HPa HKa HBa HWS HSa HSb ka fa
  have t0 := HP0b.out.t 2 (by omega)
  have t1 := HP0b.out.t 3 (by omega)
  simp only [List.getElem?_cons_zero, List.getElem?_cons_succ] at t0 t1
  have q5 := HP0b.out.v.cell
  go_wp2
  rw [rounds_succ]
  go_upto_region 4 with fail
  clear q5 t0 t1
  obtain ⟨wc, hwa⟩ : ∃ wc, wc = wb.alloc (.cells #[.slice none 0 0, .slice (some ⟨gD, 0, none⟩) 1 cD] 68) := ⟨_, rfl⟩
  have hba : Below wb.heap.size wb wc := by rw [hwa]; exact (Below.refl _ _).alloc (Nat.le_refl _) _
  have HTa := Lib.hid (show Blk wc wb.heap.size [.slice none 0 0, .slice (some ⟨gD, 0, none⟩) 1 cD] 68 by rw [hwa]; exact news_blk wb _ _)
  have HPa := Lib.hid (HP0b.out.below hba)
  have HKa := Lib.hid (HK0b.out.below hba)
  have HBa := Lib.hid (HB0b.out.trans (hba.mono HB0b.out.size))
  rw [← hwa]
  clear hwa hba
  have HWS := Lib.hid (show w.heap.size < wb.heap.size from by have := HB0b.out.size; have := HK0b.out.lt; omega)
  have HSa := Lib.hid (show (∀ o, wc.cell? ⟨wb.heap.size, o, none⟩ = ([.slice none 0 0, .slice (some ⟨gD, 0, none⟩) 1 cD] : List Value)[o]?) ∧ (∀ o, wc.cell? ⟨p7, o, none⟩ = ([.slice (some ⟨gP, 0, none⟩) 2 cP] : List Value)[o]?) ∧ wc.cell? ⟨gP, 1, none⟩ = some (.slice (some ⟨a1, 0, none⟩) 0 0) ∧ wc.cell? ⟨gD, 0, none⟩ = some (.int .i64 3) from ⟨HTa.out.cell, HPa.out.s.cell, HPa.out.e1, HPa.out.d⟩)
  have HSb := Lib.hid (show (∀ o, (wc.setCell ⟨w.heap.size, 1, none⟩ (.int .i64 3)).cell? ⟨wb.heap.size, o, none⟩ = ([.slice none 0 0, .slice (some ⟨gD, 0, none⟩) 1 cD] : List Value)[o]?) ∧ (∀ o, (wc.setCell ⟨w.heap.size, 1, none⟩ (.int .i64 3)).cell? ⟨p7, o, none⟩ = ([.slice (some ⟨gP, 0, none⟩) 2 cP] : List Value)[o]?) ∧ (wc.setCell ⟨w.heap.size, 1, none⟩ (.int .i64 3)).cell? ⟨gP, 1, none⟩ = some (.slice (some ⟨a1, 0, none⟩) 0 0) ∧ (wc.setCell ⟨w.heap.size, 1, none⟩ (.int .i64 3)).cell? ⟨gD, 0, none⟩ = some (.int .i64 3) from ⟨(HTa.out.far (p := ⟨w.heap.size, 1, none⟩) (by have := HWS.out; simp; omega) (.int .i64 3)).cell, (HPa.out.set (o := 1) (v := .int .i64 3) HL.out).s.cell, (HPa.out.set (o := 1) (v := .int .i64 3) HL.out).e1, (HPa.out.set (o := 1) (v := .int .i64 3) HL.out).d⟩)
  have ka := HKa.out.cell
  have fa := HKa.out.frozen
  go_region_held3 (fun wy : World => (∀ o, wy.cell? ⟨wb.heap.size, o, none⟩ = ([.slice none 0 0, .slice (some ⟨gD, 0, none⟩) 1 cD] : List Value)[o]?) ∧ (∀ o, wy.cell? ⟨p7, o, none⟩ = ([.slice (some ⟨gP, 0, none⟩) 2 cP] : List Value)[o]?) ∧ wy.cell? ⟨gP, 1, none⟩ = some (.slice (some ⟨a1, 0, none⟩) 0 0) ∧ wy.cell? ⟨gD, 0, none⟩ = some (.int .i64 3)) (first | exact HSa.out | exact HSb.out) (first | (go_at_call 154; refine (dot_none _ _ _ _ _).mono ?_; rintro e wy ⟨rfl, hwy⟩; subst wy; dsimp only))
  obtain ⟨wd, hwb⟩ : ∃ wd, wd = (wc.setCell ⟨w.heap.size, 1, none⟩ (.int .i64 3)).drew := ⟨_, rfl⟩
  have HP1b := Lib.hid (show PAt wd p5 p7 p3 p10 gT cT gD cD gP cP a0 a1 A D by rw [hwb]; exact (HPa.out.set (o := 1) (v := .int .i64 3) HL.out).drew)
  have HK1b := Lib.hid (show Blk wd w.heap.size [.int .i64 3, .int .i64 3, .int .i64 0] 218 by rw [hwb]; exact (HKa.out.set 1 (.int .i64 3)).drew)
  have HB1b := Lib.hid (show Below w.heap.size w wd by rw [hwb]; exact (HBa.out.setCell (Nat.le_refl _) _).drew)
  rw [← hwb]
  clear hwb HTa HPa HKa HBa HWS HSa HSb ka fa
  have q3 := HP1b.out.n.cell
  simp only [nodeC] at q3
  go_wp2
  rw [rounds_succ]
  go_upto_region 8 with fail
  clear q3
  obtain ⟨i0, hi, hz0, hz1, hz2⟩ := info_parts info3
  have HSC := Lib.hid (fun c wx => scalar_add A D c wx)
  unfold nodeV at HSC
  have HSD := Lib.hid (show (∀ o, wd.cell? ⟨p3, o, none⟩ = ([.int .i64 4, A, .string ⟨#[]⟩, .slice none 0 0, .string ⟨#[]⟩, .slice none 0 0, .int .i64 0, .int .i64 0, .int .i64 0, .int .i64 0, D, .slice none 0 0] : List Value)[o]?) ∧ (∀ o, wd.cell? ⟨w.heap.size, o, none⟩ = ([.int .i64 3, .int .i64 3, .int .i64 0] : List Value)[o]?) from ⟨HP1b.out.n.cell, HK1b.out.cell⟩)
  have o1 := HP1b.out.o.cell
  refine wp_region_held_drew (S := fun wy : World => (∀ o, wy.cell? ⟨p3, o, none⟩ = ([.int .i64 4, A, .string ⟨#[]⟩, .slice none 0 0, .string ⟨#[]⟩, .slice none 0 0, .int .i64 0, .int .i64 0, .int .i64 0, .int .i64 0, D, .slice none 0 0] : List Value)[o]?) ∧ (∀ o, wy.cell? ⟨w.heap.size, o, none⟩ = ([.int .i64 3, .int .i64 3, .int .i64 0] : List Value)[o]?)) (by kernel_rfl) HSD.out (fun hHeld => ?_)
  refine wpAnyH_take (i := 1) (oi := { dst := some 42, op := Go.Op.load 57 (Go.Operand.tmp 3), type := 57, pos := "eval.go:77", after := #[], guard := none }) (v := ?_) rfl (by kernel_rfl) (by kernel_rfl) (by kernel_rfl) (fun _ _ _ h => h) (Or.inl ⟨by rfl, ?_⟩) (by assumption) ?_
  rotate_left
  · intro w hSw; (try dsimp only at hSw); go_simp; first | done | with_reducible rfl
  try simp only [Act.put, List.setIfInBounds_toArray, List.set_cons_zero, List.set_cons_succ]
  refine wpAnyH_take (i := 2) (oi := { dst := some 43, op := Go.Op.indexAddr 218 (Go.Operand.tmp 6) (Go.Operand.const (Go.Value.int Go.IntKind.i64 0)), type := 0, pos := "eval.go:77", after := #[], guard := none }) (v := ?_) rfl (by kernel_rfl) (by kernel_rfl) (by kernel_rfl) (fun _ _ _ h => h) (Or.inl ⟨by rfl, ?_⟩) (by assumption) ?_
  rotate_left
  · intro w hSw; (try dsimp only at hSw); go_simp; first | done | with_reducible rfl
  try simp only [Act.put, List.setIfInBounds_toArray, List.set_cons_zero, List.set_cons_succ]
  refine wpAnyH_take (i := 3) (oi := { dst := some 44, op := Go.Op.load 3 (Go.Operand.tmp 43), type := 3, pos := "eval.go:77", after := #[{ on := 2, ground := Go.Ground.data }], guard := none }) (v := ?_) rfl (by kernel_rfl) (by kernel_rfl) (by kernel_rfl) (fun _ _ _ h => h) (Or.inl ⟨by rfl, ?_⟩) (by assumption) ?_
  rotate_left
  · intro w hSw; (try dsimp only at hSw); go_simp; first | done | with_reducible rfl
  try simp only [Act.put, List.setIfInBounds_toArray, List.set_cons_zero, List.set_cons_succ]
  refine wpAnyH_take (i := 4) (oi := { dst := some 45, op := Go.Op.indexAddr 218 (Go.Operand.tmp 6) (Go.Operand.const (Go.Value.int Go.IntKind.i64 1)), type := 0, pos := "eval.go:77", after := #[], guard := none }) (v := ?_) rfl (by kernel_rfl) (by kernel_rfl) (by kernel_rfl) (fun _ _ _ h => h) (Or.inl ⟨by rfl, ?_⟩) (by assumption) ?_
  rotate_left
  · intro w hSw; (try dsimp only at hSw); go_simp; first | done | with_reducible rfl
  try simp only [Act.put, List.setIfInBounds_toArray, List.set_cons_zero, List.set_cons_succ]
  refine wpAnyH_take (i := 5) (oi := { dst := some 46, op := Go.Op.load 3 (Go.Operand.tmp 45), type := 3, pos := "eval.go:77", after := #[{ on := 4, ground := Go.Ground.data }], guard := none }) (v := ?_) rfl (by kernel_rfl) (by kernel_rfl) (by kernel_rfl) (fun _ _ _ h => h) (Or.inl ⟨by rfl, ?_⟩) (by assumption) ?_
  rotate_left
  · intro w hSw; (try dsimp only at hSw); go_simp; first | done | with_reducible rfl
  try simp only [Act.put, List.setIfInBounds_toArray, List.set_cons_zero, List.set_cons_succ]
  refine wpAnyH_take (i := 6) (oi := { dst := some 47, op := Go.Op.indexAddr 218 (Go.Operand.tmp 6) (Go.Operand.const (Go.Value.int Go.IntKind.i64 2)), type := 0, pos := "eval.go:77", after := #[], guard := none }) (v := ?_) rfl (by kernel_rfl) (by kernel_rfl) (by kernel_rfl) (fun _ _ _ h => h) (Or.inl ⟨by rfl, ?_⟩) (by assumption) ?_
  rotate_left
  · intro w hSw; (try dsimp only at hSw); go_simp; first | done | with_reducible rfl
  try simp only [Act.put, List.setIfInBounds_toArray, List.set_cons_zero, List.set_cons_succ]
  refine wpAnyH_take (i := 7) (oi := { dst := some 48, op := Go.Op.load 3 (Go.Operand.tmp 47), type := 3, pos := "eval.go:77", after := #[{ on := 6, ground := Go.Ground.data }], guard := none }) (v := ?_) rfl (by kernel_rfl) (by kernel_rfl) (by kernel_rfl) (fun _ _ _ h => h) (Or.inl ⟨by rfl, ?_⟩) (by assumption) ?_
  rotate_left
  · intro w hSw; (try dsimp only at hSw); go_simp; first | done | with_reducible rfl
  try simp only [Act.put, List.setIfInBounds_toArray, List.set_cons_zero, List.set_cons_succ]
  refine wpAnyH_ready (rs := [0, 8]) (by kernel_rfl) (by simp) ?_
  refine AllReadyH.cons (o := { dst := some 41, op := Go.Op.load 22 (Go.Operand.tmp 4), type := 22, pos := "eval.go:77", after := #[], guard := none }) rfl (fun K hK => ?_) (AllReadyH.cons (o := { dst := some 49, op := Go.Op.call { callee := Go.Callee.value (Go.Operand.func 158), args := #[Go.Operand.tmp 42, Go.Operand.tmp 44, Go.Operand.tmp 46, Go.Operand.tmp 48], argTypes := #[57, 3, 3, 3] }, type := 3, pos := "eval.go:77", after := #[{ on := 1, ground := Go.Ground.data }, { on := 3, ground := Go.Ground.data }, { on := 5, ground := Go.Ground.data }, { on := 7, ground := Go.Ground.data }], guard := none }) rfl (fun K hK => ?_) AllReadyH.nil)
  · go_simp
    refine hK.out _ _ HSD.out (fun hHeld => ?_)
    clear hK K
    try simp only [Act.put, List.setIfInBounds_toArray, List.set_cons_zero, List.set_cons_succ]
    refine wpAnyH_ready (rs := [8]) (by kernel_rfl) (by simp) ?_
    refine AllReadyH.cons (o := { dst := some 49, op := Go.Op.call { callee := Go.Callee.value (Go.Operand.func 158), args := #[Go.Operand.tmp 42, Go.Operand.tmp 44, Go.Operand.tmp 46, Go.Operand.tmp 48], argTypes := #[57, 3, 3, 3] }, type := 3, pos := "eval.go:77", after := #[{ on := 1, ground := Go.Ground.data }, { on := 3, ground := Go.Ground.data }, { on := 5, ground := Go.Ground.data }, { on := 7, ground := Go.Ground.data }], guard := none }) rfl (fun K hK => ?_) AllReadyH.nil
    go_simp
    go_at_call 158
    refine (HSC.out _ wd.drew).mono ?_
    rintro e ws ⟨rfl, HBS'⟩
    have HBD := Lib.hid (show Below wd.heap.size wd ws from below_undrew HBS'.out)
    have HBS := Lib.hid (HB1b.out.trans (HBD.out.mono HB1b.out.size))
    have HPS := Lib.hid (HP1b.out.below HBD.out)
    have HKS := Lib.hid (HK1b.out.below HBD.out)
    have HSS := Lib.hid (show (∀ o, ws.cell? ⟨p3, o, none⟩ = ([.int .i64 4, A, .string ⟨#[]⟩, .slice none 0 0, .string ⟨#[]⟩, .slice none 0 0, .int .i64 0, .int .i64 0, .int .i64 0, .int .i64 0, D, .slice none 0 0] : List Value)[o]?) ∧ (∀ o, ws.cell? ⟨w.heap.size, o, none⟩ = ([.int .i64 3, .int .i64 3, .int .i64 0] : List Value)[o]?) from ⟨HPS.out.n.cell, HKS.out.cell⟩)
    have HSN := Lib.hid (show (∀ o, (ws.alloc (.cells #[.int .i64 6] 3)).cell? ⟨p3, o, none⟩ = ([.int .i64 4, A, .string ⟨#[]⟩, .slice none 0 0, .string ⟨#[]⟩, .slice none 0 0, .int .i64 0, .int .i64 0, .int .i64 0, .int .i64 0, D, .slice none 0 0] : List Value)[o]?) ∧ (∀ o, (ws.alloc (.cells #[.int .i64 6] 3)).cell? ⟨w.heap.size, o, none⟩ = ([.int .i64 3, .int .i64 3, .int .i64 0] : List Value)[o]?) from ⟨(HPS.out.n.alloc (.cells #[.int .i64 6] 3)).cell, (HKS.out.alloc (.cells #[.int .i64 6] 3)).cell⟩)
    have o2 := HPS.out.o.cell
    have o3 := (HPS.out.o.alloc (.cells #[.int .i64 6] 3)).cell
    dsimp only
    refine hK.out _ _ HSS.out (fun hHeld => ?_)
    clear hK K
    try simp only [Act.put, List.setIfInBounds_toArray, List.set_cons_zero, List.set_cons_succ]
    refine wpAnyH_ready (rs := [9]) (by kernel_rfl) (by simp) ?_
    refine AllReadyH.cons (o := { dst := some 50, op := Go.Op.buildSlice 22 1 #[(0, Go.Operand.tmp 49)], type := 22, pos := "eval.go:77", after := #[{ on := 8, ground := Go.Ground.data }], guard := none }) rfl (fun K hK => ?_) AllReadyH.nil
    go_simp
    refine hK.out _ _ HSN.out (fun hHeld => ?_)
    clear hK K
    try simp only [Act.put, List.setIfInBounds_toArray, List.set_cons_zero, List.set_cons_succ]
    refine wpAnyH_ready (rs := [10]) (by kernel_rfl) (by simp) ?_
    refine AllReadyH.cons (o := { dst := some 51, op := Go.Op.call { callee := Go.Callee.builtin Go.Builtin.append, args := #[Go.Operand.tmp 41, Go.Operand.tmp 50], argTypes := #[22, 22] }, type := 22, pos := "eval.go:77", after := #[{ on := 0, ground := Go.Ground.data }, { on := 9, ground := Go.Ground.data }, { on := 8, ground := Go.Ground.chain }], guard := none }) rfl (fun K hK => ?_) AllReadyH.nil
    refine step_append_lies _ (by rfl) _ _ _ (by rfl) w.heap.size 3 i0 (.int .i64 0) 1 8 Tryz.underlying22 hi hz0 hz1 hz2 rfl (by decide) (.slice none 0 0) 0 [] (by rfl) (World.ownsRow_nil _ _ _ _) ⟨ws.heap.size, 0, none⟩ 1 1 [.int .i64 6] (by rfl) (by rfl) (news1' _ _ _) (one_int _ _) Nat.one_pos (by unfold maxLen; omega) (by omega) (Nat.le_trans HBS.out.size (alloc_le _ _)) _ rfl ?_
    intro gR cR wR hown hgrow hat hlt
    have HOR := Lib.hid hown
    have HBR := Lib.hid (show Below ws.heap.size ws wR from ((Below.refl _ _).alloc (Nat.le_refl _) _).trans (Below.ofGrown hgrow (alloc_le _ _) (fun k e => by cases e)))
    have HPR := Lib.hid (HPS.out.below HBR.out)
    have HKR := Lib.hid (HKS.out.below HBR.out)
    have HSR := Lib.hid (show (∀ o, wR.cell? ⟨p3, o, none⟩ = ([.int .i64 4, A, .string ⟨#[]⟩, .slice none 0 0, .string ⟨#[]⟩, .slice none 0 0, .int .i64 0, .int .i64 0, .int .i64 0, .int .i64 0, D, .slice none 0 0] : List Value)[o]?) ∧ (∀ o, wR.cell? ⟨w.heap.size, o, none⟩ = ([.int .i64 3, .int .i64 3, .int .i64 0] : List Value)[o]?) from ⟨HPR.out.n.cell, HKR.out.cell⟩)
    have HST := Lib.hid (show (∀ o, (wR.setCell ⟨p10, 0, none⟩ (.slice (some ⟨gR, 0, none⟩) (0 + 1) cR)).cell? ⟨p3, o, none⟩ = ([.int .i64 4, A, .string ⟨#[]⟩, .slice none 0 0, .string ⟨#[]⟩, .slice none 0 0, .int .i64 0, .int .i64 0, .int .i64 0, .int .i64 0, D, .slice none 0 0] : List Value)[o]?) ∧ (∀ o, (wR.setCell ⟨p10, 0, none⟩ (.slice (some ⟨gR, 0, none⟩) (0 + 1) cR)).cell? ⟨w.heap.size, o, none⟩ = ([.int .i64 3, .int .i64 3, .int .i64 0] : List Value)[o]?) from ⟨(HPR.out.n.far (p := ⟨p10, 0, none⟩) (by simpa using hne) (.slice (some ⟨gR, 0, none⟩) (0 + 1) cR)).cell, (HKR.out.far (p := ⟨p10, 0, none⟩) (by have := HL.out; simp; omega) (.slice (some ⟨gR, 0, none⟩) (0 + 1) cR)).cell⟩)
    have oR := HPR.out.o.cell
    have fR := HPR.out.o.frozen
    clear hown hgrow hat hlt
    refine hK.out _ _ HSR.out (fun hHeld => ?_)
    clear hK K
    try simp only [Act.put, List.setIfInBounds_toArray, List.set_cons_zero, List.set_cons_succ]
    refine wpAnyH_ready (rs := [11]) (by kernel_rfl) (by simp) ?_
    refine AllReadyH.cons (o := { dst := none, op := Go.Op.store 22 (Go.Operand.tmp 4) (Go.Operand.tmp 51), type := 0, pos := "eval.go:77", after := #[{ on := 10, ground := Go.Ground.data }, { on := 10, ground := Go.Ground.chain }, { on := 0, ground := Go.Ground.phase }, { on := 1, ground := Go.Ground.phase }, { on := 2, ground := Go.Ground.phase }, { on := 3, ground := Go.Ground.phase }, { on := 4, ground := Go.Ground.phase }, { on := 5, ground := Go.Ground.phase }, { on := 6, ground := Go.Ground.phase }, { on := 7, ground := Go.Ground.phase }, { on := 8, ground := Go.Ground.phase }, { on := 9, ground := Go.Ground.phase }, { on := 10, ground := Go.Ground.phase }], guard := none }) rfl (fun K hK => ?_) AllReadyH.nil
    go_simp
    refine hK.out _ _ HST.out (fun hHeld => ?_)
    clear hK K
    try simp only [Act.put, List.setIfInBounds_toArray, List.set_cons_zero, List.set_cons_succ]
    refine wpAnyH_done (by kernel_rfl) ?_ _
    go_end0
    obtain ⟨g, hg, -, -, hs⟩ := row_at HOR.out (by omega)
    have hgb : w.heap.size ≤ gR := ownsRow_base HOR.out gR rfl
    injection hg with hg
    injection hg with hg
    subst hg
    refine ⟨rfl, gR, cR, Lib.hid (HPR.out.o.set 0 (.slice (some ⟨gR, 0, none⟩) 1 cR)), Lib.hid ?_, Lib.hid hgb, Lib.hid ((KeepB.of_below (HBS.out.trans (HBR.out.mono HBS.out.size))).setD 0 _)⟩
    rw [World.cell?_of_block (a := ⟨gR, 0, none⟩) (Below.heap_setCell _ _ _ _ (show gR ≠ p10 by have := HL.out; omega))]
    exact hs 0 (by omega)
  · go_simp
    go_at_call 158
    refine (HSC.out _ wd.drew).mono ?_
    rintro e ws ⟨rfl, HBS'⟩
    have HBD := Lib.hid (show Below wd.heap.size wd ws from below_undrew HBS'.out)
    have HBS := Lib.hid (HB1b.out.trans (HBD.out.mono HB1b.out.size))
    have HPS := Lib.hid (HP1b.out.below HBD.out)
    have HKS := Lib.hid (HK1b.out.below HBD.out)
    have HSS := Lib.hid (show (∀ o, ws.cell? ⟨p3, o, none⟩ = ([.int .i64 4, A, .string ⟨#[]⟩, .slice none 0 0, .string ⟨#[]⟩, .slice none 0 0, .int .i64 0, .int .i64 0, .int .i64 0, .int .i64 0, D, .slice none 0 0] : List Value)[o]?) ∧ (∀ o, ws.cell? ⟨w.heap.size, o, none⟩ = ([.int .i64 3, .int .i64 3, .int .i64 0] : List Value)[o]?) from ⟨HPS.out.n.cell, HKS.out.cell⟩)
    have HSN := Lib.hid (show (∀ o, (ws.alloc (.cells #[.int .i64 6] 3)).cell? ⟨p3, o, none⟩ = ([.int .i64 4, A, .string ⟨#[]⟩, .slice none 0 0, .string ⟨#[]⟩, .slice none 0 0, .int .i64 0, .int .i64 0, .int .i64 0, .int .i64 0, D, .slice none 0 0] : List Value)[o]?) ∧ (∀ o, (ws.alloc (.cells #[.int .i64 6] 3)).cell? ⟨w.heap.size, o, none⟩ = ([.int .i64 3, .int .i64 3, .int .i64 0] : List Value)[o]?) from ⟨(HPS.out.n.alloc (.cells #[.int .i64 6] 3)).cell, (HKS.out.alloc (.cells #[.int .i64 6] 3)).cell⟩)
    have o2 := HPS.out.o.cell
    have o3 := (HPS.out.o.alloc (.cells #[.int .i64 6] 3)).cell
    dsimp only
    refine hK.out _ _ HSS.out (fun hHeld => ?_)
    clear hK K
    try simp only [Act.put, List.setIfInBounds_toArray, List.set_cons_zero, List.set_cons_succ]
    refine wpAnyH_ready (rs := [0, 9]) (by kernel_rfl) (by simp) ?_
    refine AllReadyH.cons (o := { dst := some 41, op := Go.Op.load 22 (Go.Operand.tmp 4), type := 22, pos := "eval.go:77", after := #[], guard := none }) rfl (fun K hK => ?_) (AllReadyH.cons (o := { dst := some 50, op := Go.Op.buildSlice 22 1 #[(0, Go.Operand.tmp 49)], type := 22, pos := "eval.go:77", after := #[{ on := 8, ground := Go.Ground.data }], guard := none }) rfl (fun K hK => ?_) AllReadyH.nil)
    · go_simp
      refine hK.out _ _ HSS.out (fun hHeld => ?_)
      clear hK K
      try simp only [Act.put, List.setIfInBounds_toArray, List.set_cons_zero, List.set_cons_succ]
      refine wpAnyH_ready (rs := [9]) (by kernel_rfl) (by simp) ?_
      refine AllReadyH.cons (o := { dst := some 50, op := Go.Op.buildSlice 22 1 #[(0, Go.Operand.tmp 49)], type := 22, pos := "eval.go:77", after := #[{ on := 8, ground := Go.Ground.data }], guard := none }) rfl (fun K hK => ?_) AllReadyH.nil
      go_simp
      refine hK.out _ _ HSN.out (fun hHeld => ?_)
      clear hK K
      try simp only [Act.put, List.setIfInBounds_toArray, List.set_cons_zero, List.set_cons_succ]
      refine wpAnyH_ready (rs := [10]) (by kernel_rfl) (by simp) ?_
      refine AllReadyH.cons (o := { dst := some 51, op := Go.Op.call { callee := Go.Callee.builtin Go.Builtin.append, args := #[Go.Operand.tmp 41, Go.Operand.tmp 50], argTypes := #[22, 22] }, type := 22, pos := "eval.go:77", after := #[{ on := 0, ground := Go.Ground.data }, { on := 9, ground := Go.Ground.data }, { on := 8, ground := Go.Ground.chain }], guard := none }) rfl (fun K hK => ?_) AllReadyH.nil
      refine step_append_lies _ (by rfl) _ _ _ (by rfl) w.heap.size 3 i0 (.int .i64 0) 1 8 Tryz.underlying22 hi hz0 hz1 hz2 rfl (by decide) (.slice none 0 0) 0 [] (by rfl) (World.ownsRow_nil _ _ _ _) ⟨ws.heap.size, 0, none⟩ 1 1 [.int .i64 6] (by rfl) (by rfl) (news1' _ _ _) (one_int _ _) Nat.one_pos (by unfold maxLen; omega) (by omega) (Nat.le_trans HBS.out.size (alloc_le _ _)) _ rfl ?_
      intro gR cR wR hown hgrow hat hlt
      have HOR := Lib.hid hown
      have HBR := Lib.hid (show Below ws.heap.size ws wR from ((Below.refl _ _).alloc (Nat.le_refl _) _).trans (Below.ofGrown hgrow (alloc_le _ _) (fun k e => by cases e)))
      have HPR := Lib.hid (HPS.out.below HBR.out)
      have HKR := Lib.hid (HKS.out.below HBR.out)
      have HSR := Lib.hid (show (∀ o, wR.cell? ⟨p3, o, none⟩ = ([.int .i64 4, A, .string ⟨#[]⟩, .slice none 0 0, .string ⟨#[]⟩, .slice none 0 0, .int .i64 0, .int .i64 0, .int .i64 0, .int .i64 0, D, .slice none 0 0] : List Value)[o]?) ∧ (∀ o, wR.cell? ⟨w.heap.size, o, none⟩ = ([.int .i64 3, .int .i64 3, .int .i64 0] : List Value)[o]?) from ⟨HPR.out.n.cell, HKR.out.cell⟩)
      have HST := Lib.hid (show (∀ o, (wR.setCell ⟨p10, 0, none⟩ (.slice (some ⟨gR, 0, none⟩) (0 + 1) cR)).cell? ⟨p3, o, none⟩ = ([.int .i64 4, A, .string ⟨#[]⟩, .slice none 0 0, .string ⟨#[]⟩, .slice none 0 0, .int .i64 0, .int .i64 0, .int .i64 0, .int .i64 0, D, .slice none 0 0] : List Value)[o]?) ∧ (∀ o, (wR.setCell ⟨p10, 0, none⟩ (.slice (some ⟨gR, 0, none⟩) (0 + 1) cR)).cell? ⟨w.heap.size, o, none⟩ = ([.int .i64 3, .int .i64 3, .int .i64 0] : List Value)[o]?) from ⟨(HPR.out.n.far (p := ⟨p10, 0, none⟩) (by simpa using hne) (.slice (some ⟨gR, 0, none⟩) (0 + 1) cR)).cell, (HKR.out.far (p := ⟨p10, 0, none⟩) (by have := HL.out; simp; omega) (.slice (some ⟨gR, 0, none⟩) (0 + 1) cR)).cell⟩)
      have oR := HPR.out.o.cell
      have fR := HPR.out.o.frozen
      clear hown hgrow hat hlt
      refine hK.out _ _ HSR.out (fun hHeld => ?_)
      clear hK K
      try simp only [Act.put, List.setIfInBounds_toArray, List.set_cons_zero, List.set_cons_succ]
      refine wpAnyH_ready (rs := [11]) (by kernel_rfl) (by simp) ?_
      refine AllReadyH.cons (o := { dst := none, op := Go.Op.store 22 (Go.Operand.tmp 4) (Go.Operand.tmp 51), type := 0, pos := "eval.go:77", after := #[{ on := 10, ground := Go.Ground.data }, { on := 10, ground := Go.Ground.chain }, { on := 0, ground := Go.Ground.phase }, { on := 1, ground := Go.Ground.phase }, { on := 2, ground := Go.Ground.phase }, { on := 3, ground := Go.Ground.phase }, { on := 4, ground := Go.Ground.phase }, { on := 5, ground := Go.Ground.phase }, { on := 6, ground := Go.Ground.phase }, { on := 7, ground := Go.Ground.phase }, { on := 8, ground := Go.Ground.phase }, { on := 9, ground := Go.Ground.phase }, { on := 10, ground := Go.Ground.phase }], guard := none }) rfl (fun K hK => ?_) AllReadyH.nil
      go_simp
      refine hK.out _ _ HST.out (fun hHeld => ?_)
      clear hK K
      try simp only [Act.put, List.setIfInBounds_toArray, List.set_cons_zero, List.set_cons_succ]
      refine wpAnyH_done (by kernel_rfl) ?_ _
      go_end0
      obtain ⟨g, hg, -, -, hs⟩ := row_at HOR.out (by omega)
      have hgb : w.heap.size ≤ gR := ownsRow_base HOR.out gR rfl
      injection hg with hg
      injection hg with hg
      subst hg
      refine ⟨rfl, gR, cR, Lib.hid (HPR.out.o.set 0 (.slice (some ⟨gR, 0, none⟩) 1 cR)), Lib.hid ?_, Lib.hid hgb, Lib.hid ((KeepB.of_below (HBS.out.trans (HBR.out.mono HBS.out.size))).setD 0 _)⟩
      rw [World.cell?_of_block (a := ⟨gR, 0, none⟩) (Below.heap_setCell _ _ _ _ (show gR ≠ p10 by have := HL.out; omega))]
      exact hs 0 (by omega)
    · go_simp
      refine hK.out _ _ HSN.out (fun hHeld => ?_)
      clear hK K
      try simp only [Act.put, List.setIfInBounds_toArray, List.set_cons_zero, List.set_cons_succ]
      refine wpAnyH_ready (rs := [0]) (by kernel_rfl) (by simp) ?_
      refine AllReadyH.cons (o := { dst := some 41, op := Go.Op.load 22 (Go.Operand.tmp 4), type := 22, pos := "eval.go:77", after := #[], guard := none }) rfl (fun K hK => ?_) AllReadyH.nil
      go_simp
      refine hK.out _ _ HSN.out (fun hHeld => ?_)
      clear hK K
      try simp only [Act.put, List.setIfInBounds_toArray, List.set_cons_zero, List.set_cons_succ]
      refine wpAnyH_ready (rs := [10]) (by kernel_rfl) (by simp) ?_
      refine AllReadyH.cons (o := { dst := some 51, op := Go.Op.call { callee := Go.Callee.builtin Go.Builtin.append, args := #[Go.Operand.tmp 41, Go.Operand.tmp 50], argTypes := #[22, 22] }, type := 22, pos := "eval.go:77", after := #[{ on := 0, ground := Go.Ground.data }, { on := 9, ground := Go.Ground.data }, { on := 8, ground := Go.Ground.chain }], guard := none }) rfl (fun K hK => ?_) AllReadyH.nil
      refine step_append_lies _ (by rfl) _ _ _ (by rfl) w.heap.size 3 i0 (.int .i64 0) 1 8 Tryz.underlying22 hi hz0 hz1 hz2 rfl (by decide) (.slice none 0 0) 0 [] (by rfl) (World.ownsRow_nil _ _ _ _) ⟨ws.heap.size, 0, none⟩ 1 1 [.int .i64 6] (by rfl) (by rfl) (news1' _ _ _) (one_int _ _) Nat.one_pos (by unfold maxLen; omega) (by omega) (Nat.le_trans HBS.out.size (alloc_le _ _)) _ rfl ?_
      intro gR cR wR hown hgrow hat hlt
      have HOR := Lib.hid hown
      have HBR := Lib.hid (show Below ws.heap.size ws wR from ((Below.refl _ _).alloc (Nat.le_refl _) _).trans (Below.ofGrown hgrow (alloc_le _ _) (fun k e => by cases e)))
      have HPR := Lib.hid (HPS.out.below HBR.out)
      have HKR := Lib.hid (HKS.out.below HBR.out)
      have HSR := Lib.hid (show (∀ o, wR.cell? ⟨p3, o, none⟩ = ([.int .i64 4, A, .string ⟨#[]⟩, .slice none 0 0, .string ⟨#[]⟩, .slice none 0 0, .int .i64 0, .int .i64 0, .int .i64 0, .int .i64 0, D, .slice none 0 0] : List Value)[o]?) ∧ (∀ o, wR.cell? ⟨w.heap.size, o, none⟩ = ([.int .i64 3, .int .i64 3, .int .i64 0] : List Value)[o]?) from ⟨HPR.out.n.cell, HKR.out.cell⟩)
      have HST := Lib.hid (show (∀ o, (wR.setCell ⟨p10, 0, none⟩ (.slice (some ⟨gR, 0, none⟩) (0 + 1) cR)).cell? ⟨p3, o, none⟩ = ([.int .i64 4, A, .string ⟨#[]⟩, .slice none 0 0, .string ⟨#[]⟩, .slice none 0 0, .int .i64 0, .int .i64 0, .int .i64 0, .int .i64 0, D, .slice none 0 0] : List Value)[o]?) ∧ (∀ o, (wR.setCell ⟨p10, 0, none⟩ (.slice (some ⟨gR, 0, none⟩) (0 + 1) cR)).cell? ⟨w.heap.size, o, none⟩ = ([.int .i64 3, .int .i64 3, .int .i64 0] : List Value)[o]?) from ⟨(HPR.out.n.far (p := ⟨p10, 0, none⟩) (by simpa using hne) (.slice (some ⟨gR, 0, none⟩) (0 + 1) cR)).cell, (HKR.out.far (p := ⟨p10, 0, none⟩) (by have := HL.out; simp; omega) (.slice (some ⟨gR, 0, none⟩) (0 + 1) cR)).cell⟩)
      have oR := HPR.out.o.cell
      have fR := HPR.out.o.frozen
      clear hown hgrow hat hlt
      refine hK.out _ _ HSR.out (fun hHeld => ?_)
      clear hK K
      try simp only [Act.put, List.setIfInBounds_toArray, List.set_cons_zero, List.set_cons_succ]
      refine wpAnyH_ready (rs := [11]) (by kernel_rfl) (by simp) ?_
      refine AllReadyH.cons (o := { dst := none, op := Go.Op.store 22 (Go.Operand.tmp 4) (Go.Operand.tmp 51), type := 0, pos := "eval.go:77", after := #[{ on := 10, ground := Go.Ground.data }, { on := 10, ground := Go.Ground.chain }, { on := 0, ground := Go.Ground.phase }, { on := 1, ground := Go.Ground.phase }, { on := 2, ground := Go.Ground.phase }, { on := 3, ground := Go.Ground.phase }, { on := 4, ground := Go.Ground.phase }, { on := 5, ground := Go.Ground.phase }, { on := 6, ground := Go.Ground.phase }, { on := 7, ground := Go.Ground.phase }, { on := 8, ground := Go.Ground.phase }, { on := 9, ground := Go.Ground.phase }, { on := 10, ground := Go.Ground.phase }], guard := none }) rfl (fun K hK => ?_) AllReadyH.nil
      go_simp
      refine hK.out _ _ HST.out (fun hHeld => ?_)
      clear hK K
      try simp only [Act.put, List.setIfInBounds_toArray, List.set_cons_zero, List.set_cons_succ]
      refine wpAnyH_done (by kernel_rfl) ?_ _
      go_end0
      obtain ⟨g, hg, -, -, hs⟩ := row_at HOR.out (by omega)
      have hgb : w.heap.size ≤ gR := ownsRow_base HOR.out gR rfl
      injection hg with hg
      injection hg with hg
      subst hg
      refine ⟨rfl, gR, cR, Lib.hid (HPR.out.o.set 0 (.slice (some ⟨gR, 0, none⟩) 1 cR)), Lib.hid ?_, Lib.hid hgb, Lib.hid ((KeepB.of_below (HBS.out.trans (HBR.out.mono HBS.out.size))).setD 0 _)⟩
      rw [World.cell?_of_block (a := ⟨gR, 0, none⟩) (Below.heap_setCell _ _ _ _ (show gR ≠ p10 by have := HL.out; omega))]
      exact hs 0 (by omega)
end Go.Proofs.YtdbhlkejfecffaaGreatDoor
