/-
  New: the walk.
-/
import Derived.Test.YtllpoaoboieijaaGreatSa14
import Derived.Test.YtllpoaoboieijaaGreatSa23
import Derived.Test.YtllpoaoboieijaaGreatSa27
/-
  New: the walk.
-/
namespace Go.Proofs.YtllpoaoboieijaaGreat
open Go.RowKit

def Cnf.ok (c : Cnf) : Bool := withinB c.pages 1 64 && withinB c.size 1 8 && withinB c.batch 1 16 && withinB c.queue 1 32
theorem serveWithin (x lo hi : Int) (b : Bool) (hb : withinB x lo hi = b) (w : World) : Calls Tryz.prog 28 #[.int .i64 x, .int .i64 lo, .int .i64 hi] w fun e w' => e = .returned (.bool b) ∧ w' = w := hb ▸ within_any x lo hi w

set_option maxRecDepth 100000 in
set_option maxHeartbeats 3200000 in
theorem new_bad (p : MPl) (cf : Cnf) (hc : cf.ok = false) (w : World) (h : DemoAt w p) : Calls Tryz.prog 7 #[.agg (demoCells p).toArray, cf.val] w fun e w' => e = .returned (.tuple #[.pointer none, .int .i64 9]) ∧ Hid (Below w.heap.size w w') := by
  have hcase : withinB cf.pages 1 64 = false ∨ withinB cf.pages 1 64 = true ∧ withinB cf.size 1 8 = false ∨ withinB cf.pages 1 64 = true ∧ withinB cf.size 1 8 = true ∧ withinB cf.batch 1 16 = false ∨ withinB cf.pages 1 64 = true ∧ withinB cf.size 1 8 = true ∧ withinB cf.batch 1 16 = true ∧ withinB cf.queue 1 32 = false := by
    unfold Cnf.ok at hc
    generalize withinB cf.pages 1 64 = a at hc ⊢
    generalize withinB cf.size 1 8 = b at hc ⊢
    generalize withinB cf.batch 1 16 = c at hc ⊢
    generalize withinB cf.queue 1 32 = d at hc ⊢
    revert hc
    revert a b c d
    decide
  obtain ⟨wb, hwb, hbel, hblk⟩ : ∃ wb, w.alloc (.cells (demoCells p).toArray 27) = wb ∧ Below w.heap.size w wb ∧ Blk wb w.heap.size (demoCells p) 27 := ⟨_, rfl, (Below.refl _ _).alloc (Nat.le_refl _) _, heap_alloc_new w _⟩
  obtain ⟨wc, hwc, hbel2, hblk2⟩ : ∃ wc, wb.alloc (.cells #[.int .i64 cf.pages, .int .i64 cf.size, .int .i64 cf.batch, .int .i64 cf.queue] 30) = wc ∧ Below wb.heap.size wb wc ∧ Blk wc wb.heap.size [.int .i64 cf.pages, .int .i64 cf.size, .int .i64 cf.batch, .int .i64 cf.queue] 30 := ⟨_, rfl, (Below.refl _ _).alloc (Nat.le_refl _) _, heap_alloc_new wb _⟩
  have HQ2 := Lib.hid (fun (wx : World) (hb : Below wc.heap.size wc wx) => (hblk2.below hb).cell)
  have q0 := (hblk.below hbel2).cell
  have HB := Lib.hid (hbel.trans (hbel2.mono hbel.size))
  have HY := Lib.hid (vocab_any p wc ((h.below hbel).below hbel2))
  clear hbel hblk h hbel2 hblk2
  simp only [demoCells] at q0 HY hwb ⊢
  unfold Cnf.val
  rcases hcase with h1 | ⟨h1, h2⟩ | ⟨h1, h2, h3⟩ | ⟨h1, h2, h3, h4⟩
  · have H1 := Lib.hid h1
    clear h1
    go_enter Tryz.func7, Tryz.ntmps7
    go_wp2_with (first | (go_at_call 27; refine HY.out.mono ?_; rintro e w1 ⟨rfl, hb1⟩; have HB1 := Lib.hid hb1; clear hb1; have r1 := HQ2.out _ HB1.out) | (go_at_call 28; refine (within_any _ _ _ _).mono ?_; rintro e wz ⟨rfl, hz⟩; subst wz; rw [H1.out]))
    go_ret2
    exact ⟨rfl, Lib.hid (HB.out.trans (HB1.out.mono HB.out.size))⟩
  · have H1 := Lib.hid h1
    have H2 := Lib.hid h2
    clear h1 h2
    go_enter Tryz.func7, Tryz.ntmps7
    go_wp2_with (first | (go_at_call 27; refine HY.out.mono ?_; rintro e w1 ⟨rfl, hb1⟩; have HB1 := Lib.hid hb1; clear hb1; have r1 := HQ2.out _ HB1.out) | (go_at_call 28; refine (within_any _ _ _ _).mono ?_; rintro e wz ⟨rfl, hz⟩; subst wz; first | rw [H1.out] | rw [H2.out]))
    go_ret2
    exact ⟨rfl, Lib.hid (HB.out.trans (HB1.out.mono HB.out.size))⟩
  · have H1 := Lib.hid h1
    have H2 := Lib.hid h2
    have H3 := Lib.hid h3
    clear h1 h2 h3
    go_enter Tryz.func7, Tryz.ntmps7
    go_wp2_with (first | (go_at_call 27; refine HY.out.mono ?_; rintro e w1 ⟨rfl, hb1⟩; have HB1 := Lib.hid hb1; clear hb1; have r1 := HQ2.out _ HB1.out) | (go_at_call 28; refine (within_any _ _ _ _).mono ?_; rintro e wz ⟨rfl, hz⟩; subst wz; first | rw [H1.out] | rw [H2.out] | rw [H3.out]))
    go_ret2
    exact ⟨rfl, Lib.hid (HB.out.trans (HB1.out.mono HB.out.size))⟩
  · have H1 := Lib.hid h1
    have H2 := Lib.hid h2
    have H3 := Lib.hid h3
    have H4 := Lib.hid h4
    clear h1 h2 h3 h4
    go_enter Tryz.func7, Tryz.ntmps7
    go_wp2_with (first | (go_at_call 27; refine HY.out.mono ?_; rintro e w1 ⟨rfl, hb1⟩; have HB1 := Lib.hid hb1; clear hb1; have r1 := HQ2.out _ HB1.out) | (go_at_call 28; refine (within_any _ _ _ _).mono ?_; rintro e wz ⟨rfl, hz⟩; subst wz; first | rw [H1.out] | rw [H2.out] | rw [H3.out] | rw [H4.out]))
    go_ret2
    exact ⟨rfl, Lib.hid (HB.out.trans (HB1.out.mono HB.out.size))⟩

theorem make_map (W : World) : Sem.run Tryz.prog (Instr.makeMap 67 none) W = .ok (.map (some W.heap.size)) (W.alloc (.map #[] 0)) := by
  rfl
theorem info106 : (Tryz.prog.info? 106).map (fun i => (i.zero, i.size, i.bytes)) = some (some (.agg #[.int .i64 0, .slice none 0 0, .int .i64 0, .int .i64 0]), 4, 48) := by kernel_rfl
theorem make_pages (n : Int) (hn : 0 ≤ n ∧ n ≤ 64) (W : World) : Sem.run Tryz.prog (Instr.makeSlice 68 (.int .i64 n) (.int .i64 n)) W = .ok (.slice (some ⟨W.heap.size, 0, none⟩) n.toNat n.toNat) (W.alloc (.cells (pgsCells (List.replicate n.toNat Pg.zero) (fun _ => .slice none 0 0)).toArray 106)) := by
  obtain ⟨i0, hi, hz0, hz1, hz2⟩ := info_parts info106
  have h := run_makeSlice (P := Tryz.prog) W 68 106 i0 _ Tryz.underlying68 hi hz0 .i64 .i64 n n (by omega) (by omega) (by rw [hz1]; omega) (by rw [hz2]; omega) (by omega)
  have e : madeCells (Value.agg #[.int .i64 0, .slice none 0 0, .int .i64 0, .int .i64 0]).cells (n.toNat * i0.size) = (pgsCells (List.replicate n.toNat Pg.zero) (fun _ => .slice none 0 0)).toArray := by
    rw [hz1]
    apply Array.ext
    · rw [size_madeCells, List.size_toArray, pgsCells_length, List.length_replicate]; omega
    · intro j h1 h2
      have hj : j < 4 * n.toNat := by
        rw [size_madeCells] at h1; omega
      have h3 := pgsCells_get (List.replicate n.toNat Pg.zero) (fun _ => .slice none 0 0) (j / 4) (j % 4) (by omega)
      rw [show j / 4 * 4 + j % 4 = j by omega] at h3
      have hjl : j < (pgsCells (List.replicate n.toNat Pg.zero) (fun _ => .slice none 0 0)).length := by rw [pgsCells_length, List.length_replicate]; exact hj
      rw [List.getElem?_eq_getElem hjl] at h3
      have h4 : (List.replicate n.toNat Pg.zero)[j / 4]? = some Pg.zero := by rw [List.getElem?_replicate, if_pos (by omega)]
      rw [h4] at h3
      simp only [Option.bind_some] at h3
      have h5 : (pgCells Pg.zero (.slice none 0 0))[j % 4]? = some ((pgCells Pg.zero (.slice none 0 0))[j % 4]'(by show j % 4 < 4; omega)) := List.getElem?_eq_getElem _
      rw [h5] at h3
      have h6 := Option.some.inj h3
      simp only [List.getElem_toArray]
      rw [h6]
      have : j % 4 = 0 ∨ j % 4 = 1 ∨ j % 4 = 2 ∨ j % 4 = 3 := by omega
      simp only [madeCells, Array.getElem_map, Array.getElem_range]
      rcases this with h | h | h | h <;> simp [h, pgCells, Pg.zero, Value.cells]
  rw [e] at h
  exact h
def toM (P : Nat → Pl) : MPl := ⟨P 0, P 1, P 2, P 3, P 4, P 5, P 6⟩
theorem toM_ith (P : Nat → Pl) : ∀ i, i < 7 → dPl (toM P) i = P i := seven rfl rfl rfl rfl rfl rfl rfl
theorem toM_dPl (p : MPl) : toM (dPl p) = p := rfl
theorem DemoAt.ofIth {w : World} {P : Nat → Pl} (h : ∀ i, i < 7 → RdAt w (P i).b (P i).o (P i).c (dLs i)) : DemoAt w (toM P) :=
  ⟨h 0 (by omega), h 1 (by omega), h 2 (by omega), h 3 (by omega), h 4 (by omega), h 5 (by omega), h 6 (by omega)⟩
theorem toM_set (P : Nat → Pl) (q : Pl) : ∀ i, i < 7 → (demoCells (toM P)).set (4 + i) (.slice (some ⟨q.b, q.o, none⟩) (dLen i) q.c) = demoCells (toM (Pl.ins P i q)) :=
  seven rfl rfl rfl rfl rfl rfl rfl

def srv0Cells (P : Nat → Pl) (cf : Cnf) (mb pb : Nat) (logv : Value) (syn : Int) : List Value := [.int .i64 1, .int .i64 8, .int .i64 4, .int .i64 8, .slice (some ⟨(P 0).b, (P 0).o, none⟩) 4 (P 0).c, .slice (some ⟨(P 1).b, (P 1).o, none⟩) 32 (P 1).c, .slice (some ⟨(P 2).b, (P 2).o, none⟩) 16 (P 2).c, .slice (some ⟨(P 3).b, (P 3).o, none⟩) 48 (P 3).c, .slice (some ⟨(P 4).b, (P 4).o, none⟩) 32 (P 4).c, .slice (some ⟨(P 5).b, (P 5).o, none⟩) 7 (P 5).c, .slice (some ⟨(P 6).b, (P 6).o, none⟩) 6 (P 6).c, .int .i64 cf.pages, .int .i64 cf.size, .int .i64 cf.batch, .int .i64 cf.queue, .int .i64 8, .int .i64 0, .map (some mb), .slice (some ⟨pb, 0, none⟩) cf.pages.toNat cf.pages.toNat, logv, .int .i64 0, .int .i64 syn, .bool false]
/-- A server without requests. -/
def srv0 (cf : Cnf) : Srv := ⟨demoM, cf.pages, cf.size, cf.batch, cf.queue, 8, 0, [], List.replicate cf.pages.toNat Pg.zero, headB cf, 0, 28, false⟩
def mv0 (P : Nat → Pl) : MV := ⟨.slice (some ⟨(P 0).b, (P 0).o, none⟩) 4 (P 0).c, .slice (some ⟨(P 1).b, (P 1).o, none⟩) 32 (P 1).c, .slice (some ⟨(P 2).b, (P 2).o, none⟩) 16 (P 2).c, .slice (some ⟨(P 3).b, (P 3).o, none⟩) 48 (P 3).c, .slice (some ⟨(P 4).b, (P 4).o, none⟩) 32 (P 4).c, .slice (some ⟨(P 5).b, (P 5).o, none⟩) 7 (P 5).c, .slice (some ⟨(P 6).b, (P 6).o, none⟩) 6 (P 6).c⟩
def lay0 (P : Nat → Pl) (mb pb g5 c5 : Nat) : Lay := ⟨mv0 P, mb, fun _ => 0, 0, pb, fun _ => .slice none 0 0, .slice (some ⟨g5, 0, none⟩) 28 c5, fun _ => 0, fun _ => .slice none 0 0, fun _ => .slice none 0 0, fun _ => .slice none 0 0⟩
def newOwn (own : Nat → Lb) (N n2 n3 mb pb g5 : Nat) : Nat → Lb := fun b => if b < N then own b else if b = n3 + 1 + 1 then .srv else if b = mb then .mp else if b = pb then .pgs else if b = g5 then .log else if n2 ≤ b ∧ b < n3 then .mdl else .other
theorem RdAt.rdl {own : Nat → Lb} {lb : Lb} {w : World} {b o c n : Nat} {l : List Int} (h : RdAt w b o c l) (hn : l.length = n) (ho : own b = lb) : Rdl own lb w (.slice (some ⟨b, o, none⟩) n c) l := by
  subst hn
  refine ⟨⟨_, c, rfl, h.1, h.2.1, fun _ => ⟨b, o, rfl, fun i hi => ?_⟩⟩, fun _ k hk => ?_⟩
  · rw [h.2.2 i hi]; simp [List.getD, hi]
  · have : b = k := by simpa [Value.ownBlock] using hk
    rw [← this]; exact ho
theorem headB_len (cf : Cnf) : (headB cf).length = 28 := by rw [headB, List.length_append, headTo_len, lowL_length]
theorem srv0_at (own : Nat → Lb) (w w3 w4 w5 : World) (P : Nat → Pl) (cf : Cnf) (mb pb g5 c5 n2 : Nat) (hN : w.heap.size ≤ n2) (h23 : n2 ≤ w3.heap.size) (hP : ∀ i, i < 7 → n2 ≤ (P i).b) (hR : ∀ i, i < 7 → RdAt w3 (P i).b (P i).o (P i).c (dLs i))
    (hb3 : Below w.heap.size w w3) (hmb : mb = w3.heap.size ∧ pb = w3.heap.size + 1 ∨ mb = w3.heap.size + 1 ∧ pb = w3.heap.size) (hb4 : Below w3.heap.size w3 w4) (hmp : w4.heap[mb]? = some (.map #[] 0)) (hpg : Blk w4 pb (pgsCells (List.replicate cf.pages.toNat Pg.zero) (fun _ => .slice none 0 0)) 106)
    (hsr : Blk w4 (w3.heap.size + 1 + 1) (srv0Cells P cf mb pb (.slice none 0 0) 0) 70) (hb5 : Below w4.heap.size w4 w5) (hl5 : w5.ownsRow w4.heap.size 5 1 (.slice (some ⟨g5, 0, none⟩) 28 c5) 28 (bys (headB cf))) :
    let w7 := (w5.setCell ⟨w3.heap.size + 1 + 1, 19, none⟩ (.slice (some ⟨g5, 0, none⟩) 28 c5)).setCell ⟨w3.heap.size + 1 + 1, 21, none⟩ (.int .i64 28)
    SrvAt (newOwn own w.heap.size n2 w3.heap.size mb pb g5) w7 (w3.heap.size + 1 + 1) (lay0 P mb pb g5 c5) (srv0 cf) ∧ Ext own w (newOwn own w.heap.size n2 w3.heap.size mb pb g5) w7 (fun _ => False) := by
  intro w7
  have hsb4 := hsr.lt
  have hg5 : w4.heap.size ≤ g5 := ownsRow_base hl5 g5 rfl
  have hkp : Keep (w3.heap.size + 1 + 1) w5 w7 := ((Keep.of_below (Below.refl _ _)).setD _ _).setD _ _
  have hbel : Below w3.heap.size w3 w7 := hkp.below (hb4.trans (hb5.mono hb4.size)) (by omega)
  have hRL : ∀ i, i < 7 → (P i).b < w3.heap.size := fun i hi => (hR i hi).lt (by rw [dLs_len i hi]; exact (dLen_bnd i hi).1)
  have hlab : ∀ i, i < 7 → newOwn own w.heap.size n2 w3.heap.size mb pb g5 (P i).b = .mdl := fun i hi => by
    have h1 := hP i hi
    have h2 := hRL i hi
    unfold newOwn
    rw [if_neg (by omega), if_neg (by omega), if_neg (by omega), if_neg (by omega), if_neg (by omega), if_pos ⟨h1, h2⟩]
  have hrd : ∀ i, i < 7 → Rdl (newOwn own w.heap.size n2 w3.heap.size mb pb g5) .mdl w7 (.slice (some ⟨(P i).b, (P i).o, none⟩) (dLen i) (P i).c) (dLs i) := fun i hi => ((hR i hi).below hbel).rdl (dLs_len i hi) (hlab i hi)
  have hmbn : mb < w4.heap.size ∧ mb ≠ w3.heap.size + 1 + 1 ∧ w3.heap.size ≤ mb ∧ mb ≠ pb ∧ w3.heap.size ≤ pb ∧ pb ≠ w3.heap.size + 1 + 1 ∧ pb < w4.heap.size := by omega
  obtain ⟨m1, m2, m3, m4, m5, m6, m7⟩ := hmbn
  have hN3 := Nat.le_trans hN h23
  refine ⟨⟨?_, ?_, ⟨?_, ?_, ?_, ?_, ?_, ?_, ?_⟩, ?_, ?_, ?_, ?_, ?_, ?_, ?_, ?_, ?_, ?_⟩, ⟨?_, ?_, ?_, ?_, ?_, ?_⟩⟩
  · have := ((hsr.below hb5).set 19 (.slice (some ⟨g5, 0, none⟩) 28 c5)).set 21 (.int .i64 28)
    have e : srvCells (srv0 cf) (lay0 P mb pb g5 c5) = ((srv0Cells P cf mb pb (.slice none 0 0) 0).set 19 (.slice (some ⟨g5, 0, none⟩) 28 c5)).set 21 (.int .i64 28) := by
      simp only [srvCells, srv0, lay0, srv0Cells, mv0, demoM, List.length_replicate, List.set_cons_succ, List.set_cons_zero]
    rw [e]; exact this
  · unfold newOwn; rw [if_neg (by omega), if_pos rfl]
  · exact hrd 0 (by omega)
  · exact hrd 1 (by omega)
  · exact hrd 2 (by omega)
  · exact hrd 3 (by omega)
  · exact hrd 4 (by omega)
  · exact hrd 5 (by omega)
  · exact hrd 6 (by omega)
  · show w7.heap[mb]? = _
    rw [hkp.block mb (Nat.lt_of_lt_of_le m1 hb5.size) m2, hb5.block mb m1, hmp]; rfl
  · show newOwn own w.heap.size n2 w3.heap.size mb pb g5 mb = _
    unfold newOwn; rw [if_neg (by omega), if_neg m2, if_pos rfl]
  · show Blk w7 pb (pgsCells (List.replicate cf.pages.toNat Pg.zero) (fun _ => .slice none 0 0)) 106
    exact hkp.blk (hpg.below hb5) m6
  · show newOwn own w.heap.size n2 w3.heap.size mb pb g5 pb = _
    unfold newOwn; rw [if_neg (by omega), if_neg m6, if_neg (Ne.symm m4), if_pos rfl]
  · intro k q hq
    have : q = Pg.zero := by
      have := List.mem_of_getElem? hq
      exact List.eq_of_mem_replicate this
    subst this
    exact Owns.nil _ _ _ _ _
  · show Owns _ .log w7 5 1 (.slice (some ⟨g5, 0, none⟩) 28 c5) (headB cf).length _
    rw [headB_len]
    refine ⟨ownsRow_mono (?_ : w7.ownsRow w4.heap.size 5 1 _ 28 _) (Nat.zero_le _), fun q hq => ?_⟩
    · refine ⟨hl5.1, ?_⟩
      rcases hl5.2 with h | ⟨g, cap, cur, hv, a3, a4, a5⟩
      · exact .inl h
      · refine .inr ⟨g, cap, cur, hv, a3, ?_, a5⟩
        rw [hkp.block g (lt_of_heap a4) (by omega)]; exact a4
    · have : g5 = q := by simpa [Value.ownBlock] using hq
      subst this
      unfold newOwn; rw [if_neg (by omega), if_neg (by omega), if_neg (by omega), if_neg (by omega), if_pos rfl]
  · intro r hr; cases hr
  · exact List.nodup_nil
  · exact List.nodup_nil
  · intro i hi; cases hi
  · exact hbel.os.trans hb3.os
  · exact hbel.tape.trans hb3.tape
  · exact hbel.output.trans hb3.output
  · exact Nat.le_trans hb3.size hbel.size
  · intro b hb; unfold newOwn; rw [if_pos hb]
  · intro b hb _
    exact (hbel.block b (by omega)).trans (hb3.block b hb)
/-- What New answers. -/
def NewGot (own : Nat → Lb) (cf : Cnf) (w : World) (e : Ending) (w' : World) : Prop := ∃ sb own' L, e = .returned (.tuple #[.pointer (some ⟨sb, 0, none⟩), .int .i64 0]) ∧ SrvAt own' w' sb L (srv0 cf) ∧ w.heap.size ≤ sb ∧ Ext own w own' w' (fun _ => False)
set_option maxRecDepth 100000 in
set_option maxHeartbeats 6400000 in
theorem new_ok (own : Nat → Lb) (p : MPl) (cf : Cnf) (hc : cf.ok = true) (w : World) (h : DemoAt w p) : Calls Tryz.prog 7 #[.agg (demoCells p).toArray, cf.val] w fun e w' => NewGot own cf w e w' := by
  have hcase : withinB cf.pages 1 64 = true ∧ withinB cf.size 1 8 = true ∧ withinB cf.batch 1 16 = true ∧ withinB cf.queue 1 32 = true := by
    simpa [Cnf.ok, Bool.and_eq_true, and_assoc] using hc
  obtain ⟨wb, hwb, hbel, hblk⟩ : ∃ wb, w.alloc (.cells (demoCells p).toArray 27) = wb ∧ Below w.heap.size w wb ∧ Blk wb w.heap.size (demoCells p) 27 := ⟨_, rfl, (Below.refl _ _).alloc (Nat.le_refl _) _, heap_alloc_new w _⟩
  obtain ⟨wc, hwc, hbel2, hblk2⟩ : ∃ wc, wb.alloc (.cells #[.int .i64 cf.pages, .int .i64 cf.size, .int .i64 cf.batch, .int .i64 cf.queue] 30) = wc ∧ Below wb.heap.size wb wc ∧ Blk wc wb.heap.size [.int .i64 cf.pages, .int .i64 cf.size, .int .i64 cf.batch, .int .i64 cf.queue] 30 := ⟨_, rfl, (Below.refl _ _).alloc (Nat.le_refl _) _, heap_alloc_new wb _⟩
  have HK1 := Lib.hid (hblk.below hbel2)
  have HK2 := Lib.hid hblk2
  have HQ2 := Lib.hid (fun (wx : World) (hb : Below wc.heap.size wc wx) => (hblk2.below hb).cell)
  have q0 := (hblk.below hbel2).cell
  have HB := Lib.hid (hbel.trans (hbel2.mono hbel.size))
  have HD := Lib.hid ((h.below hbel).below hbel2)
  have HY := Lib.hid (vocab_any p wc ((h.below hbel).below hbel2))
  have HSZ := Lib.hid (show wb.heap.size = w.heap.size + 1 ∧ wc.heap.size = w.heap.size + 2 from ⟨by rw [← hwb]; simp only [World.size_alloc], by rw [← hwc, ← hwb]; simp only [World.size_alloc]⟩)
  have HLD := Lib.hid (fun i (hi : i < 7) => (show (dPl p i).b < w.heap.size from (h.ith i hi).lt (by rw [dLs_len i hi]; exact (dLen_bnd i hi).1)))
  clear hbel hblk h hbel2 hblk2
  simp only [demoCells] at q0 HY hwb ⊢
  unfold Cnf.val
  obtain ⟨h1, h2, h3, h4⟩ := hcase
  have H1 := Lib.hid h1
  have H2 := Lib.hid h2
  have H3 := Lib.hid h3
  have H4 := Lib.hid h4
  clear h1 h2 h3 h4
  go_enter Tryz.func7, Tryz.ntmps7
  go_upto_region 6 with (first | (go_at_call 27; refine HY.out.mono ?_; rintro e w1 ⟨rfl, hb1⟩; have HB1 := Lib.hid hb1; clear hb1; have r1 := HQ2.out _ HB1.out) | (go_at_call 28; refine (within_any _ _ _ _).mono ?_; rintro e wz ⟨rfl, hz⟩; subst wz; first | rw [H1.out] | rw [H2.out] | rw [H3.out] | rw [H4.out]))
  have hb1 : Below w.heap.size w w1 := HB.out.trans (HB1.out.mono HB.out.size)
  have hsz1 : w.heap.size + 2 ≤ w1.heap.size := by have := HB1.out.size; have := HSZ.out; omega
  obtain ⟨w2, hw2, hb2, hk2⟩ : ∃ w2, w1.alloc (.cells #[.pointer (some ⟨w.heap.size, 4, none⟩), .pointer (some ⟨w.heap.size, 5, none⟩), .pointer (some ⟨w.heap.size, 6, none⟩), .pointer (some ⟨w.heap.size, 7, none⟩), .pointer (some ⟨w.heap.size, 8, none⟩), .pointer (some ⟨w.heap.size, 9, none⟩), .pointer (some ⟨w.heap.size, 10, none⟩)] 64) = w2 ∧ Below w1.heap.size w1 w2 ∧
      Blk w2 w1.heap.size [.pointer (some ⟨w.heap.size, 4, none⟩), .pointer (some ⟨w.heap.size, 5, none⟩), .pointer (some ⟨w.heap.size, 6, none⟩), .pointer (some ⟨w.heap.size, 7, none⟩), .pointer (some ⟨w.heap.size, 8, none⟩), .pointer (some ⟨w.heap.size, 9, none⟩), .pointer (some ⟨w.heap.size, 10, none⟩)] 64 := ⟨_, rfl, (Below.refl _ _).alloc (Nat.le_refl _) _, heap_alloc_new w1 _⟩
  have HKP := Lib.hid hk2
  have HBX2 := Lib.hid ((HK1.out.below HB1.out).below hb2)
  have HBC2 := Lib.hid ((HK2.out.below HB1.out).below hb2)
  have HD2 := Lib.hid ((HD.out.below HB1.out).below hb2)
  have HB2 := Lib.hid (hb1.trans (hb2.mono (by omega)))
  generalize hg2 : w1.heap.size = g2 at HKP hsz1 hb2
  have HG2 := Lib.hid (And.intro hsz1 (show g2 < w2.heap.size from HKP.out.lt))
  clear hb1 hb2 hk2 q0 r1
  go_wp2
  clear hw2 hwb hwc
  go_loopg [52] 7 (fun gk s52 wx => ∃ (k : Nat) (P : Nat → Pl), s52 = .int .i64 k ∧ k ≤ 7 ∧ Hid (Keep w.heap.size w2 wx) ∧ Hid (Blk wx w.heap.size (demoCells (toM P)) 27) ∧ Hid (∀ i, i < 7 → RdAt wx (P i).b (P i).o (P i).c (dLs i)) ∧ Hid (∀ i, i < 7 → (P i).b ≠ w.heap.size ∧ (i < k → w2.heap.size ≤ (P i).b)) ∧ gk = 7 - k)
  case atStart => exact ⟨0, dPl p, rfl, by omega, Lib.hid (Keep.of_below (Below.refl _ _)), HBX2, Lib.hid HD2.out.ith, Lib.hid (fun i hi => ⟨by have := HLD.out i hi; omega, fun h => absurd h (by omega)⟩), rfl⟩
  case round =>
    obtain ⟨k, P, rfl, hk, HKr, HBr, HRr, HPr, rfl⟩ := hrel
    by_cases hlt : k < 7
    · have hpt : (([Value.pointer (some ⟨w.heap.size, 4, none⟩), .pointer (some ⟨w.heap.size, 5, none⟩), .pointer (some ⟨w.heap.size, 6, none⟩), .pointer (some ⟨w.heap.size, 7, none⟩), .pointer (some ⟨w.heap.size, 8, none⟩), .pointer (some ⟨w.heap.size, 9, none⟩), .pointer (some ⟨w.heap.size, 10, none⟩)] : List Value)[k]? = some (.pointer (some ⟨w.heap.size, 4 + k, none⟩))) :=
        seven (P := fun k => ([Value.pointer (some ⟨w.heap.size, 4, none⟩), .pointer (some ⟨w.heap.size, 5, none⟩), .pointer (some ⟨w.heap.size, 6, none⟩), .pointer (some ⟨w.heap.size, 7, none⟩), .pointer (some ⟨w.heap.size, 8, none⟩), .pointer (some ⟨w.heap.size, 9, none⟩), .pointer (some ⟨w.heap.size, 10, none⟩)] : List Value)[k]? = some (.pointer (some ⟨w.heap.size, 4 + k, none⟩))) rfl rfl rfl rfl rfl rfl rfl k hlt
      have c1 : wr.cell? ⟨g2, k, none⟩ = some (.pointer (some ⟨w.heap.size, 4 + k, none⟩)) := by
        rw [((HKr.out.blk HKP.out (by have := HG2.out.1; omega))).cell]; exact hpt
      have c2 : wr.cell? ⟨w.heap.size, 4 + k, none⟩ = some (.slice (some ⟨(P k).b, (P k).o, none⟩) (dLen k) (P k).c) := by
        rw [HBr.out.cell, demoCells_ith (toM P) k hlt, toM_ith P k hlt]
      have hlen := dLs_len k hlt
      have hbnd := dLen_bnd k hlt
      have HCL := Lib.hid (clone_blk (dLs k) _ _ _ (dLen k) hlen.symm wr (HRr.out k hlt) (by omega) (by omega))
      have HLN := Lib.hid hlen
      clear hpt hlen hbnd
      go_wp2_with (go_at_call 29; refine HCL.out.mono ?_; rintro e w4 ⟨g4, c4, rest4, rfl, HB4, HK4⟩; have hbx4 := HBr.out.below HB4.out; have f5 := hbx4.frozen; have HBX4 := Lib.hid hbx4; clear hbx4; have c6 : w4.cell? ⟨w.heap.size, 4 + k, none⟩ = some (.slice (some ⟨(P k).b, (P k).o, none⟩) (dLen k) (P k).c) := (HBX4.out.cell _).trans (by rw [demoCells_ith (toM P) k hlt, toM_ith P k hlt]))
      go_roundg (7 - (k + 1))
      case measure => omega
      case rel =>
        have hgr : w.heap.size < g4 := by have := HK4.out.2.1; have := HBr.out.lt; omega
        have hg2r : w2.heap.size ≤ g4 := Nat.le_trans HKr.out.size HK4.out.2.1
        refine ⟨k + 1, Pl.ins P k ⟨g4, 0, c4⟩, by go_num, by omega, Lib.hid ?_, Lib.hid ?_, Lib.hid (fun i hi => ?_), Lib.hid (fun i hi => ?_), rfl⟩
        · exact (HKr.out.trans (Keep.of_below HB4.out)).setD _ _
        · have := HBX4.out.set (4 + k) (.slice (some ⟨g4, 0, none⟩) (dLen k) c4)
          rw [toM_set P ⟨g4, 0, c4⟩ k hlt] at this
          exact this
        · have hkp : Keep w.heap.size w4 (w4.setCell ⟨w.heap.size, 4 + k, none⟩ (.slice (some ⟨g4, 0, none⟩) (dLen k) c4)) := (Keep.of_below (Below.refl _ _)).setD _ _
          have h0 : 0 < (dLs i).length := by rw [dLs_len i hi]; exact (dLen_bnd i hi).1
          by_cases e : i = k
          · subst e
            simp only [Pl.ins, if_true]
            exact hkp.rd (HK4.out.1.rdat (by rw [HLN.out]; exact HK4.out.2.2.1) HK4.out.2.2.2) h0 (by omega)
          · simp only [Pl.ins, if_neg e]
            exact hkp.rd ((HRr.out i hi).below HB4.out) h0 (HPr.out i hi).1
        · by_cases e : i = k
          · subst e
            simp only [Pl.ins, if_true]
            exact ⟨by omega, fun _ => hg2r⟩
          · simp only [Pl.ins, if_neg e]
            exact ⟨(HPr.out i hi).1, fun hh => (HPr.out i hi).2 (by omega)⟩
    · have : k = 7 := by omega
      subst this
      obtain ⟨w3, rfl⟩ : ∃ w3, w3 = wr := ⟨_, rfl⟩
      have HBC3 := Lib.hid (HKr.out.blk HBC2.out (by have := HSZ.out; omega))
      have d0 := HBr.out.cell
      have d1 := HBC3.out.cell
      simp only [demoCells, toM] at d0
      have hnp : 0 ≤ cf.pages ∧ cf.pages ≤ 64 := by
        have := H1.out
        simp only [withinB, Bool.and_eq_true, decide_eq_true_eq] at this
        omega
      have hmk : ∀ W : World, Sem.run Tryz.prog (Instr.makeSlice 68 (.int .i64 cf.pages) (.int .i64 cf.pages)) W = .ok (.slice (some ⟨W.heap.size, 0, none⟩) cf.pages.toNat cf.pages.toNat) (W.alloc (.cells (pgsCells (List.replicate cf.pages.toNat Pg.zero) (fun _ => .slice none 0 0)).toArray 106)) := fun W => make_pages cf.pages hnp W
      have hmm : ∀ W : World, Sem.run Tryz.prog (Instr.makeMap 67 none) W = .ok (.map (some W.heap.size)) (W.alloc (.map #[] 0)) := fun W => make_map W
      have HS := Lib.hid (fun (wx : World) (hb : Below w3.heap.size w3 wx) => And.intro (show ∀ o, wx.cell? ⟨w.heap.size, o, none⟩ = ([Value.int .i64 1, .int .i64 8, .int .i64 4, .int .i64 8, .slice (some ⟨(P 0).b, (P 0).o, none⟩) 4 (P 0).c, .slice (some ⟨(P 1).b, (P 1).o, none⟩) 32 (P 1).c, .slice (some ⟨(P 2).b, (P 2).o, none⟩) 16 (P 2).c, .slice (some ⟨(P 3).b, (P 3).o, none⟩) 48 (P 3).c, .slice (some ⟨(P 4).b, (P 4).o, none⟩) 32 (P 4).c, .slice (some ⟨(P 5).b, (P 5).o, none⟩) 7 (P 5).c, .slice (some ⟨(P 6).b, (P 6).o, none⟩) 6 (P 6).c] : List Value)[o]? from (HBr.out.below hb).cell) (show ∀ o, wx.cell? ⟨wb.heap.size, o, none⟩ = ([Value.int .i64 cf.pages, .int .i64 cf.size, .int .i64 cf.batch, .int .i64 cf.queue] : List Value)[o]? from (HBC3.out.below hb).cell))
      clear d0 d1
      have HNP := Lib.hid hnp
      go_upto_region 11 with fail
      go_cut [10] (fun s10 wx => ∃ mb pb, s10 = .pointer (some ⟨w3.heap.size + 1 + 1, 0, none⟩) ∧ Hid (mb = w3.heap.size ∧ pb = w3.heap.size + 1 ∨ mb = w3.heap.size + 1 ∧ pb = w3.heap.size) ∧ Hid (Below w3.heap.size w3 wx) ∧ Hid (wx.heap[mb]? = some (.map #[] 0)) ∧ Hid (Blk wx pb (pgsCells (List.replicate cf.pages.toNat Pg.zero) (fun _ => .slice none 0 0)) 106) ∧ Hid (Blk wx (w3.heap.size + 1 + 1) (srv0Cells P cf mb pb (.slice none 0 0) 0) 70))
      case first =>
        go_region_held3 (fun wy : World => (∀ o, wy.cell? ⟨w.heap.size, o, none⟩ = ([Value.int .i64 1, .int .i64 8, .int .i64 4, .int .i64 8, .slice (some ⟨(P 0).b, (P 0).o, none⟩) 4 (P 0).c, .slice (some ⟨(P 1).b, (P 1).o, none⟩) 32 (P 1).c, .slice (some ⟨(P 2).b, (P 2).o, none⟩) 16 (P 2).c, .slice (some ⟨(P 3).b, (P 3).o, none⟩) 48 (P 3).c, .slice (some ⟨(P 4).b, (P 4).o, none⟩) 32 (P 4).c, .slice (some ⟨(P 5).b, (P 5).o, none⟩) 7 (P 5).c, .slice (some ⟨(P 6).b, (P 6).o, none⟩) 6 (P 6).c] : List Value)[o]?) ∧ (∀ o, wy.cell? ⟨wb.heap.size, o, none⟩ = ([Value.int .i64 cf.pages, .int .i64 cf.size, .int .i64 cf.batch, .int .i64 cf.queue] : List Value)[o]?)) (first | exact HS.out _ (Below.refl _ _).drew | exact HS.out _ ((Below.refl _ _).alloc (Nat.le_refl _) _).drew | exact HS.out _ (((Below.refl _ _).alloc (Nat.le_refl _) _).alloc (alloc_le _ _) _).drew | exact HS.out _ ((((Below.refl _ _).alloc (Nat.le_refl _) _).alloc (alloc_le _ _) _).alloc (Nat.le_trans (alloc_le _ _) (alloc_le _ _)) _).drew) (fail)
        · go_wp2_with fail
          go_meet
          refine ⟨w3.heap.size, w3.heap.size + 1, rfl, Lib.hid (.inl ⟨rfl, rfl⟩), Lib.hid ?_, Lib.hid ?_, Lib.hid ?_, Lib.hid ?_⟩
          · exact ((((Below.refl _ _).alloc (Nat.le_refl _) _).alloc (alloc_le _ _) _).alloc (Nat.le_trans (alloc_le _ _) (alloc_le _ _)) _).drew
          · have h1 := heap_alloc_new w3 (.map #[] 0)
            have h2 := Below.heap_alloc (w3.alloc (.map #[] 0)) (.cells (pgsCells (List.replicate cf.pages.toNat Pg.zero) fun x => Value.slice none 0 0).toArray 106) w3.heap.size (by rw [World.size_alloc]; omega)
            exact (Below.heap_alloc _ _ w3.heap.size (by rw [World.size_alloc, World.size_alloc]; omega)).trans (h2.trans h1)
          · have := (news_blk (w3.alloc (.map #[] 0)) (pgsCells (List.replicate cf.pages.toNat Pg.zero) fun x => Value.slice none 0 0) 106)
            rw [World.size_alloc] at this
            exact (this.alloc _).drew
          · have := (news_blk ((w3.alloc (.map #[] 0)).alloc (.cells (pgsCells (List.replicate cf.pages.toNat Pg.zero) fun x => Value.slice none 0 0).toArray 106)) (srv0Cells P cf w3.heap.size (w3.heap.size + 1) (.slice none 0 0) 0) 70)
            rw [World.size_alloc, World.size_alloc] at this
            exact this.drew
        · go_wp2_with fail
          go_meet
          refine ⟨w3.heap.size + 1, w3.heap.size, rfl, Lib.hid (.inr ⟨rfl, rfl⟩), Lib.hid ?_, Lib.hid ?_, Lib.hid ?_, Lib.hid ?_⟩
          · exact ((((Below.refl _ _).alloc (Nat.le_refl _) _).alloc (alloc_le _ _) _).alloc (Nat.le_trans (alloc_le _ _) (alloc_le _ _)) _).drew
          · have h1 := heap_alloc_new (w3.alloc (.cells (pgsCells (List.replicate cf.pages.toNat Pg.zero) fun x => Value.slice none 0 0).toArray 106)) (.map #[] 0)
            rw [World.size_alloc] at h1
            exact (Below.heap_alloc _ _ (w3.heap.size + 1) (by rw [World.size_alloc, World.size_alloc]; omega)).trans h1
          · exact (((news_blk w3 (pgsCells (List.replicate cf.pages.toNat Pg.zero) fun x => Value.slice none 0 0) 106).alloc _).alloc _).drew
          · have := (news_blk ((w3.alloc (.cells (pgsCells (List.replicate cf.pages.toNat Pg.zero) fun x => Value.slice none 0 0).toArray 106)).alloc (.map #[] 0)) (srv0Cells P cf (w3.heap.size + 1) w3.heap.size (.slice none 0 0) 0) 70)
            rw [World.size_alloc, World.size_alloc] at this
            exact this.drew
      case rest =>
        obtain ⟨mb, pb, rfl, HMB, HB4, HMP4, HPG4, HSR4⟩ := hcut
        obtain ⟨w4, rfl⟩ : ∃ w4, w4 = wc := ⟨_, rfl⟩
        obtain ⟨d0, d1⟩ := HS.out w4 HB4.out
        have HDP := Lib.hid ((DemoAt.ofIth HRr.out).below HB4.out)
        have HHD := Lib.hid (head_any (toM P) cf w4 HDP.out)
        simp only [demoCells, toM, Cnf.val] at HHD
        go_upto_region 14 with (go_at_call 30; refine HHD.out.mono ?_; rintro e w5 ⟨g5, c5, rfl, HB5, HL5⟩; have hs5 := HSR4.out.below HB5.out; have f5 := hs5.frozen; have e5 := hs5.cell; simp only [srv0Cells] at e5; have HS5 := Lib.hid hs5; clear hs5)
        have hfin := srv0_at own w w3 w4 w5 P cf mb pb g5 c5 w2.heap.size HB2.out.size HKr.out.size (fun i hi => (HPr.out i hi).2 hi) HRr.out (HKr.out.below HB2.out (Nat.le_refl _)) HMB.out HB4.out HMP4.out HPG4.out HSR4.out HB5.out (by rw [← headB_len cf] at *; exact HL5.out)
        have HF := Lib.hid hfin
        have HSB := Lib.hid (show w.heap.size ≤ w3.heap.size + 1 + 1 by have := HB2.out.size; have := HKr.out.size; omega)
        clear hfin e5 f5 d0 d1
        go_wp2
        go_ret2
        exact ⟨_, _, _, rfl, HF.out.1, HSB.out, HF.out.2⟩
end Go.Proofs.YtllpoaoboieijaaGreat
