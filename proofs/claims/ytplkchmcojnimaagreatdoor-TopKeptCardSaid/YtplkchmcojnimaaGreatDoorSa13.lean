/-
  models: parse, checked, FromBytes.
  models: FromBytes.
  models: Open.
  A map from numbers to slices of bytes.
  models: single: what is read.
-/
import Derived.Maps.OwnOps
import Derived.Test.YtplkchmcojnimaaGreatDoorSa5
import Derived.Test.YtplkchmcojnimaaGreatDoorSa9
import Derived.Test.YtplkchmcojnimaaGreatDoorSa10
import Derived.Test.YtplkchmcojnimaaGreatDoorSa11
import Derived.Test.YtplkchmcojnimaaGreatDoorSa12
/-
  models: parse, checked, FromBytes.
-/
namespace Go.Proofs.YtplkchmcojnimaaGreatDoor
open Go.RowKit

theorem run_load_model {w : World} {r : Nat} {m : MD} {p : MP} (h : Blk w r (mCells m p) 27) : (loadVar 27 ⟨r, 0, none⟩).run Tryz.prog w = .ok (.agg (mCells m p).toArray) w :=
  run_loadVar_row (P := Tryz.prog) w r 27 27 (mCells m p).toArray (0, 0) _ h Tryz.underlying27 rfl (by kernel_rfl)
theorem results_model {fn : Func} {a u : Tmp} (hf : fn.results = #[.cell a 27, .tmp u]) (tmps : Array Value) (w : World) (r : Nat) (m : MD) (p : MP) (hr : tmps.getD a undef = .pointer (some ⟨r, 0, none⟩)) (h : Blk w r (mCells m p) 27) :
    (results fn tmps).run Tryz.prog w = .ok (.tuple #[.agg (mCells m p).toArray, tmps.getD u undef]) w := by
  rw [results_cell_tmp hf, hr]
  simp only [asAddr, Sem.run_pure, Result.andThen_ok]
  rw [run_load_model h]
  rfl
theorem MNew.mono {base base' : Nat} {m : MD} {p : MP} (h : MNew base m p) (hb : base' ≤ base) : MNew base' m p := fun i hi g hg => Nat.le_trans hb (h i hi g hg)
set_option maxRecDepth 100000 in
set_option maxHeartbeats 1600000 in
theorem parse_any (m : MD) (hm : m.Ok) (A : Option Addr) (n c : Nat) (w : World) (h : RdV w (.slice A n c) (bys m.bytes)) :
    Calls Tryz.prog 35 #[.slice A n c] w fun e w' => ∃ p, e = .returned (.tuple #[.agg (mCells m p).toArray, .int .i64 0]) ∧ Hid (MAt w' m p ∧ MNew w.heap.size m p) ∧ Hid (Below w.heap.size w w') := by
  obtain ⟨w0, hw0, hb0, hk0⟩ : ∃ w0, w.alloc (.cells zero27.toArray 27) = w0 ∧ Below w.heap.size w w0 ∧ Blk w0 w.heap.size zero27 27 := ⟨_, rfl, (Below.refl _ _).alloc (Nat.le_refl _) _, heap_alloc_new w _⟩
  have HB0 := Lib.hid hb0
  have HK0 := Lib.hid hk0
  have HC := Lib.hid (codecRead_any m hm A n c w0 (h.below hb0))
  clear hb0 hk0 h hm
  simp only [zero27] at hw0
  go_enter Tryz.func35, Tryz.ntmps35
  go_wp2_with (go_at_call 60; refine HC.out.mono ?_; rintro e w1 ⟨p, rfl, HM1, HB1⟩; have HR1 := Lib.hid (HK0.out.below HB1.out); have q1 := HR1.out.cell; have r1 := HR1.out.frozen; simp only [zero27] at q1; simp only [mCells])
  have hlt := HK0.out.lt
  refine bodyPost_ret (results_model rfl _ _ w.heap.size m p rfl (set27 HR1.out rfl m p).1) rfl ?_
  exact ⟨p, rfl, Lib.hid ⟨set27_at HM1.out.1 HM1.out.2 hlt, HM1.out.2.mono (by omega)⟩, Lib.hid ((HB0.out.trans (HB1.out.mono (by omega))).trans (set27 HR1.out rfl m p).2.2.2)⟩
set_option maxRecDepth 100000 in
set_option maxHeartbeats 1600000 in
theorem checked_ok (m : MD) (p : MP) (hm : m.Ok) (w : World) (h : MAt w m p) :
    Calls Tryz.prog 36 #[.agg (mCells m p).toArray] w fun e w' => e = .returned (.tuple #[.agg (mCells m p).toArray, .int .i64 0]) ∧ Hid (Below w.heap.size w w') := by
  obtain ⟨w0, hw0, hb0, hk0, hk1⟩ : ∃ w0, (w.alloc (.cells (mCells m p).toArray 27)).alloc (.cells zero27.toArray 27) = w0 ∧ Below w.heap.size w w0 ∧ Blk w0 w.heap.size (mCells m p) 27 ∧ Blk w0 (w.heap.size + 1) zero27 27 := by
    refine ⟨_, rfl, ((Below.refl _ _).alloc (Nat.le_refl _) _).alloc (by simp only [World.size_alloc]; omega) _, (news_blk w (mCells m p) 27).alloc _, ?_⟩
    have := news_blk (w.alloc (.cells (mCells m p).toArray 27)) zero27 27
    simp only [World.size_alloc] at this
    exact this
  have HB0 := Lib.hid hb0
  have HK0 := Lib.hid hk0
  have HK1 := Lib.hid hk1
  have HC := Lib.hid (check_ok m p hm w0 (h.below hb0))
  have q0 := hk0.cell
  clear hb0 hk0 hk1 h hm
  simp only [zero27] at hw0
  simp only [mCells] at hw0 q0 HC ⊢
  go_enter Tryz.func36, Tryz.ntmps36
  go_wp2_with (go_at_call 24; refine HC.out.mono ?_; rintro e w1 ⟨rfl, HB1⟩; have HR0 := Lib.hid (HK0.out.below HB1.out); have HR1 := Lib.hid (HK1.out.below HB1.out); have q0 := HR0.out.cell; have q1 := HR1.out.cell; have r1 := HR1.out.frozen; simp only [zero27] at q1; simp only [mCells] at q0)
  have hlt := HK0.out.lt
  refine bodyPost_ret (results_model rfl _ _ (w.heap.size + 1) m p rfl (set27 HR1.out rfl m p).1) rfl ?_
  exact ⟨rfl, Lib.hid ((HB0.out.trans (HB1.out.mono (by omega))).trans ((set27 HR1.out rfl m p).2.2.2.mono (by omega)))⟩
end Go.Proofs.YtplkchmcojnimaaGreatDoor
/-
  models: FromBytes.
-/
namespace Go.Proofs.YtplkchmcojnimaaGreatDoor
open Go.RowKit

set_option maxRecDepth 100000 in
set_option maxHeartbeats 1600000 in
theorem fromBytes_any (m : MD) (hm : m.Ok) (A : Option Addr) (n c : Nat) (w : World) (h : RdV w (.slice A n c) (bys m.bytes)) :
    Calls Tryz.prog 42 #[.slice A n c] w fun e w' => ∃ p, e = .returned (.tuple #[.agg (mCells m p).toArray, .int .i64 0]) ∧ Hid (MAt w' m p ∧ MNew w.heap.size m p) ∧ Hid (Below w.heap.size w w') := by
  obtain ⟨w0, hw0, hb0, hk0⟩ : ∃ w0, w.alloc (.cells zero27.toArray 27) = w0 ∧ Below w.heap.size w w0 ∧ Blk w0 w.heap.size zero27 27 := ⟨_, rfl, (Below.refl _ _).alloc (Nat.le_refl _) _, heap_alloc_new w _⟩
  have HB0 := Lib.hid hb0
  have HK0 := Lib.hid hk0
  have HC := Lib.hid (parse_any m hm A n c w0 (h.below hb0))
  have HM := Lib.hid hm
  clear hb0 hk0 h hm
  simp only [zero27] at hw0
  go_enter Tryz.func42, Tryz.ntmps42
  go_upto_region 2 with (go_at_call 35; refine HC.out.mono ?_; rintro e w1 ⟨p, rfl, HM1, HB1⟩; have HR1 := Lib.hid (HK0.out.below HB1.out); simp only [mCells])
  obtain ⟨w2, hw2, hb2, hk2⟩ : ∃ w2, w1.alloc (.cells (mCells m p).toArray 27) = w2 ∧ Below w1.heap.size w1 w2 ∧ Blk w2 w1.heap.size (mCells m p) 27 := ⟨_, rfl, (Below.refl _ _).alloc (Nat.le_refl _) _, heap_alloc_new w1 _⟩
  have HB2 := Lib.hid hb2
  have HK2 := Lib.hid hk2
  have HR2 := Lib.hid (HR1.out.below hb2)
  have HM2 := Lib.hid (HM1.out.1.below hb2)
  have HC2 := Lib.hid (checked_ok m p HM.out w2 HM2.out)
  have q2 := hk2.cell
  clear hb2 hk2
  simp only [mCells] at hw2 q2 HC2
  go_wp2_with (go_at_call 36; refine HC2.out.mono ?_; rintro e w3 ⟨rfl, HB3⟩; have HR3 := Lib.hid (HR2.out.below HB3.out); have q3 := HR3.out.cell; have r3 := HR3.out.frozen; simp only [zero27] at q3)
  have hlt := HK0.out.lt
  refine bodyPost_ret (results_model rfl _ _ w.heap.size m p rfl (set27 HR3.out rfl m p).1) rfl ?_
  exact ⟨p, rfl, Lib.hid ⟨set27_at (HM2.out.below HB3.out) HM1.out.2 hlt, HM1.out.2.mono (by omega)⟩, Lib.hid ((((HB0.out.trans (HB1.out.mono (by omega))).trans (HB2.out.mono (by have := HB1.out.size; omega))).trans (HB3.out.mono (by have := HB1.out.size; have := HB2.out.size; omega))).trans (set27 HR3.out rfl m p).2.2.2)⟩
end Go.Proofs.YtplkchmcojnimaaGreatDoor
/-
  models: Open.
-/
namespace Go.Proofs.YtplkchmcojnimaaGreatDoor
open Go.RowKit

theorem results_row3 {fn : Func} {a u t : Tmp} (hf : fn.results = #[.cell a 27, .tmp u, .tmp t]) (tmps : Array Value) (w : World) (r : Nat) (l : List Value) (hl : l.length = 11) (hr : tmps.getD a undef = .pointer (some ⟨r, 0, none⟩)) (h : Blk w r l 27) :
    (results fn tmps).run Tryz.prog w = .ok (.tuple #[.agg l.toArray, tmps.getD u undef, tmps.getD t undef]) w := by
  have e1 : (loadVar 27 ⟨r, 0, none⟩).run Tryz.prog w = .ok (.agg l.toArray) w := by
    have hi : (Tryz.prog.info? 27).map (·.size) = some 11 := by kernel_rfl
    exact run_loadVar_row (P := Tryz.prog) w r 27 27 l.toArray (0, 0) _ h Tryz.underlying27 rfl (by rw [hi, ← hl]; rfl)
  simp only [results, hf]
  have hr' : tmps[a]?.getD undef = .pointer (some ⟨r, 0, none⟩) := by simpa using hr
  simp [Result.andThen, hr', asAddr, e1]
def zMD : MD := ⟨0, 0, 0, 0, [], [], [], [], [], [], []⟩
def zSP : SP := ⟨none, 0⟩
def zMP : MP := ⟨zSP, zSP, zSP, zSP, zSP, zSP, zSP⟩
theorem file_shape {m : MD} (hm : m.Ok) (F : List Int) (hF : F = sealB (fileB m.bytes)) : 7 < F.length ∧ F.getD 4 0 = 119 ∧ F.getD 5 0 = 109 ∧ F.getD 6 0 = 2 ∧ F.drop 7 = m.bytes ∧ intactB F = true ∧ Bytes F := by
  subst hF
  have hb := fileB_bytes hm.bytes
  refine ⟨?_, rfl, rfl, rfl, rfl, seal_intact hb, (low4_bytes _).app hb⟩
  have := hm.bytes_ne
  simp only [sealB, fileB, List.length_append, low4, List.length_cons, List.length_nil]
  omega
set_option maxRecDepth 100000 in
set_option maxHeartbeats 1600000 in
theorem open_sum (l : List Int) (hl : Bytes l) (h7 : 7 ≤ l.length) (hi : intactB l = false) (A : Option Addr) (n c : Nat) (w : World) (h : RdV w (.slice A n c) (bys l)) :
    Calls Tryz.prog 11 #[.slice A n c] w fun e w' => e = .returned (.tuple #[.agg zero27.toArray, .int .i64 0, .int .i64 12]) ∧ Hid (Below w.heap.size w w') := by
  obtain ⟨w0, hw0, hb0, hk0⟩ : ∃ w0, w.alloc (.cells zero27.toArray 27) = w0 ∧ Below w.heap.size w w0 ∧ Blk w0 w.heap.size zero27 27 := ⟨_, rfl, (Below.refl _ _).alloc (Nat.le_refl _) _, heap_alloc_new w _⟩
  obtain ⟨hn, -⟩ := h.len
  have HB0 := Lib.hid hb0
  have HK0 := Lib.hid hk0
  have HC := Lib.hid (intact_any l hl (by omega) A n c w0 (h.below hb0))
  have t0 : ¬ (n : Int) < 7 := by omega
  have HI := Lib.hid hi
  clear hb0 hk0 h hl hn hi
  simp only [zero27] at hw0
  go_enter Tryz.func11, Tryz.ntmps11
  go_wp2_with (go_at_call 34; refine HC.out.mono ?_; rintro e wz ⟨rfl, m1, hz⟩; subst wz; rw [HI.out]; have q1 := (HK0.out.drewN m1).cell; have r1 := (HK0.out.drewN m1).frozen; simp only [zero27] at q1)
  refine bodyPost_ret (results_row3 rfl _ _ w.heap.size zero27 rfl rfl (set27 (HK0.out.drewN m1) rfl zMD zMP).1) rfl ?_
  exact ⟨rfl, Lib.hid (HB0.out.trans ((below_drewN (Below.refl _ _) m1).trans (set27 (HK0.out.drewN m1) rfl zMD zMP).2.2.2))⟩
set_option maxRecDepth 100000 in
set_option maxHeartbeats 1600000 in
theorem open_ok (m : MD) (hm : m.Ok) (F : List Int) (hF : F = sealB (fileB m.bytes)) (g n c : Nat) (w : World) (h : RdV w (.slice (some ⟨g, 0, none⟩) n c) (bys F)) :
    Calls Tryz.prog 11 #[.slice (some ⟨g, 0, none⟩) n c] w fun e w' => ∃ p, e = .returned (.tuple #[.agg (mCells m p).toArray, .int .i64 2, .int .i64 0]) ∧ Hid (MAt w' m p ∧ MNew w.heap.size m p) ∧ Hid (Below w.heap.size w w') := by
  obtain ⟨w0, hw0, hb0, hk0⟩ : ∃ w0, w.alloc (.cells zero27.toArray 27) = w0 ∧ Below w.heap.size w w0 ∧ Blk w0 w.heap.size zero27 27 := ⟨_, rfl, (Below.refl _ _).alloc (Nat.le_refl _) _, heap_alloc_new w _⟩
  obtain ⟨s7, s4, s5, s6, sd, si, sb⟩ := file_shape hm F hF
  obtain ⟨hn, -⟩ := h.len
  have hcap := h.caps
  have h0 := h.below hb0
  obtain ⟨_, _, ea, c4⟩ := h0.at (i := 4) (by omega)
  injection ea with ea; injection ea with ea eo; subst ea eo
  obtain ⟨_, _, ea, c5⟩ := h0.at (i := 5) (by omega)
  injection ea with ea; injection ea with ea eo; subst ea eo
  obtain ⟨_, _, ea, c6⟩ := h0.at (i := 6) (by omega)
  injection ea with ea; injection ea with ea eo; subst ea eo
  rw [s4] at c4
  rw [s5] at c5
  rw [s6] at c6
  have hrest := rdv_rest h0 hn 7 (by omega) (some ⟨g, 7, none⟩) (fun _ => by rw [Nat.zero_add])
  rw [sd] at hrest
  have HB0 := Lib.hid hb0
  have HK0 := Lib.hid hk0
  have HC := Lib.hid (intact_any F sb (by omega) _ n c w0 h0)
  have HP := Lib.hid (fun k => parse_any m hm _ _ _ (w0.drewN k) (hrest.drewN k))
  have HI := Lib.hid si
  have HM := Lib.hid hm
  have t0 : ¬ (n : Int) < 7 := by omega
  have t1 : 7 ≤ n := by omega
  have t2 : n ≤ c := hcap.2.1
  have t3 : ¬ c = 7 := by omega
  have t4 : 4 < n := by omega
  have t5 : 5 < n := by omega
  have t6 : 6 < n := by omega
  clear hb0 hk0 h h0 hrest hn hcap s7 s4 s5 s6 sd si sb hF hm
  simp only [zero27] at hw0
  go_enter Tryz.func11, Tryz.ntmps11
  go_upto_region 9 with (first | (go_at_call 34; refine HC.out.mono ?_; rintro e wz ⟨rfl, m1, hz⟩; subst wz; rw [HI.out]; have q1 := (HK0.out.drewN m1).cell; have r1 := (HK0.out.drewN m1).frozen; simp only [zero27] at q1) | (go_at_call 35; refine (HP.out m1).mono ?_; rintro e w1 ⟨p, rfl, HM1, HB1⟩; have HR1 := Lib.hid ((HK0.out.drewN m1).below HB1.out); simp only [mCells]))
  obtain ⟨w2, hw2, hb2, hk2⟩ : ∃ w2, w1.alloc (.cells (mCells m p).toArray 27) = w2 ∧ Below w1.heap.size w1 w2 ∧ Blk w2 w1.heap.size (mCells m p) 27 := ⟨_, rfl, (Below.refl _ _).alloc (Nat.le_refl _) _, heap_alloc_new w1 _⟩
  have HL1 := Lib.hid (HM1.out.1.lt HM.out)
  have HB2 := Lib.hid hb2
  have HK2 := Lib.hid hk2
  have HR2 := Lib.hid (HR1.out.below hb2)
  have HM2 := Lib.hid (HM1.out.1.below hb2)
  have HC2 := Lib.hid (checked_ok m p HM.out w2 HM2.out)
  have q2 := hk2.cell
  clear hb2 hk2 q1 r1 hw0
  simp only [mCells] at hw2 q2 HC2
  go_upto_region 16 with (go_at_call 36; refine HC2.out.mono ?_; rintro e w3 ⟨rfl, HB3⟩; have HR3 := Lib.hid (HR2.out.below HB3.out); have HK3 := Lib.hid (HK2.out.below HB3.out); have q3 := HK3.out.cell; have r3 := HK3.out.frozen; simp only [mCells] at q3)
  obtain ⟨w4, hw4⟩ : ∃ w4, w4 = setAll27 w3 w1.heap.size m p := ⟨_, rfl⟩
  have hRM : w.heap.size ≠ w1.heap.size := by have := HR1.out.lt; omega
  have HR4 := Lib.hid (show Blk w4 w.heap.size zero27 27 by rw [hw4]; exact set27_blk HR3.out m p hRM)
  have HK4 := Lib.hid (show Blk w4 w1.heap.size (mCells m p) 27 by rw [hw4]; exact (set27 HK3.out rfl m p).1)
  have HM4 := Lib.hid (show MAt w4 m p by rw [hw4]; exact (HM2.out.below HB3.out).blocks fun i hi k hk => set27_other w3 w1.heap.size m p (by have := HL1.out i hi k hk; omega))
  have HB4 := Lib.hid (show Below w.heap.size w w4 by
    rw [hw4]
    have h1 := HB0.out.size
    have h2 : w0.heap.size ≤ w1.heap.size := HB1.out.size
    have h3 := HB2.out.size
    exact (((HB0.out.trans (below_drewN (Below.refl _ _) m1)).trans (HB1.out.mono h1)).trans ((HB2.out.mono (by omega)).trans (HB3.out.mono (by omega)))).trans ((set27 HK3.out rfl m p).2.2.2.mono (by omega)))
  simp only [setAll27] at hw4
  rw [← hw4]
  clear hw4 hw2 q2 q3 r3
  have q4 := HK4.out.cell
  have q5 := HR4.out.cell
  have r5 := HR4.out.frozen
  simp only [mCells] at q4
  simp only [zero27] at q5
  go_wp2
  refine bodyPost_ret (results_row3 rfl _ _ w.heap.size (mCells m p) rfl rfl (set27 HR4.out rfl m p).1) rfl ?_
  refine ⟨p, rfl, Lib.hid ⟨set27_at HM4.out HM1.out.2 (by have := HR4.out.lt; have := HB0.out.size; have : w.heap.size < w0.heap.size := HK0.out.lt; exact this), HM1.out.2.mono (by have := HB0.out.size; exact this)⟩, Lib.hid (HB4.out.trans (set27 HR4.out rfl m p).2.2.2)⟩
end Go.Proofs.YtplkchmcojnimaaGreatDoor
/-
  A map from numbers to slices of bytes.
-/
namespace Go.Proofs.YtplkchmcojnimaaGreatDoor
open Go.RowKit
open Go.ChangeMaps (setBlock)

abbrev Ent := Nat × Value × Nat
def entB (e : Ent) : MapEntry := { key := .int .i64 e.1, val := e.2.1, born := e.2.2 }
def getE (E : List Ent) (id : Nat) : Option Value := (E.find? fun e => decide (e.1 = id)).map (·.2.1)
def valE : Option Value → Value
  | some v => v
  | none => .slice none 0 0
def MpAt (w : World) (mb : Nat) (E : List Ent) (cl : Nat) : Prop := w.heap[mb]? = some (.map (E.map entB).toArray cl)
theorem MpAt.below {w w' : World} {mb : Nat} {E : List Ent} {cl : Nat} (h : MpAt w mb E cl) (hb : Below w.heap.size w w') : MpAt w' mb E cl := by
  have := lt_of_heap (show w.heap[mb]? = some _ from h)
  unfold MpAt at h ⊢; rw [hb.block mb this]; exact h
theorem findNow_ents (id : Nat) : ∀ (E : List Ent) (n : Nat), ∃ o : Option (Nat × Value), Instr.findNow (.int .i64) (.int .i64 id) (E.map entB) n = some o ∧ o.map Prod.snd = getE E id
  | [], n => ⟨none, rfl, rfl⟩
  | r :: l, n => by
    simp only [List.map_cons, Instr.findNow, entB, Instr.sameNow, if_true]
    by_cases e : r.1 = id
    · refine ⟨some (n, r.2.1), by simp [e], by simp [getE, e]⟩
    · obtain ⟨o, h1, h2⟩ := findNow_ents id l (n + 1)
      refine ⟨o, ?_, ?_⟩
      · have : ((id : Int) == (r.1 : Int)) = false := by simp; exact fun h => e (Int.ofNat_inj.1 h.symm)
        simp only [this]
        exact h1
      · rw [h2]; simp [getE, e]
theorem lookup_run {w : World} {mb : Nat} {E : List Ent} {cl : Nat} (h : MpAt w mb E cl) (id : Nat) :
    (Instr.lookup 73 (.map (some mb)) (.int .i64 id) true).run Tryz.prog w = .ok (.tuple #[valE (getE E id), .bool (getE E id).isSome]) w := by
  obtain ⟨o, h1, h2⟩ := findNow_ents id E 0
  have hz : (zeroValue 34).run Tryz.prog w = .ok (.slice none 0 0) w := by simp [go_sem]
  have hm := MapKept.run_getObj_map (P := Tryz.prog) (show w.heap[mb]? = some _ from h)
  have hu : Tryz.prog.underlying 3 = some (.int .i64) := Tryz.underlying3
  have hc : ∀ b, (Instr.checkKey b 10000 3 (.int .i64 id)).run Tryz.prog w = .ok () w := fun b => by
    have := MapKept.run_checkKey (w := w) (P := Tryz.prog) (k := .int .i64 id) hu (show MapKept.IsKey (.int .i64) (.int .i64 id) from rfl) b 9999
    exact this
  have hf : (Instr.findKey 3 (.int .i64 id) (E.map entB)).run Tryz.prog w = .ok o w := MapKept.run_findKey hu h1
  cases o with
  | none =>
    have hg : getE E id = none := by rw [← h2]; rfl
    simp [Instr.lookup, run_underlying Tryz.underlying73, hm, hc, hf, hz, Result.andThen, valE, hg]
  | some x =>
    have hg : getE E id = some x.2 := by rw [← h2]; rfl
    simp [Instr.lookup, run_underlying Tryz.underlying73, hm, hc, hf, Result.andThen, valE, hg]
theorem update_run {w : World} {mb : Nat} {E : List Ent} {cl : Nat} (h : MpAt w mb E cl) {id : Nat} (hg : getE E id = none) (v : Value) :
    ∃ w', (Instr.mapUpdate 73 (.map (some mb)) (.int .i64 id) v).run Tryz.prog w = .ok () w' ∧ MpAt w' mb (E ++ [(id, v, cl)]) (cl + 1) ∧ KS mb w w' := by
  obtain ⟨o, h1, h2⟩ := findNow_ents id E 0
  have hu : Tryz.prog.underlying 3 = some (.int .i64) := Tryz.underlying3
  have h' : w.heap[mb]? = some _ := h
  have hm := MapKept.run_getObj_map (P := Tryz.prog) h'
  have hc : (Instr.checkKey false 10000 3 (.int .i64 id)).run Tryz.prog w = .ok () w := by
    have := MapKept.run_checkKey (w := w) (P := Tryz.prog) (k := .int .i64 id) hu (show MapKept.IsKey (.int .i64) (.int .i64 id) from rfl) false 9999
    exact this
  have ho : o = none := by
    rw [hg] at h2
    cases o with
    | none => rfl
    | some x => simp at h2
  subst ho
  have hf : (Instr.findKey 3 (.int .i64 id) (E.map entB)).run Tryz.prog w = .ok none w := MapKept.run_findKey hu h1
  have hrun : (Instr.mapUpdate 73 (.map (some mb)) (.int .i64 id) v).run Tryz.prog w = .ok () (setBlock w mb (.map ((E.map entB).toArray.push { key := .int .i64 id, val := v, born := cl }) (cl + 1))) := by
    simp [Instr.mapUpdate, run_underlying Tryz.underlying73, hm, hc, hf, MapKept.run_setObj_map _ h', Result.andThen, setBlock]
  have hlt := lt_of_heap h'
  refine ⟨_, hrun, ?_, ⟨rfl, rfl, rfl, by simp [setBlock], fun b hb => ?_⟩⟩
  · unfold MpAt
    simp [setBlock, hlt, entB]
  · simp [setBlock, Ne.symm hb]
theorem getE_add (E : List Ent) (j : Nat) (v : Value) (cl id : Nat) : getE (E ++ [(j, v, cl)]) id = match getE E id with | some u => some u | none => if j = id then some v else none := by
  unfold getE
  rw [List.find?_append]
  cases h : E.find? fun e => decide (e.1 = id) with
  | some x => simp
  | none => by_cases e : j = id <;> simp [e]
section
variable {ops : Array Oper} {rest : List Oper} {o : Oper} {a : Act} {Q : Exit → Act → World → Prop}
theorem wl_lookup {w : World} {mb : Nat} {E : List Ent} {cl : Nat} (h : MpAt w mb E cl) (hg : o.guard = none) (m x : Operand) (hop : o.op = Op.lookup 73 m x true) (hm : a.eval m = .map (some mb)) (id : Nat) (hx : a.eval x = .int .i64 id)
    (hK : wpList Tryz.prog ops Q rest (a.put o.dst (.tuple #[valE (getE E id), .bool (getE E id).isSome])) w) : wpList Tryz.prog ops Q (o :: rest) a w := by
  refine wpList_plain hg fun K' hK' => ?_
  have hrun := lookup_run h id
  unfold Oper.wp
  simp [execOp, hop, hm, hx, hrun, Result.andThen]
  exact hK' _ _ hK
end
theorem make_map (W : World) : Sem.run Tryz.prog (Instr.makeMap 73 none) W = .ok (.map (some W.heap.size)) (W.alloc (.map #[] 0)) := by
  rfl
end Go.Proofs.YtplkchmcojnimaaGreatDoor
/-
  models: single: what is read.
-/
namespace Go.Proofs.YtplkchmcojnimaaGreatDoor
open Go.RowKit

section
variable {ops : Array Oper} {rest : List Oper} {o : Oper} {a : Act} {Q : Exit → Act → World → Prop}
theorem wl_update {w : World} {mb : Nat} {E : List Ent} {cl : Nat} (h : MpAt w mb E cl) (hg : o.guard = none) (m x u : Operand) (hop : o.op = Op.mapUpdate 73 m x u) (hm : a.eval m = .map (some mb)) (id : Nat) (hx : a.eval x = .int .i64 id) (hget : getE E id = none)
    (hK : ∀ w', MpAt w' mb (E ++ [(id, a.eval u, cl)]) (cl + 1) → KS mb w w' → wpList Tryz.prog ops Q rest (a.put o.dst undef) w') : wpList Tryz.prog ops Q (o :: rest) a w := by
  refine wpList_plain hg fun K' hK' => ?_
  obtain ⟨w', hrun, hmp, hks⟩ := update_run h hget (a.eval u)
  unfold Oper.wp
  simp [execOp, hop, hm, hx, hrun, Result.andThen]
  exact hK' _ _ (hK _ hmp hks)
end
theorem shard_shape {B : List Int} (hB : Bytes B) {n : Nat} (hn : 1 ≤ n ∧ n ≤ 64) {j : Nat} (hj : j < n) (s : List Int) (hs : s = shard B n j) :
    s.length = 12 + shSize B.length n j ∧ s.getD 4 0 = 119 ∧ s.getD 5 0 = 115 ∧ s.getD 10 0 = (j : Int) ∧ s.getD 11 0 = (n : Int) ∧ (s.drop 6).take 4 = low4 (crcOf B) ∧ s.drop 12 = part B n j ∧ intactB s = true ∧ Bytes s := by
  subst hs
  have hb := shB_bytes hB n j hn.2 hj
  refine ⟨?_, rfl, rfl, rfl, rfl, rfl, rfl, seal_intact hb, (low4_bytes _).app hb⟩
  unfold shard sealB
  rw [List.length_append, shB_len _ n j B (by omega) hj]
  simp [low4]
  omega
/-- A list of slices of bytes that can be read. -/
structure ShR (w : World) (V : List Value) (ls : List (List Int)) : Prop where
  len : V.length = ls.length
  rd : ∀ k, k < ls.length → ∃ A c, V.getD k (.slice none 0 0) = .slice A (ls.getD k []).length c ∧ RdV w (.slice A (ls.getD k []).length c) (bys (ls.getD k []))
theorem ShR.below {w w' : World} {V : List Value} {ls : List (List Int)} (h : ShR w V ls) (hb : Below w.heap.size w w') : ShR w' V ls :=
  ⟨h.len, fun k hk => by obtain ⟨A, c, e, hr⟩ := h.rd k hk; exact ⟨A, c, e, hr.below hb⟩⟩
/-- One element of a list of slices, and what can be read of it. -/
theorem shr_at {w : World} {V : List Value} {ls : List (List Int)} {b0 o0 N c0 : Nat} (hV : RdV w (.slice (some ⟨b0, o0, none⟩) N c0) V) (hL : ShR w V ls) {k : Nat} (hk : k < ls.length) (h12 : 12 ≤ (ls.getD k []).length) :
    ∃ g p c, w.cell? ⟨b0, o0 + k, none⟩ = some (.slice (some ⟨g, p, none⟩) (ls.getD k []).length c) ∧ RdV w (.slice (some ⟨g, p, none⟩) (ls.getD k []).length c) (bys (ls.getD k [])) := by
  obtain ⟨A, c, e, hr⟩ := hL.rd k hk
  obtain ⟨g, p, hA, -⟩ := hr.at (i := 0) (by omega)
  subst hA
  obtain ⟨b, o, c', hv, hc⟩ := hV.get (i := k) (by rw [hL.len]; exact hk)
  injection hv with e1; injection e1 with e1; injection e1 with e1 e2; subst e1 e2
  refine ⟨g, p, c, ?_, hr⟩
  rw [hc, ← e]
  simp [List.getD, show k < V.length by rw [hL.len]; exact hk]
/-- The bytes at a place, as cells. -/
theorem byte_at {w : World} {g p n c : Nat} {l : List Int} (h : RdV w (.slice (some ⟨g, p, none⟩) n c) (bys l)) {i : Nat} (hi : i < l.length) : w.cell? ⟨g, p + i, none⟩ = some (.int .u8 (l.getD i 0)) := by
  obtain ⟨_, _, ea, hc⟩ := h.at hi
  injection ea with ea; injection ea with ea eo; subst ea eo
  exact hc
/-- What a part's value is. -/
def PartV (w : World) (B : List Int) (n j : Nat) (v : Value) : Prop := ∃ A c, v = .slice A (part B n j).length c ∧ RdV w (.slice A (part B n j).length c) (bys (part B n j))
theorem PartV.below {w w' : World} {B : List Int} {n j : Nat} {v : Value} (h : PartV w B n j v) (hb : Below w.heap.size w w') : PartV w' B n j v := by
  obtain ⟨A, c, e, hr⟩ := h; exact ⟨A, c, e, hr.below hb⟩
structure EInv (w : World) (B : List Int) (n : Nat) (js : Nat → Nat) (i : Nat) (E : List Ent) : Prop where
  only : ∀ id v, getE E id = some v → (∃ k, k < i ∧ js k = id) ∧ PartV w B n id v
  all : ∀ k, k < i → ∃ v, getE E (js k) = some v
theorem EInv.nil (w : World) (B : List Int) (n : Nat) (js : Nat → Nat) : EInv w B n js 0 [] := ⟨fun id v h => by simp [getE] at h, fun k hk => by omega⟩
theorem EInv.below {w w' : World} {B : List Int} {n : Nat} {js : Nat → Nat} {i : Nat} {E : List Ent} (h : EInv w B n js i E) (hb : Below w.heap.size w w') : EInv w' B n js i E :=
  ⟨fun id v hv => ⟨(h.only id v hv).1, (h.only id v hv).2.below hb⟩, h.all⟩
theorem EInv.new {w : World} {B : List Int} {n : Nat} {js : Nat → Nat} {i : Nat} {E : List Ent} (h : EInv w B n js i E) (hne : ∀ k, k < i → js k ≠ js i) : getE E (js i) = none := by
  cases e : getE E (js i) with
  | none => rfl
  | some v =>
    obtain ⟨⟨k, hk, hk2⟩, -⟩ := h.only _ _ e
    exact absurd hk2 (hne k hk)
theorem EInv.add {w : World} {B : List Int} {n : Nat} {js : Nat → Nat} {i : Nat} {E : List Ent} (h : EInv w B n js i E) {v : Value} (hv : PartV w B n (js i) v) (cl : Nat) : EInv w B n js (i + 1) (E ++ [(js i, v, cl)]) := by
  refine ⟨fun id u hu => ?_, fun k hk => ?_⟩
  · rw [getE_add] at hu
    cases e : getE E id with
    | some x =>
      rw [e] at hu
      obtain ⟨⟨k, hk, hk2⟩, hp⟩ := h.only _ _ e
      have : x = u := by simpa using hu
      subst this
      exact ⟨⟨k, by omega, hk2⟩, hp⟩
    | none =>
      rw [e] at hu
      by_cases c : js i = id
      · rw [if_pos c] at hu
        have : v = u := by simpa using hu
        subst this
        exact ⟨⟨i, by omega, c⟩, by rw [← c]; exact hv⟩
      · simp [c] at hu
  · rw [getE_add]
    by_cases c : k < i
    · obtain ⟨u, hu⟩ := h.all k c
      exact ⟨u, by rw [hu]⟩
    · have : k = i := by omega
      subst this
      cases getE E (js k) with
      | some x => exact ⟨x, rfl⟩
      | none => exact ⟨v, by simp⟩
end Go.Proofs.YtplkchmcojnimaaGreatDoor
