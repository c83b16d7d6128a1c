/-
  graph: checker.shape of Const and Add.
-/
import Derived.Defers
import Derived.Recover
import Derived.Test.YtdbhlkejfecffaaGreatDoorSa29
/-
  graph: checker.shape of Const and Add.
-/
namespace Go.Proofs.YtdbhlkejfecffaaGreatDoor
open Go.RowKit KeepPlain

/-- What an information of the graph in the making holds. -/
def infoC (N O S M : Value) : List Value := [.string ⟨#[103]⟩, .slice none 0 0, N, O, .slice none 0 0, S, .slice none 0 0, M, .slice none 0 0, .slice none 0 0]
/-- Below a bound nothing but one block was written. -/
structure KeepB (d B : Nat) (w w' : World) : Prop where
  os : w'.os = w.os
  tape : w'.tape = w.tape
  output : w'.output = w.output
  size : w.heap.size ≤ w'.heap.size
  block : ∀ b, b < B → b ≠ d → w'.heap[b]? = w.heap[b]?
theorem KeepB.of_below {d B : Nat} {w w' : World} (h : Below B w w') : KeepB d B w w' := ⟨h.os, h.tape, h.output, h.size, fun b hb _ => h.block b hb⟩
theorem KeepB.trans {d B : Nat} {a b c : World} (h : KeepB d B a b) (k : KeepB d B b c) : KeepB d B a c :=
  ⟨k.os.trans h.os, k.tape.trans h.tape, k.output.trans h.output, Nat.le_trans h.size k.size, fun x hx hn => (k.block x hx hn).trans (h.block x hx hn)⟩
theorem KeepB.setD {d B : Nat} {w w' : World} (h : KeepB d B w w') (o : Nat) (v : Value) : KeepB d B w (w'.setCell ⟨d, o, none⟩ v) :=
  ⟨h.os, h.tape, h.output, Nat.le_trans h.size (by simp [World.setCell]), fun x hx hn => by
    rw [Below.heap_setCell _ _ _ _ hn]; exact h.block x hx hn⟩
theorem KeepB.drew {d B : Nat} {w w' : World} (h : KeepB d B w w') : KeepB d B w w'.drew := ⟨h.os, h.tape, h.output, h.size, h.block⟩
theorem KeepB.setNew {d B g : Nat} {w w' : World} (h : KeepB d B w w') (hg : B ≤ g) (o : Nat) (v : Value) : KeepB d B w (w'.setCell ⟨g, o, none⟩ v) :=
  ⟨h.os, h.tape, h.output, Nat.le_trans h.size (by simp [World.setCell]), fun x hx hn => by
    rw [Below.heap_setCell _ _ _ _ (show x ≠ g by omega)]; exact h.block x hx hn⟩
theorem results_chk (tmps : Array Value) (w : World) (r : Nat) (k : Int) (hr : tmps.getD 10 undef = .pointer (some ⟨r, 0, none⟩)) (h : w.cell? ⟨r, 0, none⟩ = some (.int .i64 k)) :
    (results Tryz.f141 tmps).run Tryz.prog w = .ok (.int .i64 k) w := by
  have hr' : tmps[10]?.getD undef = .pointer (some ⟨r, 0, none⟩) := by simpa using hr
  simp [results, Tryz.results141, hr', asAddr, go_sem, h]
theorem KeepB.blk {d B : Nat} {w w' : World} (h : KeepB d B w w') {b : Nat} {l : List Value} {t : TypeId} (hb : Blk w b l t) (hlt : b < B) (hne : b ≠ d) : Blk w' b l t := by
  unfold Blk at hb ⊢
  rw [h.block b hlt hne]; exact hb
theorem infoS : (Tryz.prog.info? 54).map (fun i => (i.zero, i.size, i.bytes)) = some (some (.slice none 0 0), 1, 24) := by kernel_rfl
theorem catch_shape (p : Value) (w : World) :
    CallsD Tryz.prog 190 #[p] .returning w fun e u' w' => e = .returned (.tuple #[]) ∧ u' = .returning ∧ w' = w := by
  refine callsD_of_wpS Tryz.func190 rfl fun c₀ cs hu => ?_
  apply wpS_seq
  apply wpS_region
  simp [wpOpsS, go_sem, recoverD, hu, Tryz.ntmps190, Exit.thenS]
  refine wpS_of_wp ?_
  go_wp2
  cases c₀
  simp_all [bodyPostS, results, Tryz.results190]
set_option maxRecDepth 100000 in
set_option maxHeartbeats 3200000 in
theorem chk_const (cb xb B : Nat) (N O S M : Value) (A D : Value) (i : Int) (w : World) (hB : B ≤ w.heap.size) (hcb : cb < B) (hxb : xb < B) (hne : cb ≠ xb)
    (hc : Blk w cb [.slice none 0 0] 131) (hx : Blk w xb (infoC N O S M) 107) (hS : w.ownsRow B 54 1 S 0 []) :
    Calls Tryz.prog 141 #[.pointer (some ⟨cb, 0, none⟩), .pointer (some ⟨xb, 0, none⟩), nodeV 2 A D, .int .i64 i, .slice none 0 0] w fun e w' =>
      e = .returned (.int .i64 0) ∧ ∃ S', Hid (w'.ownsRow B 54 1 S' 1 [.slice none 0 0]) ∧ Hid (Blk w' xb (infoC N O S' M) 107) ∧ Hid (KeepB xb B w w') := by
  have hmf : ∀ (fn : Fn) (first cap : Array Value) (w : World), (Instr.makeFunc fn first cap).run Tryz.prog w = .ok (.func fn first cap) w := fun _ _ _ _ => rfl
  obtain ⟨w0, hw0, hb0, hk0, hk1⟩ : ∃ w0, ((w.alloc (.cells (nodeC 2 A D).toArray 57)).alloc (.cells #[.int .i64 0] 34)) = w0 ∧ Below w.heap.size w w0 ∧ Blk w0 w.heap.size (nodeC 2 A D) 57 ∧ Blk w0 (w.heap.size + 1) [.int .i64 0] 34 := by
    refine ⟨_, rfl, ((Below.refl _ _).alloc (Nat.le_refl _) _).alloc (by simp only [World.size_alloc]; omega) _, (news_blk w (nodeC 2 A D) 57).alloc _, ?_⟩
    have := news_blk (w.alloc (.cells (nodeC 2 A D).toArray 57)) [.int .i64 0] 34
    rwa [World.size_alloc] at this
  have hc0 := (hc.below hb0).cell
  have HB0 := Lib.hid hb0
  have HK0 := Lib.hid hk0
  have HK1 := Lib.hid hk1
  have HX0 := Lib.hid (hx.below hb0)
  have HS0 := Lib.hid (ownsRow_below hS hb0)
  have HSL := Lib.hid (fun k (h : S.ownBlock = some k) => (hS.lt k h).2)
  have HNUM := Lib.hid (And.intro hB (And.intro hcb (And.intro hxb hne)))
  have hs0 : w0.heap.size = w.heap.size + 2 := by rw [← hw0]; simp only [World.size_alloc]
  have HSZ := Lib.hid hs0
  obtain ⟨ii, hi, hz0, hz1, hz2⟩ := info_parts infoS
  clear hb0 hk0 hk1 hc hx hS hB hcb hxb hne hs0
  unfold nodeC at *
  unfold nodeV
  go_enter_defers Tryz.func141, Tryz.ntmps141
  go_upto_region 3 with fail
  obtain ⟨w1, hw1, hb1, hk2⟩ : ∃ w1, w1 = w0.alloc (.cells #[.slice none 0 0, .slice none 0 0] 248) ∧ Below w0.heap.size w0 w1 ∧ Blk w1 w0.heap.size [.slice none 0 0, .slice none 0 0] 248 := ⟨_, rfl, (Below.refl _ _).alloc (Nat.le_refl _) _, heap_alloc_new w0 _⟩
  rw [← hw1]
  have HB1 := Lib.hid (HB0.out.trans (hb1.mono HB0.out.size))
  have HB1S := Lib.hid hb1.size
  have HK2 := Lib.hid (HK0.out.below hb1)
  have HL2 := Lib.hid (HK1.out.below hb1)
  have HP2 := Lib.hid hk2
  have HX2 := Lib.hid (HX0.out.below hb1)
  have HS2 := Lib.hid (ownsRow_below HS0.out hb1)
  have q2 := HK2.out.cell
  clear hw0 hw1 hb1 hk2 HX0 HS0 HK0 HK1 hc0
  go_wp2
  refine wp_loop_rounds 1 ?_
  rw [rounds_succ]
  go_upto_region 14 with (first | (go_at_call 192; refine (shape_const _ A D w1).mono ?_; rintro e w3 ⟨rfl, HB3⟩; have HK3 := Lib.hid (HK2.out.below HB3.out); have HL3 := Lib.hid (HL2.out.below HB3.out); have HP3 := Lib.hid (HP2.out.below HB3.out); have HX3 := Lib.hid (HX2.out.below HB3.out); have HS3 := Lib.hid (ownsRow_below HS2.out HB3.out)) | (go_at_call 191; refine (cloneAxes_nil _).mono ?_; rintro e w4 ⟨rfl, hw4⟩; subst w4) | (go_at_call 175; refine (closed_nil _).mono ?_; rintro e w4 ⟨rfl, hw4⟩; subst w4) | (go_at_call 79; refine (elements_nil _).mono ?_; rintro e w4 ⟨rfl, hw4⟩; subst w4))
  clear q2 HK2 HL2 HP2 HX2 HS2
  have c3 := HX3.out.cell
  have f3 := HX3.out.frozen
  simp only [infoC] at c3
  have cA := (HX3.out.alloc (.cells #[.slice none 0 0] 54)).cell
  simp only [infoC] at cA
  have HBS := Lib.hid (show w.heap.size + 2 ≤ w3.heap.size from by have := HSZ.out; have := HB1S.out; have := HB3.out.size; omega)
  have HBW := Lib.hid (show B ≤ w3.heap.size from Nat.le_trans HNUM.out.1 (Nat.le_trans HB1.out.size HB3.out.size))
  go_upto_region 15 with (at_builtin; refine wpList_append_lies _ rfl _ _ 102 rfl B 54 ii (.slice none 0 0) 1 24 Tryz.underlying102 hi hz0 hz1 hz2 rfl (by decide) S 0 [] rfl (ownsRow_below HS3.out ((Below.refl _ _).alloc (Nat.le_refl _) _)) ⟨w3.heap.size, 0, none⟩ 1 1 [.slice none 0 0] rfl rfl (news1' _ _ _) (one_slice _ _ _) Nat.one_pos (by unfold maxLen; omega) (by omega) (Nat.le_trans HBW.out (alloc_le _ _)) _ rfl ?_; intro g cap w5 hown hgrow hat hlt; have HO5 := Lib.hid hown; have HG5 := Lib.hid hgrow; have HX5 := Lib.hid (show Blk w5 xb (infoC N O S M) 107 from (HX3.out.alloc _).grown hgrow (fun e => by have := ownsRow_base HS3.out xb e.symm; have := HNUM.out; omega)); have HP5 := Lib.hid ((HP3.out.alloc _).grown hgrow (fun e => by have := HSL.out _ e.symm; have := HSZ.out; omega)); have HK5 := Lib.hid ((HK3.out.alloc _).grown hgrow (fun e => by have := HSL.out _ e.symm; omega)); have HL5 := Lib.hid ((HL3.out.alloc _).grown hgrow (fun e => by have := HSL.out _ e.symm; omega)); have HB5 := Lib.hid (show Below B w w5 from ((((HB1.out.trans (HB3.out.mono HB1.out.size)).mono HNUM.out.1).alloc (by have := HBW.out; omega) _).trans (Below.ofGrown hgrow (Nat.le_trans HBW.out (alloc_le _ _)) (ownsRow_base HS3.out)))); have c5 := HX5.out.cell; have f5 := HX5.out.frozen; simp only [infoC] at c5; have HGA := Lib.hid (show g ≠ w.heap.size + 1 from by rcases hat with h | h; (· have := HSL.out _ h; omega); (· rw [h]; have := alloc_le w3 (.cells #[.slice none 0 0] 54); have := HBS.out; omega)); clear hown hgrow hat hlt c3 f3 cA)
  obtain ⟨w6, hw6⟩ : ∃ w6, w6 = w5.setCell ⟨xb, 5, none⟩ (.slice (some ⟨g, 0, none⟩) (0 + 1) cap) := ⟨_, rfl⟩
  have HX6 := Lib.hid (show Blk w6 xb (infoC N O (.slice (some ⟨g, 0, none⟩) (0 + 1) cap) M) 107 by rw [hw6]; exact HX5.out.set 5 _)
  have HP6 := Lib.hid (show Blk w6 w0.heap.size [.slice none 0 0, .slice none 0 0] 248 by rw [hw6]; exact HP5.out.far (by have := HNUM.out; have := HSZ.out; simp; omega) _)
  have HL6 := Lib.hid (show Blk w6 (w.heap.size + 1) [.int .i64 0] 34 by rw [hw6]; exact HL5.out.far (by have := HNUM.out; simp; omega) _)
  have HK6 := Lib.hid (show Blk w6 w.heap.size (nodeC 2 A D) 57 by rw [hw6]; exact HK5.out.far (by have := HNUM.out; simp; omega) _)
  have HO6 := Lib.hid (show w6.ownsRow B 54 1 (.slice (some ⟨g, 0, none⟩) (0 + 1) cap) (0 + 1) ([] ++ [.slice none 0 0]) by rw [hw6]; exact ownsRow_block HO5.out fun b hlt hv => Below.heap_setCell _ _ _ _ (show b ≠ xb by have := ownsRow_base HO5.out b hv; have := HNUM.out; omega))
  have HKB6 := Lib.hid (show KeepB xb B w w6 by rw [hw6]; exact (KeepB.of_below HB5.out).setD 5 _)
  rw [← hw6]
  clear hw6 c5 f5 HX5 HP5 HL5 HO5 HG5 HK5
  have c6 := HX6.out.cell
  have f6 := HX6.out.frozen
  have p6 := HP6.out.cell
  simp only [infoC] at c6
  go_region
  obtain ⟨w7, hw7⟩ : ∃ w7, w7 = (w6.setCell ⟨xb, 9, none⟩ (.slice none 0 0)).drew := ⟨_, rfl⟩
  have HX7 := Lib.hid (show Blk w7 xb (infoC N O (.slice (some ⟨g, 0, none⟩) (0 + 1) cap) M) 107 by rw [hw7]; exact (HX6.out.set 9 (.slice none 0 0)))
  have HL7 := Lib.hid (show Blk w7 (w.heap.size + 1) [.int .i64 0] 34 by rw [hw7]; exact (HL6.out.far (p := ⟨xb, 9, none⟩) (by have := HNUM.out; simp; omega) (.slice none 0 0)))
  have HK7 := Lib.hid (show Blk w7 w.heap.size (nodeC 2 A D) 57 by rw [hw7]; exact (HK6.out.far (p := ⟨xb, 9, none⟩) (by have := HNUM.out; simp; omega) (.slice none 0 0)))
  have HO7 := Lib.hid (show w7.ownsRow B 54 1 (.slice (some ⟨g, 0, none⟩) (0 + 1) cap) (0 + 1) ([] ++ [.slice none 0 0]) by rw [hw7]; exact ownsRow_block HO6.out fun b hlt hv => Below.heap_setCell _ _ _ _ (show b ≠ xb by have := ownsRow_base HO6.out b hv; have := HNUM.out; omega))
  have HKB := Lib.hid (show KeepB xb B w w7 by rw [hw7]; exact (HKB6.out.setD 9 (.slice none 0 0)).drew)
  rw [← hw7]
  clear hw7 c6 f6 p6 HX6 HP6 HL6 HO6 HK6 HKB6
  have k7 := HK7.out.cell
  have l7 := HL7.out.cell
  have m7 := HL7.out.frozen
  simp only [nodeC] at k7
  go_wp2
  refine leaves_cons (f := 190) (args := #[.pointer (some ⟨w.heap.size + 1, 0, none⟩)]) (by simp) (by simp [go_sem]) ?_
  refine (catch_shape _ _).mono ?_
  rintro e u' w8 ⟨rfl, rfl, hw8⟩
  have hw8' : w8 = w7.setCell ⟨w.heap.size + 1, 0, none⟩ (.int .i64 0) := hw8
  clear hw8
  subst hw8'
  refine ⟨_, results_chk _ _ (w.heap.size + 1) 0 rfl (by rw [(HL7.out.set 0 (.int .i64 0)).cell]; rfl), rfl, _, Lib.hid (ownsRow_block HO7.out fun b hlt hv => Below.heap_setCell _ _ _ _ (show b ≠ w.heap.size + 1 from fun e => HGA.out (by simpa [Value.ownBlock] using hv.trans (congrArg some e)))), Lib.hid (HX7.out.far (by have := HNUM.out; simp; omega) _), Lib.hid (HKB.out.setNew (by have := HNUM.out; omega) 0 _)⟩
set_option maxRecDepth 100000 in
set_option maxHeartbeats 3200000 in
theorem chk_add (cb xb B : Nat) (N O S M : Value) (A D : Value) (i : Int) (w : World) (hB : B ≤ w.heap.size) (hcb : cb < B) (hxb : xb < B) (hne : cb ≠ xb)
    (hc : Blk w cb [.slice none 0 0] 131) (hx : Blk w xb (infoC N O S M) 107) (hS : w.ownsRow B 54 1 S 1 [.slice none 0 0]) (g0 c0 : Nat) (hc0 : 2 ≤ c0 ∧ c0 ≤ maxLen) (hg0 : w.cell? ⟨g0, 0, none⟩ = some (.slice none 0 0)) (hg1 : w.cell? ⟨g0, 1, none⟩ = some (.slice none 0 0)) :
    Calls Tryz.prog 141 #[.pointer (some ⟨cb, 0, none⟩), .pointer (some ⟨xb, 0, none⟩), nodeV 4 A D, .int .i64 i, .slice (some ⟨g0, 0, none⟩) 2 c0] w fun e w' =>
      e = .returned (.int .i64 0) ∧ ∃ S', Hid (w'.ownsRow B 54 1 S' 2 [.slice none 0 0, .slice none 0 0]) ∧ Hid (Blk w' xb (infoC N O S' M) 107) ∧ Hid (KeepB xb B w w') := by
  have hmf : ∀ (fn : Fn) (first cap : Array Value) (w : World), (Instr.makeFunc fn first cap).run Tryz.prog w = .ok (.func fn first cap) w := fun _ _ _ _ => rfl
  obtain ⟨w0, hw0, hb0, hk0, hk1⟩ : ∃ w0, ((w.alloc (.cells (nodeC 4 A D).toArray 57)).alloc (.cells #[.int .i64 0] 34)) = w0 ∧ Below w.heap.size w w0 ∧ Blk w0 w.heap.size (nodeC 4 A D) 57 ∧ Blk w0 (w.heap.size + 1) [.int .i64 0] 34 := by
    refine ⟨_, rfl, ((Below.refl _ _).alloc (Nat.le_refl _) _).alloc (by simp only [World.size_alloc]; omega) _, (news_blk w (nodeC 4 A D) 57).alloc _, ?_⟩
    have := news_blk (w.alloc (.cells (nodeC 4 A D).toArray 57)) [.int .i64 0] 34
    rwa [World.size_alloc] at this
  have hcc := (hc.below hb0).cell
  have HB0 := Lib.hid hb0
  have HK0 := Lib.hid hk0
  have HK1 := Lib.hid hk1
  have HX0 := Lib.hid (hx.below hb0)
  have HS0 := Lib.hid (ownsRow_below hS hb0)
  have HSL := Lib.hid (fun k (h : S.ownBlock = some k) => (hS.lt k h).2)
  have HNUM := Lib.hid (And.intro hB (And.intro hcb (And.intro hxb hne)))
  have hs0 : w0.heap.size = w.heap.size + 2 := by rw [← hw0]; simp only [World.size_alloc]
  have HSZ := Lib.hid hs0
  obtain ⟨ii, hi, hz0, hz1, hz2⟩ := info_parts infoS
  clear hb0 hk0 hk1 hc hx hS hB hcb hxb hne hs0
  unfold nodeC at *
  unfold nodeV
  go_enter_defers Tryz.func141, Tryz.ntmps141
  go_upto_region 3 with fail
  obtain ⟨w1, hw1, hb1, hk2⟩ : ∃ w1, w1 = w0.alloc (.cells #[.slice none 0 0, .slice none 0 0] 248) ∧ Below w0.heap.size w0 w1 ∧ Blk w1 w0.heap.size [.slice none 0 0, .slice none 0 0] 248 := ⟨_, rfl, (Below.refl _ _).alloc (Nat.le_refl _) _, heap_alloc_new w0 _⟩
  rw [← hw1]
  have HB1 := Lib.hid (HB0.out.trans (hb1.mono HB0.out.size))
  have HB1S := Lib.hid hb1.size
  have HK2 := Lib.hid (HK0.out.below hb1)
  have HL2 := Lib.hid (HK1.out.below hb1)
  have HP2 := Lib.hid hk2
  have HX2 := Lib.hid (HX0.out.below hb1)
  have HS2 := Lib.hid (ownsRow_below HS0.out hb1)
  have HSH := Lib.hid (shape_add (.pointer (some ⟨w0.heap.size, 0, none⟩)) A D g0 c0 hc0 w1 (by rw [HB1.out.cell (p := ⟨g0, 0, none⟩) (World.block_lt_of_cell? w _ hg0)]; exact hg0) (by rw [HB1.out.cell (p := ⟨g0, 1, none⟩) (World.block_lt_of_cell? w _ hg1)]; exact hg1))
  unfold nodeV at HSH
  have q2 := HK2.out.cell
  clear hw0 hw1 hb1 hk2 HX0 HS0 HK0 HK1 hcc
  go_wp2
  refine wp_loop_rounds 1 ?_
  rw [rounds_succ]
  go_upto_region 14 with (first | (go_at_call 192; refine (HSH.out).mono ?_; rintro e w3 ⟨rfl, HB3⟩; have HK3 := Lib.hid (HK2.out.below HB3.out); have HL3 := Lib.hid (HL2.out.below HB3.out); have HP3 := Lib.hid (HP2.out.below HB3.out); have HX3 := Lib.hid (HX2.out.below HB3.out); have HS3 := Lib.hid (ownsRow_below HS2.out HB3.out)) | (go_at_call 191; refine (cloneAxes_nil _).mono ?_; rintro e w4 ⟨rfl, hw4⟩; subst w4) | (go_at_call 175; refine (closed_nil _).mono ?_; rintro e w4 ⟨rfl, hw4⟩; subst w4) | (go_at_call 79; refine (elements_nil _).mono ?_; rintro e w4 ⟨rfl, hw4⟩; subst w4))
  clear q2 HK2 HL2 HP2 HX2 HS2
  have c3 := HX3.out.cell
  have f3 := HX3.out.frozen
  simp only [infoC] at c3
  have cA := (HX3.out.alloc (.cells #[.slice none 0 0] 54)).cell
  simp only [infoC] at cA
  have HBS := Lib.hid (show w.heap.size + 2 ≤ w3.heap.size from by have := HSZ.out; have := HB1S.out; have := HB3.out.size; omega)
  have HBW := Lib.hid (show B ≤ w3.heap.size from Nat.le_trans HNUM.out.1 (Nat.le_trans HB1.out.size HB3.out.size))
  go_upto_region 15 with (at_builtin; refine wpList_append_lies _ rfl _ _ 102 rfl B 54 ii (.slice none 0 0) 1 24 Tryz.underlying102 hi hz0 hz1 hz2 rfl (by decide) S 1 [.slice none 0 0] rfl (ownsRow_below HS3.out ((Below.refl _ _).alloc (Nat.le_refl _) _)) ⟨w3.heap.size, 0, none⟩ 1 1 [.slice none 0 0] rfl rfl (news1' _ _ _) (one_slice _ _ _) Nat.one_pos (by unfold maxLen; omega) (by omega) (Nat.le_trans HBW.out (alloc_le _ _)) _ rfl ?_; intro g cap w5 hown hgrow hat hlt; have HO5 := Lib.hid hown; have HG5 := Lib.hid hgrow; have HX5 := Lib.hid (show Blk w5 xb (infoC N O S M) 107 from (HX3.out.alloc _).grown hgrow (fun e => by have := ownsRow_base HS3.out xb e.symm; have := HNUM.out; omega)); have HP5 := Lib.hid ((HP3.out.alloc _).grown hgrow (fun e => by have := HSL.out _ e.symm; have := HSZ.out; omega)); have HK5 := Lib.hid ((HK3.out.alloc _).grown hgrow (fun e => by have := HSL.out _ e.symm; omega)); have HL5 := Lib.hid ((HL3.out.alloc _).grown hgrow (fun e => by have := HSL.out _ e.symm; omega)); have HB5 := Lib.hid (show Below B w w5 from ((((HB1.out.trans (HB3.out.mono HB1.out.size)).mono HNUM.out.1).alloc (by have := HBW.out; omega) _).trans (Below.ofGrown hgrow (Nat.le_trans HBW.out (alloc_le _ _)) (ownsRow_base HS3.out)))); have c5 := HX5.out.cell; have f5 := HX5.out.frozen; simp only [infoC] at c5; have HGA := Lib.hid (show g ≠ w.heap.size + 1 from by rcases hat with h | h; (· have := HSL.out _ h; omega); (· rw [h]; have := alloc_le w3 (.cells #[.slice none 0 0] 54); have := HBS.out; omega)); clear hown hgrow hat hlt c3 f3 cA)
  obtain ⟨w6, hw6⟩ : ∃ w6, w6 = w5.setCell ⟨xb, 5, none⟩ (.slice (some ⟨g, 0, none⟩) (1 + 1) cap) := ⟨_, rfl⟩
  have HX6 := Lib.hid (show Blk w6 xb (infoC N O (.slice (some ⟨g, 0, none⟩) (1 + 1) cap) M) 107 by rw [hw6]; exact HX5.out.set 5 _)
  have HP6 := Lib.hid (show Blk w6 w0.heap.size [.slice none 0 0, .slice none 0 0] 248 by rw [hw6]; exact HP5.out.far (by have := HNUM.out; have := HSZ.out; simp; omega) _)
  have HL6 := Lib.hid (show Blk w6 (w.heap.size + 1) [.int .i64 0] 34 by rw [hw6]; exact HL5.out.far (by have := HNUM.out; simp; omega) _)
  have HK6 := Lib.hid (show Blk w6 w.heap.size (nodeC 4 A D) 57 by rw [hw6]; exact HK5.out.far (by have := HNUM.out; simp; omega) _)
  have HO6 := Lib.hid (show w6.ownsRow B 54 1 (.slice (some ⟨g, 0, none⟩) (1 + 1) cap) (1 + 1) ([.slice none 0 0] ++ [.slice none 0 0]) by rw [hw6]; exact ownsRow_block HO5.out fun b hlt hv => Below.heap_setCell _ _ _ _ (show b ≠ xb by have := ownsRow_base HO5.out b hv; have := HNUM.out; omega))
  have HKB6 := Lib.hid (show KeepB xb B w w6 by rw [hw6]; exact (KeepB.of_below HB5.out).setD 5 _)
  rw [← hw6]
  clear hw6 c5 f5 HX5 HP5 HL5 HO5 HG5 HK5
  have c6 := HX6.out.cell
  have f6 := HX6.out.frozen
  have p6 := HP6.out.cell
  simp only [infoC] at c6
  go_region
  obtain ⟨w7, hw7⟩ : ∃ w7, w7 = (w6.setCell ⟨xb, 9, none⟩ (.slice none 0 0)).drew := ⟨_, rfl⟩
  have HX7 := Lib.hid (show Blk w7 xb (infoC N O (.slice (some ⟨g, 0, none⟩) (1 + 1) cap) M) 107 by rw [hw7]; exact (HX6.out.set 9 (.slice none 0 0)))
  have HL7 := Lib.hid (show Blk w7 (w.heap.size + 1) [.int .i64 0] 34 by rw [hw7]; exact (HL6.out.far (p := ⟨xb, 9, none⟩) (by have := HNUM.out; simp; omega) (.slice none 0 0)))
  have HK7 := Lib.hid (show Blk w7 w.heap.size (nodeC 4 A D) 57 by rw [hw7]; exact (HK6.out.far (p := ⟨xb, 9, none⟩) (by have := HNUM.out; simp; omega) (.slice none 0 0)))
  have HO7 := Lib.hid (show w7.ownsRow B 54 1 (.slice (some ⟨g, 0, none⟩) (1 + 1) cap) (1 + 1) ([.slice none 0 0] ++ [.slice none 0 0]) by rw [hw7]; exact ownsRow_block HO6.out fun b hlt hv => Below.heap_setCell _ _ _ _ (show b ≠ xb by have := ownsRow_base HO6.out b hv; have := HNUM.out; omega))
  have HKB := Lib.hid (show KeepB xb B w w7 by rw [hw7]; exact (HKB6.out.setD 9 (.slice none 0 0)).drew)
  rw [← hw7]
  clear hw7 c6 f6 p6 HX6 HP6 HL6 HO6 HK6 HKB6
  have k7 := HK7.out.cell
  have l7 := HL7.out.cell
  have m7 := HL7.out.frozen
  simp only [nodeC] at k7
  go_wp2
  refine leaves_cons (f := 190) (args := #[.pointer (some ⟨w.heap.size + 1, 0, none⟩)]) (by simp) (by simp [go_sem]) ?_
  refine (catch_shape _ _).mono ?_
  rintro e u' w8 ⟨rfl, rfl, hw8⟩
  have hw8' : w8 = w7.setCell ⟨w.heap.size + 1, 0, none⟩ (.int .i64 0) := hw8
  clear hw8
  subst hw8'
  refine ⟨_, results_chk _ _ (w.heap.size + 1) 0 rfl (by rw [(HL7.out.set 0 (.int .i64 0)).cell]; rfl), rfl, _, Lib.hid (ownsRow_block HO7.out fun b hlt hv => Below.heap_setCell _ _ _ _ (show b ≠ w.heap.size + 1 from fun e => HGA.out (by simpa [Value.ownBlock] using hv.trans (congrArg some e)))), Lib.hid (HX7.out.far (by have := HNUM.out; simp; omega) _), Lib.hid (HKB.out.setNew (by have := HNUM.out; omega) 0 _)⟩
end Go.Proofs.YtdbhlkejfecffaaGreatDoor
