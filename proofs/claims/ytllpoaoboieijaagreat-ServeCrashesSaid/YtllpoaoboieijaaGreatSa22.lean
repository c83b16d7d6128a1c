/-
  Models: Make of the model that Demo makes.
-/
import Derived.Laws.ResultCell
import Derived.Laws.Rows
import Derived.Test.YtllpoaoboieijaaGreatSa21
/-
  Models: Make of the model that Demo makes.
-/
namespace Go.Proofs.YtllpoaoboieijaaGreat
open Go.RowKit

/-- Nothing but one old block is written. -/
structure Keep (d : Nat) (w w' : World) : Prop where
  os : w'.os = w.os
  tape : w'.tape = w.tape
  output : w'.output = w.output
  size : w.heap.size ≤ w'.heap.size
  block : ∀ b, b < w.heap.size → b ≠ d → w'.heap[b]? = w.heap[b]?
theorem Keep.blk {d : Nat} {w w' : World} (h : Keep d w w') {b : Nat} {l : List Value} {t : TypeId} (hb : Blk w b l t) (hne : b ≠ d) : Blk w' b l t := by
  have := hb.lt; unfold Blk at hb ⊢
  rw [h.block b this hne]; exact hb
theorem Keep.rd {d : Nat} {w w' : World} (h : Keep d w w') {b o c : Nat} {l : List Int} (hr : RdAt w b o c l) (h0 : 0 < l.length) (hne : b ≠ d) : RdAt w' b o c l := by
  refine ⟨hr.1, hr.2.1, fun i hi => ?_⟩
  rw [World.cell?_of_block (a := ⟨b, o + i, none⟩) (w := w) (h.block b (hr.lt h0) hne)]
  exact hr.2.2 i hi
theorem Keep.below {d : Nat} {w0 w w' : World} (h : Keep d w w') (hb : Below w0.heap.size w0 w) (hd : w0.heap.size ≤ d) : Below w0.heap.size w0 w' :=
  ⟨h.os.trans hb.os, h.tape.trans hb.tape, h.output.trans hb.output, Nat.le_trans hb.size h.size, fun b hlt => by
    rw [h.block b (Nat.lt_of_lt_of_le hlt hb.size) (by omega)]; exact hb.block b hlt⟩
theorem Keep.of_below {d : Nat} {w w' : World} (h : Below w.heap.size w w') : Keep d w w' := ⟨h.os, h.tape, h.output, h.size, fun b hb _ => h.block b hb⟩
theorem Keep.trans {d : Nat} {a b c : World} (h : Keep d a b) (k : Keep d b c) : Keep d a c :=
  ⟨k.os.trans h.os, k.tape.trans h.tape, k.output.trans h.output, Nat.le_trans h.size k.size, fun x hx hn => (k.block x (Nat.lt_of_lt_of_le hx h.size) hn).trans (h.block x hx hn)⟩
theorem Keep.setNew {d g : Nat} {w w' : World} (h : Keep d w w') (hg : w.heap.size ≤ g) (o : Nat) (v : Value) : Keep d w (w'.setCell ⟨g, o, none⟩ v) :=
  ⟨h.os, h.tape, h.output, Nat.le_trans h.size (by simp [World.setCell]), fun x hx hn => by
    rw [Below.heap_setCell _ _ _ _ (show x ≠ g by omega)]; exact h.block x hx hn⟩
theorem Keep.setD {d : Nat} {w w' : World} (h : Keep d w w') (o : Nat) (v : Value) : Keep d w (w'.setCell ⟨d, o, none⟩ v) :=
  ⟨h.os, h.tape, h.output, Nat.le_trans h.size (by simp [World.setCell]), fun x hx hn => by
    rw [Below.heap_setCell _ _ _ _ hn]; exact h.block x hx hn⟩

def fillM (k n i : Nat) : List Int := (List.range n).map fun j => if j < i then (drawI 1 ((k + j : Nat) : Int)).tmod 17 - 8 else 0
theorem fillM_zero (k n : Nat) : fillM k n 0 = List.replicate n 0 := by
  apply List.ext_getElem
  · simp [fillM]
  · intro i h1 h2; simp [fillM]
theorem fillM_all (k n : Nat) : fillM k n n = matL k n := by
  unfold fillM matL
  apply List.map_congr_left
  intro i hi
  rw [List.mem_range] at hi
  rw [if_pos hi]
theorem fillM_len (k n i : Nat) : (fillM k n i).length = n := by simp [fillM]
theorem fillM_set (k n i : Nat) (_h : i < n) : (fillM k n i).set i ((drawI 1 ((k + i : Nat) : Int)).tmod 17 - 8) = fillM k n (i + 1) := by
  apply List.ext_getElem
  · simp [fillM]
  · intro j h1 h2
    rw [List.getElem_set]
    simp only [fillM, List.getElem_map, List.getElem_range]
    by_cases e : i = j
    · subst e; simp
    · rw [if_neg e]
      by_cases e2 : j < i
      · rw [if_pos e2, if_pos (by omega)]
      · rw [if_neg e2, if_neg (by omega)]

set_option maxRecDepth 100000 in
set_option maxHeartbeats 1600000 in
theorem mat_any (k n sb db : Nat) (hn : n ≤ 100) (hk : k ≤ 1000) (w : World) (hs : Blk w sb [.int .i64 1] 3) (hd : Blk w db [.int .i64 k] 3) (hne : sb ≠ db) :
    Calls Tryz.prog 55 #[.int .i64 n, .pointer (some ⟨sb, 0, none⟩), .pointer (some ⟨db, 0, none⟩)] w fun e w' => ∃ g, e = .returned (.slice (some ⟨g, 0, none⟩) n n) ∧ Hid (Keep db w w') ∧ Hid (Blk w' db [.int .i64 ((k + n : Nat) : Int)] 3) ∧ Hid (Blk w' g (ints (matL k n)) 3) ∧ Hid (w.heap.size ≤ g) := by
  obtain ⟨w1, hmk, hb1, hk1⟩ : ∃ w1, Sem.run Tryz.prog (Instr.makeSlice 22 (.int .i64 n) (.int .i64 n)) w = .ok (.slice (some ⟨w.heap.size, 0, none⟩) n n) w1 ∧ Below w.heap.size w w1 ∧ Blk w1 w.heap.size (ints (fillM k n 0)) 3 :=
    ⟨_, make_ints n (by omega) w, (Below.refl _ _).alloc (Nat.le_refl _) _, by rw [fillM_zero]; exact heap_alloc_new w _⟩
  have HS := Lib.hid hs
  have HD := Lib.hid (hd.below hb1)
  have HK := Lib.hid (Keep.of_below (d := db) hb1)
  have HK1 := Lib.hid hk1
  have HNE := Lib.hid hne
  have HSL := Lib.hid hs.lt
  have HDL := Lib.hid hd.lt
  generalize hg : w.heap.size = g at hmk HK1 HSL HDL
  have HG := Lib.hid hg
  clear hs hd hb1 hk1 hne hg
  go_enter Tryz.func55, Tryz.ntmps55
  go_wp2
  clear hmk
  go_loopg [11] n (fun gk s11 wx => ∃ i : Nat, s11 = .int .i64 i ∧ i ≤ n ∧ Hid (Keep db w wx) ∧ Hid (Blk wx db [.int .i64 ((k + i : Nat) : Int)] 3) ∧ Hid (Blk wx g (ints (fillM k n i)) 3) ∧ gk = n - i)
  case atStart => exact ⟨0, rfl, by omega, HK, HD, HK1, rfl⟩
  case round =>
    obtain ⟨i, rfl, hi, HKr, HDr, HGr, rfl⟩ := hrel
    by_cases hlt : i < n
    · have c1 : wr.cell? ⟨sb, 0, none⟩ = some (.int .i64 1) := by rw [(HKr.out.blk HS.out HNE.out).cell]; rfl
      have c2 : wr.cell? ⟨db, 0, none⟩ = some (.int .i64 ((k + i : Nat) : Int)) := by rw [HDr.out.cell]; rfl
      have f2 := HDr.out.frozen 0
      have c3 : wr.cell? ⟨g, i, none⟩ = some (.int .i64 ((fillM k n i).getD i 0)) := by rw [HGr.out.cell]; simp [ints, List.getD, fillM_len, hlt]
      have f3 := HGr.out.frozen i
      have hst := fillM_set k n i hlt
      have hd0 := drawI_in 1 ((k + i : Nat) : Int)
      have hm : (drawI 1 ((k + i : Nat) : Int)).tmod 17 = drawI 1 ((k + i : Nat) : Int) % 17 := Int.tmod_eq_emod_of_nonneg hd0.1
      rw [hm] at hst
      have HST := Lib.hid hst
      have hdr := draw_any 1 ((k + i : Nat) : Int)
      have HDR := Lib.hid hdr
      clear hst hm hdr
      generalize drawI 1 ((k + i : Nat) : Int) = dd at HST HDR hd0
      have e1 : IntKind.i64.wrap (((k + i : Nat) : Int) + 1) = ((k + (i + 1) : Nat) : Int) := by rw [IntWalk.i64_in _ (by omega)]; omega
      have e1' : wrap64 (((k + i : Nat) : Int) + 1) = ((k + (i + 1) : Nat) : Int) := by rw [← e1, wrapEq]
      generalize ((k + i : Nat) : Int) = ki at *
      generalize hkk : ((k + (i + 1) : Nat) : Int) = kk at e1 e1'
      have HKK := Lib.hid hkk
      have ne1 : g ≠ db := by have := HDL.out; omega
      have ti : (i : Int) < n := by omega
      clear hkk
      go_wp2_with (go_at_call 46; refine (HDR.out _).mono ?_; rintro e wz ⟨rfl, hz⟩; subst wz)
      go_roundg (n - (i + 1))
      case measure => omega
      case rel =>
        refine ⟨i + 1, by go_num, by omega, Lib.hid ((HKr.out.setNew (by rw [HG.out]; exact Nat.le_refl _) _ _).setD _ _), Lib.hid ?_, Lib.hid ?_, rfl⟩
        · have := (HDr.out.far (p := ⟨g, i, none⟩) (Ne.symm ne1) (.int .i64 (dd % 17 - 8))).set 0 (.int .i64 kk)
          rw [HKK.out]; exact this
        · have := (HGr.out.set i (.int .i64 (dd % 17 - 8))).far (p := ⟨db, 0, none⟩) ne1 (.int .i64 kk)
          rw [ints_set, HST.out] at this
          exact this
    · have : i = n := by omega
      subst this
      go_wp2
      go_ret
      exact ⟨_, rfl, HKr, HDr, Lib.hid (by rw [← fillM_all]; exact HGr.out), Lib.hid (by first | exact Nat.le_refl _ | (rw [HG.out]; exact Nat.le_refl _))⟩

theorem news_blk (w : World) (l : List Value) (t : TypeId) : Blk (w.alloc (.cells l.toArray t)) w.heap.size l t := heap_alloc_new w _
/-- A model's lists lie in blocks from n on. -/
def DemoFrom (n : Nat) (p : MPl) : Prop := n ≤ p.cuts.b ∧ n ≤ p.embed.b ∧ n ≤ p.place.b ∧ n ≤ p.mix.b ∧ n ≤ p.out.b ∧ n ≤ p.soft.b ∧ n ≤ p.odds.b
/-- The blocks of Make under way. -/
structure MkSt (w v : World) (k : Int) (ms : List Value) : Prop where
  s : Blk v w.heap.size [.int .i64 1] 3
  r : Blk v (w.heap.size + 1) [.int .i64 0, .int .i64 0, .int .i64 0, .int .i64 0, .slice none 0 0, .slice none 0 0, .slice none 0 0, .slice none 0 0, .slice none 0 0, .slice none 0 0, .slice none 0 0] 27
  d : Blk v (w.heap.size + 1 + 1) [.int .i64 k] 3
  c : Blk v (w.heap.size + 1 + 1 + 1) (ints [4, 6, 8, 3]) 3
  m : Blk v (w.heap.size + 1 + 1 + 1 + 1) ms 27
  b : Below w.heap.size w v
theorem MkSt.kept {w v v' : World} {k k' : Int} {ms : List Value} (h : MkSt w v k ms) (hk : Keep (w.heap.size + 1 + 1) v v') (hd : Blk v' (w.heap.size + 1 + 1) [.int .i64 k'] 3) : MkSt w v' k' ms :=
  ⟨hk.blk h.s (by omega), hk.blk h.r (by omega), hd, hk.blk h.c (by omega), hk.blk h.m (by omega), hk.below h.b (by omega)⟩
theorem MkSt.set {w v : World} {k : Int} {ms : List Value} (h : MkSt w v k ms) (o : Nat) (x : Value) : MkSt w (v.setCell ⟨w.heap.size + 1 + 1 + 1 + 1, o, none⟩ x) k (ms.set o x) :=
  ⟨h.s.far (by show w.heap.size ≠ w.heap.size + 1 + 1 + 1 + 1; omega) _, h.r.far (by show w.heap.size + 1 ≠ w.heap.size + 1 + 1 + 1 + 1; omega) _, h.d.far (by show w.heap.size + 1 + 1 ≠ w.heap.size + 1 + 1 + 1 + 1; omega) _, h.c.far (by show w.heap.size + 1 + 1 + 1 ≠ w.heap.size + 1 + 1 + 1 + 1; omega) _, h.m.set o x, h.b.setCell (by show w.heap.size ≤ w.heap.size + 1 + 1 + 1 + 1; omega) _⟩
theorem MkSt.alloc {w v : World} {k : Int} {ms : List Value} (h : MkSt w v k ms) (o : Obj) : MkSt w (v.alloc o) k ms :=
  ⟨h.s.alloc _, h.r.alloc _, h.d.alloc _, h.c.alloc _, h.m.alloc _, h.b.alloc h.b.size _⟩
theorem MkSt.lt {w v : World} {k : Int} {ms : List Value} (h : MkSt w v k ms) : w.heap.size + 1 + 1 + 1 + 1 < v.heap.size := h.m.lt
theorem Blk.kept {w v v' : World} {g : Nat} {l : List Value} (h : Blk v g l 3) (hg : w.heap.size + 1 + 1 + 1 + 1 < g) (hk : Keep (w.heap.size + 1 + 1) v v') (o : Nat) (x : Value) : Blk (v'.setCell ⟨w.heap.size + 1 + 1 + 1 + 1, o, none⟩ x) g l 3 :=
  (hk.blk h (by omega)).far (by show g ≠ w.heap.size + 1 + 1 + 1 + 1; omega) _

theorem info27 : (Tryz.prog.info? 27).map (·.size) = some 11 := by kernel_rfl
theorem load27 (w : World) (g : Nat) (cs : Array Value) (hg : w.heap[g]? = some (.cells cs 27 (0, 0))) (hs : cs.size = 11) : (loadVar 27 ⟨g, 0, none⟩).run Tryz.prog w = .ok (.agg cs) w :=
  run_loadVar_row w g 27 27 cs (0, 0) _ hg Tryz.underlying27 rfl (by rw [hs]; exact info27)
theorem results27 {fn : Func} {p u : Tmp} (h : fn.results = #[.cell p 27, .tmp u]) (tmps : Array Value) (w : World) (g : Nat) (cs : Array Value)
    (hp : tmps.getD p undef = .pointer (some ⟨g, 0, none⟩)) (hg : w.heap[g]? = some (.cells cs 27 (0, 0))) (hs : cs.size = 11) :
    (results fn tmps).run Tryz.prog w = .ok (.tuple #[.agg cs, tmps.getD u undef]) w := by
  rw [results_cell_tmp h, hp]
  simp [asAddr, Result.andThen, load27 w g cs hg hs]
set_option maxRecDepth 100000 in
set_option maxHeartbeats 3200000 in
theorem make_demo (w : World) :
    Calls Tryz.prog 25 #[.int .i64 1, .int .i64 1, .int .i64 8, .int .i64 4] w fun e w' => ∃ p, e = .returned (.tuple #[.agg (demoCells p).toArray, .int .i64 0]) ∧ Hid (Below w.heap.size w w') ∧ Hid (DemoAt w' p) ∧ Hid (DemoFrom w.heap.size p) := by
  go_enter Tryz.func25, Tryz.ntmps25
  go_upto_region 10 with (go_at_call 54; refine (sized_demo _).mono ?_; rintro e wz ⟨rfl, hz⟩; subst wz)
  obtain ⟨v1, hv1, hm1⟩ : ∃ v1 : World, (((((w.alloc (.cells #[.int .i64 1] 3)).alloc (.cells #[.int .i64 0, .int .i64 0, .int .i64 0, .int .i64 0, .slice none 0 0, .slice none 0 0, .slice none 0 0, .slice none 0 0, .slice none 0 0, .slice none 0 0, .slice none 0 0] 27)).alloc (.cells #[.int .i64 0] 3)).alloc (.cells #[.int .i64 4, .int .i64 6, .int .i64 8, .int .i64 3] 3)).alloc (.cells #[.int .i64 1, .int .i64 8, .int .i64 4, .int .i64 8, .slice (some ⟨w.heap.size + 1 + 1 + 1, 0, none⟩) 4 4, .slice none 0 0, .slice none 0 0, .slice none 0 0, .slice none 0 0, .slice none 0 0, .slice none 0 0] 27)) = v1 ∧ MkSt w v1 0 [.int .i64 1, .int .i64 8, .int .i64 4, .int .i64 8, .slice (some ⟨w.heap.size + 1 + 1 + 1, 0, none⟩) 4 4, .slice none 0 0, .slice none 0 0, .slice none 0 0, .slice none 0 0, .slice none 0 0, .slice none 0 0] := by
    refine ⟨_, rfl, ?_, ?_, ?_, ?_, ?_, ?_⟩
    · exact ((((news_blk w [.int .i64 1] 3).alloc _).alloc _).alloc _).alloc _
    · have := (((news_blk (w.alloc (.cells #[.int .i64 1] 3)) [.int .i64 0, .int .i64 0, .int .i64 0, .int .i64 0, .slice none 0 0, .slice none 0 0, .slice none 0 0, .slice none 0 0, .slice none 0 0, .slice none 0 0, .slice none 0 0] 27).alloc (.cells #[.int .i64 0] 3)).alloc (.cells #[.int .i64 4, .int .i64 6, .int .i64 8, .int .i64 3] 3)).alloc (.cells #[.int .i64 1, .int .i64 8, .int .i64 4, .int .i64 8, .slice (some ⟨w.heap.size + 1 + 1 + 1, 0, none⟩) 4 4, .slice none 0 0, .slice none 0 0, .slice none 0 0, .slice none 0 0, .slice none 0 0, .slice none 0 0] 27)
      simp only [World.size_alloc] at this
      exact this
    · have := ((news_blk ((w.alloc (.cells #[.int .i64 1] 3)).alloc (.cells #[.int .i64 0, .int .i64 0, .int .i64 0, .int .i64 0, .slice none 0 0, .slice none 0 0, .slice none 0 0, .slice none 0 0, .slice none 0 0, .slice none 0 0, .slice none 0 0] 27)) [.int .i64 0] 3).alloc (.cells #[.int .i64 4, .int .i64 6, .int .i64 8, .int .i64 3] 3)).alloc (.cells #[.int .i64 1, .int .i64 8, .int .i64 4, .int .i64 8, .slice (some ⟨w.heap.size + 1 + 1 + 1, 0, none⟩) 4 4, .slice none 0 0, .slice none 0 0, .slice none 0 0, .slice none 0 0, .slice none 0 0, .slice none 0 0] 27)
      simp only [World.size_alloc] at this
      exact this
    · have := (news_blk (((w.alloc (.cells #[.int .i64 1] 3)).alloc (.cells #[.int .i64 0, .int .i64 0, .int .i64 0, .int .i64 0, .slice none 0 0, .slice none 0 0, .slice none 0 0, .slice none 0 0, .slice none 0 0, .slice none 0 0, .slice none 0 0] 27)).alloc (.cells #[.int .i64 0] 3)) [.int .i64 4, .int .i64 6, .int .i64 8, .int .i64 3] 3).alloc (.cells #[.int .i64 1, .int .i64 8, .int .i64 4, .int .i64 8, .slice (some ⟨w.heap.size + 1 + 1 + 1, 0, none⟩) 4 4, .slice none 0 0, .slice none 0 0, .slice none 0 0, .slice none 0 0, .slice none 0 0, .slice none 0 0] 27)
      simp only [World.size_alloc] at this
      exact this
    · have := news_blk ((((w.alloc (.cells #[.int .i64 1] 3)).alloc (.cells #[.int .i64 0, .int .i64 0, .int .i64 0, .int .i64 0, .slice none 0 0, .slice none 0 0, .slice none 0 0, .slice none 0 0, .slice none 0 0, .slice none 0 0, .slice none 0 0] 27)).alloc (.cells #[.int .i64 0] 3)).alloc (.cells #[.int .i64 4, .int .i64 6, .int .i64 8, .int .i64 3] 3)) [.int .i64 1, .int .i64 8, .int .i64 4, .int .i64 8, .slice (some ⟨w.heap.size + 1 + 1 + 1, 0, none⟩) 4 4, .slice none 0 0, .slice none 0 0, .slice none 0 0, .slice none 0 0, .slice none 0 0, .slice none 0 0] 27
      simp only [World.size_alloc] at this
      exact this
    · exact (((((Below.refl _ _).alloc (Nat.le_refl _) _).alloc (by simp only [World.size_alloc]; omega) _).alloc (by simp only [World.size_alloc]; omega) _).alloc (by simp only [World.size_alloc]; omega) _).alloc (by simp only [World.size_alloc]; omega) _
  rw [hv1]
  have HM1 := Lib.hid hm1
  clear hm1 hv1
  have HC1 := Lib.hid (mat_any 0 32 w.heap.size (w.heap.size + 1 + 1) (by omega) (by omega) v1 HM1.out.s HM1.out.d (by omega))
  go_upto_region 11 with (go_at_call 55; refine HC1.out.mono ?_; rintro e u1 ⟨g5, rfl, HK1, HD1, HG1, HL1⟩; have HU1 := Lib.hid (HM1.out.kept HK1.out HD1.out); have fu := HU1.out.m.frozen; have cu := HU1.out.m.cell)
  have HM2 := Lib.hid (HU1.out.set 5 (.slice (some ⟨g5, 0, none⟩) 32 32))
  have HGL1 := Lib.hid (show w.heap.size + 1 + 1 + 1 + 1 < g5 by have := HM1.out.lt; have := HL1.out; omega)
  have HR1_1 := Lib.hid ((HG1.out).far (p := ⟨w.heap.size + 1 + 1 + 1 + 1, 5, none⟩) (by have := HGL1.out; show g5 ≠ w.heap.size + 1 + 1 + 1 + 1; omega) (.slice (some ⟨g5, 0, none⟩) 32 32))
  generalize u1.setCell ⟨w.heap.size + 1 + 1 + 1 + 1, 5, none⟩ (.slice (some ⟨g5, 0, none⟩) 32 32) = v2 at HM2 HR1_1 ⊢
  clear fu cu HC1
  have HC2 := Lib.hid (mat_any 32 16 w.heap.size (w.heap.size + 1 + 1) (by omega) (by omega) v2 HM2.out.s HM2.out.d (by omega))
  go_upto_region 12 with (go_at_call 55; refine HC2.out.mono ?_; rintro e u2 ⟨g6, rfl, HK2, HD2, HG2, HL2⟩; have HU2 := Lib.hid (HM2.out.kept HK2.out HD2.out); have fu := HU2.out.m.frozen; have cu := HU2.out.m.cell)
  have HM3 := Lib.hid (HU2.out.set 6 (.slice (some ⟨g6, 0, none⟩) 16 16))
  have HGL2 := Lib.hid (show w.heap.size + 1 + 1 + 1 + 1 < g6 by have := HM2.out.lt; have := HL2.out; omega)
  have HR2_2 := Lib.hid ((HG2.out).far (p := ⟨w.heap.size + 1 + 1 + 1 + 1, 6, none⟩) (by have := HGL2.out; show g6 ≠ w.heap.size + 1 + 1 + 1 + 1; omega) (.slice (some ⟨g6, 0, none⟩) 16 16))
  have HR1_2 := Lib.hid (HR1_1.out.kept HGL1.out HK2.out 6 (.slice (some ⟨g6, 0, none⟩) 16 16))
  generalize u2.setCell ⟨w.heap.size + 1 + 1 + 1 + 1, 6, none⟩ (.slice (some ⟨g6, 0, none⟩) 16 16) = v3 at HM3 HR1_2 HR2_2 ⊢
  clear fu cu HC2
  have HC3 := Lib.hid (mat_any 48 48 w.heap.size (w.heap.size + 1 + 1) (by omega) (by omega) v3 HM3.out.s HM3.out.d (by omega))
  go_upto_region 13 with (go_at_call 55; refine HC3.out.mono ?_; rintro e u3 ⟨g7, rfl, HK3, HD3, HG3, HL3⟩; have HU3 := Lib.hid (HM3.out.kept HK3.out HD3.out); have fu := HU3.out.m.frozen; have cu := HU3.out.m.cell)
  have HM4 := Lib.hid (HU3.out.set 7 (.slice (some ⟨g7, 0, none⟩) 48 48))
  have HGL3 := Lib.hid (show w.heap.size + 1 + 1 + 1 + 1 < g7 by have := HM3.out.lt; have := HL3.out; omega)
  have HR3_3 := Lib.hid ((HG3.out).far (p := ⟨w.heap.size + 1 + 1 + 1 + 1, 7, none⟩) (by have := HGL3.out; show g7 ≠ w.heap.size + 1 + 1 + 1 + 1; omega) (.slice (some ⟨g7, 0, none⟩) 48 48))
  have HR1_3 := Lib.hid (HR1_2.out.kept HGL1.out HK3.out 7 (.slice (some ⟨g7, 0, none⟩) 48 48))
  have HR2_3 := Lib.hid (HR2_2.out.kept HGL2.out HK3.out 7 (.slice (some ⟨g7, 0, none⟩) 48 48))
  generalize u3.setCell ⟨w.heap.size + 1 + 1 + 1 + 1, 7, none⟩ (.slice (some ⟨g7, 0, none⟩) 48 48) = v4 at HM4 HR1_3 HR2_3 HR3_3 ⊢
  clear fu cu HC3
  have HC4 := Lib.hid (mat_any 96 32 w.heap.size (w.heap.size + 1 + 1) (by omega) (by omega) v4 HM4.out.s HM4.out.d (by omega))
  go_upto_region 14 with (go_at_call 55; refine HC4.out.mono ?_; rintro e u4 ⟨g8, rfl, HK4, HD4, HG4, HL4⟩; have HU4 := Lib.hid (HM4.out.kept HK4.out HD4.out); have fu := HU4.out.m.frozen; have cu := HU4.out.m.cell)
  have HM5 := Lib.hid (HU4.out.set 8 (.slice (some ⟨g8, 0, none⟩) 32 32))
  have HGL4 := Lib.hid (show w.heap.size + 1 + 1 + 1 + 1 < g8 by have := HM4.out.lt; have := HL4.out; omega)
  have HR4_4 := Lib.hid ((HG4.out).far (p := ⟨w.heap.size + 1 + 1 + 1 + 1, 8, none⟩) (by have := HGL4.out; show g8 ≠ w.heap.size + 1 + 1 + 1 + 1; omega) (.slice (some ⟨g8, 0, none⟩) 32 32))
  have HR1_4 := Lib.hid (HR1_3.out.kept HGL1.out HK4.out 8 (.slice (some ⟨g8, 0, none⟩) 32 32))
  have HR2_4 := Lib.hid (HR2_3.out.kept HGL2.out HK4.out 8 (.slice (some ⟨g8, 0, none⟩) 32 32))
  have HR3_4 := Lib.hid (HR3_3.out.kept HGL3.out HK4.out 8 (.slice (some ⟨g8, 0, none⟩) 32 32))
  generalize u4.setCell ⟨w.heap.size + 1 + 1 + 1 + 1, 8, none⟩ (.slice (some ⟨g8, 0, none⟩) 32 32) = v5 at HM5 HR1_4 HR2_4 HR3_4 HR4_4 ⊢
  clear fu cu HC4
  obtain ⟨u5, hu5, hmu5, hks, hle⟩ : ∃ u5 : World, v5.alloc (.cells #[.int .i64 64, .int .i64 32, .int .i64 16, .int .i64 8, .int .i64 4, .int .i64 2, .int .i64 1] 3) = u5 ∧ MkSt w u5 (↑(96 + 32)) _ ∧ Blk u5 v5.heap.size (ints [64, 32, 16, 8, 4, 2, 1]) 3 ∧ Below v5.heap.size v5 u5 := ⟨_, rfl, HM5.out.alloc _, news_blk v5 _ 3, (Below.refl _ _).alloc (Nat.le_refl _) _⟩
  have HU5 := Lib.hid hmu5
  have HKS := Lib.hid hks
  have HLE5 := Lib.hid hle
  have HLT5 := Lib.hid HM5.out.lt
  have fm := hmu5.m.frozen
  have cm := hmu5.m.cell
  generalize hn5 : v5.heap.size = n5 at hks HKS
  clear hmu5 hks hle
  go_upto_region 15 with fail
  try rw [hn5]
  have HM6 := Lib.hid (HU5.out.set 9 (.slice (some ⟨n5, 0, none⟩) 7 7))
  have HKS6 := Lib.hid (HKS.out.far (p := ⟨w.heap.size + 1 + 1 + 1 + 1, 9, none⟩) (by have := HLT5.out; show n5 ≠ w.heap.size + 1 + 1 + 1 + 1; omega) (.slice (some ⟨n5, 0, none⟩) 7 7))
  have HR1_5 := Lib.hid ((HR1_4.out.below HLE5.out).far (p := ⟨w.heap.size + 1 + 1 + 1 + 1, 9, none⟩) (by have := HGL1.out; show g5 ≠ w.heap.size + 1 + 1 + 1 + 1; omega) (.slice (some ⟨n5, 0, none⟩) 7 7))
  have HR2_5 := Lib.hid ((HR2_4.out.below HLE5.out).far (p := ⟨w.heap.size + 1 + 1 + 1 + 1, 9, none⟩) (by have := HGL2.out; show g6 ≠ w.heap.size + 1 + 1 + 1 + 1; omega) (.slice (some ⟨n5, 0, none⟩) 7 7))
  have HR3_5 := Lib.hid ((HR3_4.out.below HLE5.out).far (p := ⟨w.heap.size + 1 + 1 + 1 + 1, 9, none⟩) (by have := HGL3.out; show g7 ≠ w.heap.size + 1 + 1 + 1 + 1; omega) (.slice (some ⟨n5, 0, none⟩) 7 7))
  have HR4_5 := Lib.hid ((HR4_4.out.below HLE5.out).far (p := ⟨w.heap.size + 1 + 1 + 1 + 1, 9, none⟩) (by have := HGL4.out; show g8 ≠ w.heap.size + 1 + 1 + 1 + 1; omega) (.slice (some ⟨n5, 0, none⟩) 7 7))
  generalize u5.setCell ⟨w.heap.size + 1 + 1 + 1 + 1, 9, none⟩ (.slice (some ⟨n5, 0, none⟩) 7 7) = v6 at HM6 HKS6 HR1_5 HR2_5 HR3_5 HR4_5 ⊢
  clear fm cm hu5
  obtain ⟨u6, hu6, hmu6, hko, hle⟩ : ∃ u6 : World, v6.alloc (.cells #[.int .i64 32, .int .i64 16, .int .i64 8, .int .i64 4, .int .i64 2, .int .i64 1] 3) = u6 ∧ MkSt w u6 (↑(96 + 32)) _ ∧ Blk u6 v6.heap.size (ints [32, 16, 8, 4, 2, 1]) 3 ∧ Below v6.heap.size v6 u6 := ⟨_, rfl, HM6.out.alloc _, news_blk v6 _ 3, (Below.refl _ _).alloc (Nat.le_refl _) _⟩
  have HU6 := Lib.hid hmu6
  have HKO := Lib.hid hko
  have HLE6 := Lib.hid hle
  have HLT6 := Lib.hid HM6.out.lt
  have fm := hmu6.m.frozen
  have cm := hmu6.m.cell
  generalize hn6 : v6.heap.size = n6 at hko HKO
  clear hmu6 hko hle
  go_upto_region 16 with fail
  try rw [hn6]
  have HM7 := Lib.hid (HU6.out.set 10 (.slice (some ⟨n6, 0, none⟩) 6 6))
  have HKS7 := Lib.hid ((HKS6.out.below HLE6.out).far (p := ⟨w.heap.size + 1 + 1 + 1 + 1, 10, none⟩) (by have := HLT5.out; show n5 ≠ w.heap.size + 1 + 1 + 1 + 1; omega) (.slice (some ⟨n6, 0, none⟩) 6 6))
  have HKO7 := Lib.hid (HKO.out.far (p := ⟨w.heap.size + 1 + 1 + 1 + 1, 10, none⟩) (by have := HLT6.out; show n6 ≠ w.heap.size + 1 + 1 + 1 + 1; omega) (.slice (some ⟨n6, 0, none⟩) 6 6))
  have HR1_6 := Lib.hid ((HR1_5.out.below HLE6.out).far (p := ⟨w.heap.size + 1 + 1 + 1 + 1, 10, none⟩) (by have := HGL1.out; show g5 ≠ w.heap.size + 1 + 1 + 1 + 1; omega) (.slice (some ⟨n6, 0, none⟩) 6 6))
  have HR2_6 := Lib.hid ((HR2_5.out.below HLE6.out).far (p := ⟨w.heap.size + 1 + 1 + 1 + 1, 10, none⟩) (by have := HGL2.out; show g6 ≠ w.heap.size + 1 + 1 + 1 + 1; omega) (.slice (some ⟨n6, 0, none⟩) 6 6))
  have HR3_6 := Lib.hid ((HR3_5.out.below HLE6.out).far (p := ⟨w.heap.size + 1 + 1 + 1 + 1, 10, none⟩) (by have := HGL3.out; show g7 ≠ w.heap.size + 1 + 1 + 1 + 1; omega) (.slice (some ⟨n6, 0, none⟩) 6 6))
  have HR4_6 := Lib.hid ((HR4_5.out.below HLE6.out).far (p := ⟨w.heap.size + 1 + 1 + 1 + 1, 10, none⟩) (by have := HGL4.out; show g8 ≠ w.heap.size + 1 + 1 + 1 + 1; omega) (.slice (some ⟨n6, 0, none⟩) 6 6))
  generalize u6.setCell ⟨w.heap.size + 1 + 1 + 1 + 1, 10, none⟩ (.slice (some ⟨n6, 0, none⟩) 6 6) = v7 at HM7 HKS7 HKO7 HR1_6 HR2_6 HR3_6 HR4_6 ⊢
  clear fm cm hu6
  have cm := HM7.out.m.cell
  have cr := HM7.out.r.cell
  have fr := HM7.out.r.frozen
  simp only [List.set_cons_succ, List.set_cons_zero] at cm
  go_wp2
  obtain ⟨w9, hw9, hk9, hb9⟩ : ∃ w9 : World, (((((((((((v7.setCell ⟨w.heap.size + 1, 0, none⟩ (.int .i64 1)).setCell ⟨w.heap.size + 1, 1, none⟩ (.int .i64 8)).setCell ⟨w.heap.size + 1, 2, none⟩ (.int .i64 4)).setCell ⟨w.heap.size + 1, 3, none⟩ (.int .i64 8)).setCell ⟨w.heap.size + 1, 4, none⟩ (.slice (some ⟨w.heap.size + 1 + 1 + 1, 0, none⟩) 4 4)).setCell ⟨w.heap.size + 1, 5, none⟩ (.slice (some ⟨g5, 0, none⟩) 32 32)).setCell ⟨w.heap.size + 1, 6, none⟩ (.slice (some ⟨g6, 0, none⟩) 16 16)).setCell ⟨w.heap.size + 1, 7, none⟩ (.slice (some ⟨g7, 0, none⟩) 48 48)).setCell ⟨w.heap.size + 1, 8, none⟩ (.slice (some ⟨g8, 0, none⟩) 32 32)).setCell ⟨w.heap.size + 1, 9, none⟩ (.slice (some ⟨n5, 0, none⟩) 7 7)).setCell ⟨w.heap.size + 1, 10, none⟩ (.slice (some ⟨n6, 0, none⟩) 6 6)) = w9 ∧ Keep (w.heap.size + 1) v7 w9 ∧ Blk w9 (w.heap.size + 1) (demoCells ⟨⟨w.heap.size + 1 + 1 + 1, 0, 4⟩, ⟨g5, 0, 32⟩, ⟨g6, 0, 16⟩, ⟨g7, 0, 48⟩, ⟨g8, 0, 32⟩, ⟨n5, 0, 7⟩, ⟨n6, 0, 6⟩⟩) 27 :=
    ⟨_, rfl, (((((((((((Keep.of_below (Below.refl _ _)).setD 0 _).setD 1 _).setD 2 _).setD 3 _).setD 4 _).setD 5 _).setD 6 _).setD 7 _).setD 8 _).setD 9 _).setD 10 _, (((((((((((HM7.out.r.set 0 (.int .i64 1)).set 1 (.int .i64 8)).set 2 (.int .i64 4)).set 3 (.int .i64 8)).set 4 (.slice (some ⟨w.heap.size + 1 + 1 + 1, 0, none⟩) 4 4)).set 5 (.slice (some ⟨g5, 0, none⟩) 32 32)).set 6 (.slice (some ⟨g6, 0, none⟩) 16 16)).set 7 (.slice (some ⟨g7, 0, none⟩) 48 48)).set 8 (.slice (some ⟨g8, 0, none⟩) 32 32)).set 9 (.slice (some ⟨n5, 0, none⟩) 7 7)).set 10 (.slice (some ⟨n6, 0, none⟩) 6 6))⟩
  rw [hw9]
  have hbel := hk9.below HM7.out.b (by omega)
  have l0 : ∀ (g n : Nat) (l : List Int), Blk v7 g (ints l) 3 → l.length = n → n ≤ 1000 → 0 < n → w.heap.size + 1 ≠ g → RdAt w9 g 0 n l := fun g n l hb hl hn h0 hne => by
    have hb2 : Blk v7 g (ints l ++ []) 3 := by rw [List.append_nil]; exact hb
    exact hk9.rd (hb2.rdat (by omega) (by unfold maxLen; omega)) (by omega) (Ne.symm hne)
  refine bodyPost_ret (results27 rfl _ _ (w.heap.size + 1) _ rfl hb9 rfl) rfl ?_
  refine ⟨_, rfl, Lib.hid hbel, Lib.hid ⟨?_, ?_, ?_, ?_, ?_, ?_, ?_⟩, Lib.hid ?_⟩
  · exact l0 (w.heap.size + 1 + 1 + 1) 4 _ HM7.out.c rfl (by omega) (by omega) (by omega)
  · exact l0 g5 32 _ HR1_6.out (matL_len _ _) (by omega) (by omega) (by have := HGL1.out; omega)
  · exact l0 g6 16 _ HR2_6.out (matL_len _ _) (by omega) (by omega) (by have := HGL2.out; omega)
  · exact l0 g7 48 _ HR3_6.out (matL_len _ _) (by omega) (by omega) (by have := HGL3.out; omega)
  · exact l0 g8 32 _ HR4_6.out (matL_len _ _) (by omega) (by omega) (by have := HGL4.out; omega)
  · exact l0 n5 7 _ HKS7.out rfl (by omega) (by omega) (by have := HLT5.out; omega)
  · exact l0 n6 6 _ HKO7.out rfl (by omega) (by omega) (by have := HLT6.out; omega)
  · have a1 := HGL1.out; have a2 := HGL2.out; have a3 := HGL3.out; have a4 := HGL4.out; have a5 := HLT5.out; have a6 := HLT6.out
    exact ⟨by show _ ≤ w.heap.size + 1 + 1 + 1; omega, by show _ ≤ g5; omega, by show _ ≤ g6; omega, by show _ ≤ g7; omega, by show _ ≤ g8; omega, by show _ ≤ n5; omega, by show _ ≤ n6; omega⟩
end Go.Proofs.YtllpoaoboieijaaGreat
