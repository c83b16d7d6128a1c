/-
  Models: Demo, Vocabulary.
  acceptable: the walk.
  A row of entries that grows; a model's places in a server.
-/
import Derived.Test.YtllpoaoboieijaaGreatSa12
import Derived.Test.YtllpoaoboieijaaGreatSa14
import Derived.Test.YtllpoaoboieijaaGreatSa21
import Derived.Test.YtllpoaoboieijaaGreatSa22
/-
  Models: Demo, Vocabulary.
-/
namespace Go.Proofs.YtllpoaoboieijaaGreat
open Go.RowKit

set_option maxRecDepth 100000 in
set_option maxHeartbeats 1600000 in
theorem vocab_any (p : MPl) (w : World) (h : DemoAt w p) : Calls Tryz.prog 27 #[.agg (demoCells p).toArray] w fun e w' => e = .returned (.tuple #[.int .i64 8, .int .i64 0]) ∧ Below w.heap.size w w' := by
  obtain ⟨wb, hwb, hbel, hblk⟩ : ∃ wb, w.alloc (.cells (demoCells p).toArray 27) = wb ∧ Below w.heap.size w wb ∧ Blk wb w.heap.size (demoCells p) 27 := ⟨_, rfl, (Below.refl _ _).alloc (Nat.le_refl _) _, heap_alloc_new w _⟩
  have HQ := Lib.hid (fun (wx : World) (hb : Below wb.heap.size wb wx) => (hblk.below hb).cell)
  have q0 := hblk.cell
  have HB := Lib.hid hbel
  have HWB := Lib.hid hwb
  have HC := Lib.hid (check_any p wb (h.below hbel))
  clear hbel hblk h
  simp only [demoCells] at q0 HQ HC hwb ⊢
  go_enter Tryz.func27, Tryz.ntmps27
  go_wp2_with (go_at_call 40; refine HC.out.mono ?_; rintro e w1 ⟨rfl, hb1⟩; have HB1 := Lib.hid hb1; clear hb1; have q1 := HQ.out _ HB1.out)
  go_ret2
  exact ⟨rfl, HB.out.trans (HB1.out.mono HB.out.size)⟩

set_option maxRecDepth 100000 in
set_option maxHeartbeats 3200000 in
theorem demo_any (w : World) :
    Calls Tryz.prog 5 #[] w fun e w' => ∃ p, e = .returned (.agg (demoCells p).toArray) ∧ Hid (Below w.heap.size w w') ∧ Hid (DemoAt w' p) ∧ Hid (DemoFrom w.heap.size p) := by
  obtain ⟨w1, hw1, hb1, hk1⟩ : ∃ w1, w.alloc (.cells #[.int .i64 0, .int .i64 0, .int .i64 0, .int .i64 0, .slice none 0 0, .slice none 0 0, .slice none 0 0, .slice none 0 0, .slice none 0 0, .slice none 0 0, .slice none 0 0] 27) = w1 ∧ Below w.heap.size w w1 ∧ Blk w1 w.heap.size [.int .i64 0, .int .i64 0, .int .i64 0, .int .i64 0, .slice none 0 0, .slice none 0 0, .slice none 0 0, .slice none 0 0, .slice none 0 0, .slice none 0 0, .slice none 0 0] 27 := ⟨_, rfl, (Below.refl _ _).alloc (Nat.le_refl _) _, heap_alloc_new w _⟩
  have HB1 := Lib.hid hb1
  have HK1 := Lib.hid hk1
  have HMK : Hid (Calls Tryz.prog 25 #[.int .i64 1, .int .i64 1, .int .i64 8, .int .i64 4] w1 fun e w' => ∃ p, e = .returned (.tuple #[.agg (demoCells p).toArray, .int .i64 0]) ∧ Hid (Below w1.heap.size w1 w') ∧ Hid (DemoAt w' p) ∧ Hid (DemoFrom w1.heap.size p)) := Lib.hid (make_demo w1)
  clear hb1 hk1
  go_enter Tryz.func5, Tryz.ntmps5
  go_upto_region 2 with (go_at_call 25; refine HMK.out.mono ?_; rintro e w2 ⟨p, rfl, HB2, HD2, HF2⟩; unfold demoCells)
  obtain ⟨w3, hw3, hk3, hm3, hb3⟩ : ∃ w3, w2.alloc (.cells #[.int .i64 1, .int .i64 8, .int .i64 4, .int .i64 8, .slice (some ⟨p.cuts.b, p.cuts.o, none⟩) 4 p.cuts.c, .slice (some ⟨p.embed.b, p.embed.o, none⟩) 32 p.embed.c, .slice (some ⟨p.place.b, p.place.o, none⟩) 16 p.place.c, .slice (some ⟨p.mix.b, p.mix.o, none⟩) 48 p.mix.c, .slice (some ⟨p.out.b, p.out.o, none⟩) 32 p.out.c, .slice (some ⟨p.soft.b, p.soft.o, none⟩) 7 p.soft.c, .slice (some ⟨p.odds.b, p.odds.o, none⟩) 6 p.odds.c] 27) = w3 ∧ Blk w3 w.heap.size _ 27 ∧ Blk w3 w2.heap.size [.int .i64 1, .int .i64 8, .int .i64 4, .int .i64 8, .slice (some ⟨p.cuts.b, p.cuts.o, none⟩) 4 p.cuts.c, .slice (some ⟨p.embed.b, p.embed.o, none⟩) 32 p.embed.c, .slice (some ⟨p.place.b, p.place.o, none⟩) 16 p.place.c, .slice (some ⟨p.mix.b, p.mix.o, none⟩) 48 p.mix.c, .slice (some ⟨p.out.b, p.out.o, none⟩) 32 p.out.c, .slice (some ⟨p.soft.b, p.soft.o, none⟩) 7 p.soft.c, .slice (some ⟨p.odds.b, p.odds.o, none⟩) 6 p.odds.c] 27 ∧ Below w2.heap.size w2 w3 := ⟨_, rfl, (HK1.out.below HB2.out).alloc _, heap_alloc_new w2 _, (Below.refl _ _).alloc (Nat.le_refl _) _⟩
  rw [hw3]
  have c3 := hk3.cell
  have f3 := hk3.frozen
  have m3 := hm3.cell
  have hbel : Below w.heap.size w w3 := HB1.out.trans ((HB2.out.trans (hb3.mono HB2.out.size)).mono HB1.out.size)
  have HBEL := Lib.hid hbel
  have HD3 := Lib.hid (HD2.out.below hb3)
  have HF := Lib.hid (show DemoFrom (w.heap.size + 1) p by
    have h1 : w1.heap.size = w.heap.size + 1 := by rw [← hw1]; simp only [World.size_alloc]
    have := HF2.out
    rw [h1] at this
    exact this)
  have HK3 := Lib.hid hk3
  clear hm3 hb3 hbel hw3 hw1 hk3
  go_wp2
  obtain ⟨w9, hw9, hk9, hb9⟩ : ∃ w9 : World, (((((((((((w3.setCell ⟨w.heap.size, 0, none⟩ (.int .i64 1)).setCell ⟨w.heap.size, 1, none⟩ (.int .i64 8)).setCell ⟨w.heap.size, 2, none⟩ (.int .i64 4)).setCell ⟨w.heap.size, 3, none⟩ (.int .i64 8)).setCell ⟨w.heap.size, 4, none⟩ (.slice (some ⟨p.cuts.b, p.cuts.o, none⟩) 4 p.cuts.c)).setCell ⟨w.heap.size, 5, none⟩ (.slice (some ⟨p.embed.b, p.embed.o, none⟩) 32 p.embed.c)).setCell ⟨w.heap.size, 6, none⟩ (.slice (some ⟨p.place.b, p.place.o, none⟩) 16 p.place.c)).setCell ⟨w.heap.size, 7, none⟩ (.slice (some ⟨p.mix.b, p.mix.o, none⟩) 48 p.mix.c)).setCell ⟨w.heap.size, 8, none⟩ (.slice (some ⟨p.out.b, p.out.o, none⟩) 32 p.out.c)).setCell ⟨w.heap.size, 9, none⟩ (.slice (some ⟨p.soft.b, p.soft.o, none⟩) 7 p.soft.c)).setCell ⟨w.heap.size, 10, none⟩ (.slice (some ⟨p.odds.b, p.odds.o, none⟩) 6 p.odds.c)) = w9 ∧ Keep w.heap.size w3 w9 ∧ Blk w9 w.heap.size [.int .i64 1, .int .i64 8, .int .i64 4, .int .i64 8, .slice (some ⟨p.cuts.b, p.cuts.o, none⟩) 4 p.cuts.c, .slice (some ⟨p.embed.b, p.embed.o, none⟩) 32 p.embed.c, .slice (some ⟨p.place.b, p.place.o, none⟩) 16 p.place.c, .slice (some ⟨p.mix.b, p.mix.o, none⟩) 48 p.mix.c, .slice (some ⟨p.out.b, p.out.o, none⟩) 32 p.out.c, .slice (some ⟨p.soft.b, p.soft.o, none⟩) 7 p.soft.c, .slice (some ⟨p.odds.b, p.odds.o, none⟩) 6 p.odds.c] 27 :=
    ⟨_, rfl, (((((((((((Keep.of_below (Below.refl _ _)).setD 0 _).setD 1 _).setD 2 _).setD 3 _).setD 4 _).setD 5 _).setD 6 _).setD 7 _).setD 8 _).setD 9 _).setD 10 _, (((((((((((HK3.out.set 0 (.int .i64 1)).set 1 (.int .i64 8)).set 2 (.int .i64 4)).set 3 (.int .i64 8)).set 4 (.slice (some ⟨p.cuts.b, p.cuts.o, none⟩) 4 p.cuts.c)).set 5 (.slice (some ⟨p.embed.b, p.embed.o, none⟩) 32 p.embed.c)).set 6 (.slice (some ⟨p.place.b, p.place.o, none⟩) 16 p.place.c)).set 7 (.slice (some ⟨p.mix.b, p.mix.o, none⟩) 48 p.mix.c)).set 8 (.slice (some ⟨p.out.b, p.out.o, none⟩) 32 p.out.c)).set 9 (.slice (some ⟨p.soft.b, p.soft.o, none⟩) 7 p.soft.c)).set 10 (.slice (some ⟨p.odds.b, p.odds.o, none⟩) 6 p.odds.c))⟩
  rw [hw9]
  refine bodyPost_ret (results_cell_row rfl _ _ w.heap.size 27 _ (0, 0) _ rfl hb9 Tryz.underlying27 rfl info27) rfl ?_
  obtain ⟨a1, a2, a3, a4, a5, a6, a7⟩ := HF.out
  refine ⟨p, rfl, Lib.hid (hk9.below HBEL.out (Nat.le_refl _)), Lib.hid ⟨hk9.rd HD3.out.cuts (by decide) (by omega), hk9.rd HD3.out.embed (by rw [show demoM.embed.length = 32 from matL_len _ _]; omega) (by omega), hk9.rd HD3.out.place (by rw [show demoM.place.length = 16 from matL_len _ _]; omega) (by omega), hk9.rd HD3.out.mix (by rw [show demoM.mix.length = 48 from matL_len _ _]; omega) (by omega), hk9.rd HD3.out.out (by rw [show demoM.out.length = 32 from matL_len _ _]; omega) (by omega), hk9.rd HD3.out.soft (by decide) (by omega), hk9.rd HD3.out.odds (by decide) (by omega)⟩, Lib.hid ⟨by omega, by omega, by omega, by omega, by omega, by omega, by omega⟩⟩
end Go.Proofs.YtllpoaoboieijaaGreat
/-
  acceptable: the walk.
-/
namespace Go.Proofs.YtllpoaoboieijaaGreat
open Go.RowKit

/-- A request as it is asked. -/
structure Ask where
  id : Int
  deadline : Int
  prompt : List Int
  most : Int
  seed : Int
def Ask.val (q : Ask) (A : Option Addr) (c : Nat) : Value := .agg #[.int .i64 q.id, .int .i64 q.deadline, .slice A q.prompt.length c, .int .i64 q.most, .int .i64 q.seed]
def Ask.plain (q : Ask) : Bool := withinB q.id 1 1000000 && withinB q.deadline 0 1000000 && withinB q.most 1 32 && withinB q.seed (-2147483648) 2147483647

set_option maxRecDepth 100000 in
set_option maxHeartbeats 800000 in
theorem acc_unplain (own : Nat → Lb) (sb : Nat) (L : Lay) (S : Srv) (q : Ask) (A : Option Addr) (c : Nat) (w : World) (_h : SrvAt own w sb L S) (hp : q.plain = false) :
    Calls Tryz.prog 32 #[.pointer (some ⟨sb, 0, none⟩), q.val A c] w fun e w' => e = .returned (.int .i64 9) ∧ Below w.heap.size w w' := by
  have hcase : withinB q.id 1 1000000 = false ∨ withinB q.id 1 1000000 = true ∧ withinB q.deadline 0 1000000 = false ∨ withinB q.id 1 1000000 = true ∧ withinB q.deadline 0 1000000 = true ∧ withinB q.most 1 32 = false ∨ withinB q.id 1 1000000 = true ∧ withinB q.deadline 0 1000000 = true ∧ withinB q.most 1 32 = true ∧ withinB q.seed (-2147483648) 2147483647 = false := by
    unfold Ask.plain at hp
    generalize withinB q.id 1 1000000 = a at hp ⊢
    generalize withinB q.deadline 0 1000000 = b at hp ⊢
    generalize withinB q.most 1 32 = c at hp ⊢
    generalize withinB q.seed (-2147483648) 2147483647 = d at hp ⊢
    revert hp
    revert a b c d
    decide
  clear hp _h
  unfold Ask.val
  have hbel : ∀ (v : Value), Below w.heap.size w ((w.alloc (.cells #[.pointer (some ⟨sb, 0, none⟩)] 32)).alloc (.cells #[.int .i64 q.id, .int .i64 q.deadline, .slice A q.prompt.length c, .int .i64 q.most, .int .i64 q.seed] 41)) := fun _ => ((Below.refl _ _).alloc (Nat.le_refl _) _).alloc (alloc_le _ _) _
  have HBEL := Lib.hid hbel
  clear hbel
  rcases hcase with h1 | ⟨h1, h2⟩ | ⟨h1, h2, h3⟩ | ⟨h1, h2, h3, h4⟩
  · have H1 := Lib.hid h1
    clear h1
    go_enter Tryz.func32, Tryz.ntmps32
    go_wp2_with (first | (go_at_call 28; refine (within_any _ _ _ _).mono ?_; rintro e w1 ⟨rfl, rfl⟩; first | rw [H1.out]))
    go_ret
    exact ⟨rfl, HBEL.out (.bool true)⟩
  · have H1 := Lib.hid h1
    have H2 := Lib.hid h2
    clear h1 h2
    go_enter Tryz.func32, Tryz.ntmps32
    go_wp2_with (first | (go_at_call 28; refine (within_any _ _ _ _).mono ?_; rintro e w1 ⟨rfl, rfl⟩; first | rw [H1.out] | rw [H2.out]))
    go_ret
    exact ⟨rfl, HBEL.out (.bool true)⟩
  · have H1 := Lib.hid h1
    have H2 := Lib.hid h2
    have H3 := Lib.hid h3
    clear h1 h2 h3
    go_enter Tryz.func32, Tryz.ntmps32
    go_wp2_with (first | (go_at_call 28; refine (within_any _ _ _ _).mono ?_; rintro e w1 ⟨rfl, rfl⟩; first | rw [H1.out] | rw [H2.out] | rw [H3.out]))
    go_ret
    exact ⟨rfl, HBEL.out (.bool true)⟩
  · have H1 := Lib.hid h1
    have H2 := Lib.hid h2
    have H3 := Lib.hid h3
    have H4 := Lib.hid h4
    clear h1 h2 h3 h4
    go_enter Tryz.func32, Tryz.ntmps32
    go_wp2_with (first | (go_at_call 28; refine (within_any _ _ _ _).mono ?_; rintro e w1 ⟨rfl, rfl⟩; first | rw [H1.out] | rw [H2.out] | rw [H3.out]) | (go_at_call 61; refine (isWord_any _ _).mono ?_; rintro e w1 ⟨rfl, rfl⟩; rw [H4.out]))
    go_ret
    exact ⟨rfl, HBEL.out (.bool true)⟩
end Go.Proofs.YtllpoaoboieijaaGreat
/-
  A row of entries that grows; a model's places in a server.
-/
namespace Go.Proofs.YtllpoaoboieijaaGreat
open Go.RowKit

def entVals (P : Nat → Pl) (k : Nat) : List Value := (List.range k).map fun i => Value.slice (some ⟨(P i).b, (P i).o, none⟩) 12 (P i).c
theorem entVals_succ (P : Nat → Pl) (k : Nat) : entVals P (k + 1) = entVals P k ++ [Value.slice (some ⟨(P k).b, (P k).o, none⟩) 12 (P k).c] := by simp [entVals, List.range_succ]
structure EntRow (base : Nat) (w : World) (v : Value) (k : Nat) (es : Nat → List Int) (P : Nat → Pl) : Prop where
  row : w.ownsRow base 22 1 v k (entVals P k)
  rd : ∀ i, i < k → RdAt w (P i).b (P i).o (P i).c (es i)
  len : ∀ i, i < k → (es i).length = 12
  ne : ∀ i, i < k → ∀ g, v.ownBlock = some g → (P i).b ≠ g
theorem EntRow.nil (base : Nat) (w : World) (es : Nat → List Int) (P : Nat → Pl) : EntRow base w (.slice none 0 0) 0 es P :=
  ⟨World.ownsRow_nil _ _ _ _, fun i h => absurd h (by omega), fun i h => absurd h (by omega), fun i h => absurd h (by omega)⟩
theorem EntRow.below {base : Nat} {w w' : World} {v : Value} {k : Nat} {es : Nat → List Int} {P : Nat → Pl} (h : EntRow base w v k es P) (hb : Below w.heap.size w w') : EntRow base w' v k es P :=
  ⟨ownsRow_below h.row hb, fun i hi => (h.rd i hi).below hb, h.len, h.ne⟩
theorem EntRow.ents {base : Nat} {w : World} {g c k : Nat} {es : Nat → List Int} {P : Nat → Pl} (h : EntRow base w (.slice (some ⟨g, 0, none⟩) k c) k es P) : EntsAt w g 0 k es P := by
  refine ⟨fun i hi => ?_, h.rd, h.len⟩
  have := h.row.cells (g := g) rfl i (Value.slice (some ⟨(P i).b, (P i).o, none⟩) 12 (P i).c) (by simp [entVals, hi])
  rw [addP] at this
  exact this
theorem RdAt.grown {w w' : World} {row : Option Nat} (hg : w.grownBy w' row) {b o c : Nat} {l : List Int} (h : RdAt w b o c l) (hne : some b ≠ row) : RdAt w' b o c l := by
  by_cases h0 : 0 < l.length
  · have hlt := h.lt h0
    refine ⟨h.1, h.2.1, fun i hi => ?_⟩
    rw [World.cell?_of_block (a := ⟨b, o + i, none⟩) (w := w) (hg.block b hlt hne)]
    exact h.2.2 i hi
  · exact ⟨h.1, h.2.1, fun i hi => absurd hi (by omega)⟩
def Pl.ins (P : Nat → Pl) (k : Nat) (q : Pl) : Nat → Pl := fun i => if i = k then q else P i
theorem entVals_ins (P : Nat → Pl) (k : Nat) (q : Pl) : entVals (Pl.ins P k q) k = entVals P k := by
  unfold entVals
  apply List.map_congr_left
  intro i hi
  rw [List.mem_range] at hi
  simp [Pl.ins, show i ≠ k by omega]
/-- One entry more. -/
theorem EntRow.app {base : Nat} {w w3 : World} {v : Value} {k : Nat} {es : Nat → List Int} {P : Nat → Pl} (h : EntRow base w v k es P) {g c : Nat} (hr : RdAt w g 0 c (es k)) (hl : (es k).length = 12) (hne : ∀ gr, v.ownBlock = some gr → g ≠ gr)
    (o : Obj) {g' cap : Nat} (h3 : w3.ownsRow base 22 1 (.slice (some ⟨g', 0, none⟩) (k + 1) cap) (k + 1) (entVals P k ++ [.slice (some ⟨g, 0, none⟩) 12 c])) (hg : (w.alloc o).grownBy w3 v.ownBlock) (hat : v.ownBlock = some g' ∨ g' = (w.alloc o).heap.size) :
    EntRow base w3 (.slice (some ⟨g', 0, none⟩) (k + 1) cap) (k + 1) es (Pl.ins P k ⟨g, 0, c⟩) := by
  have hb : Below w.heap.size w (w.alloc o) := (Below.refl _ _).alloc (Nat.le_refl _) o
  have hgl := hr.lt (by omega)
  have hsz : w.heap.size ≤ (w.alloc o).heap.size := hb.size
  refine ⟨?_, fun i hi => ?_, fun i hi => ?_, fun i hi gr hgr => ?_⟩
  · rw [entVals_succ, entVals_ins]
    simpa [Pl.ins] using h3
  · by_cases e : i = k
    · subst e
      simp only [Pl.ins, if_true]
      exact (hr.below hb).grown hg (fun e => hne g e.symm rfl)
    · simp only [Pl.ins, if_neg e]
      exact ((h.rd i (by omega)).below hb).grown hg (fun e2 => h.ne i (by omega) _ e2.symm rfl)
  · by_cases e : i = k
    · subst e; exact hl
    · exact h.len i (by omega)
  · have : g' = gr := by simpa [Value.ownBlock] using hgr
    subst this
    by_cases e : i = k
    · subst e
      simp only [Pl.ins, if_true]
      rcases hat with a | a
      · exact hne g' a
      · omega
    · simp only [Pl.ins, if_neg e]
      rcases hat with a | a
      · exact h.ne i (by omega) g' a
      · have := (h.rd i (by omega)).lt (by rw [h.len i (by omega)]; omega)
        omega

theorem Rdl.place {own : Nat → Lb} {lb : Lb} {w : World} {v : Value} {l : List Int} (h : Rdl own lb w v l) (h0 : 0 < l.length) : ∃ q : Pl, v = .slice (some ⟨q.b, q.o, none⟩) l.length q.c ∧ RdAt w q.b q.o q.c l := by
  obtain ⟨⟨A, c, hv, h1, h2, h3⟩, -⟩ := h
  obtain ⟨b, o, hA, hc⟩ := h3 h0
  refine ⟨⟨b, o, c⟩, by rw [hv, hA], h1, h2, fun i hi => ?_⟩
  rw [hc i hi]; simp [List.getD, hi]
/-- The places of a server's model. -/
theorem mdl_places {own : Nat → Lb} {lb : Lb} {w : World} {m : Mdl} {v : MV} (h : MdlAt own lb w m v) (hm : m = demoM) : ∃ p : MPl, mdlCells m v = demoCells p ∧ DemoAt w p := by
  subst hm
  obtain ⟨q1, e1, r1⟩ := h.cuts.place (by decide)
  obtain ⟨q2, e2, r2⟩ := h.embed.place (by rw [show demoM.embed.length = 32 from matL_len _ _]; omega)
  obtain ⟨q3, e3, r3⟩ := h.place.place (by rw [show demoM.place.length = 16 from matL_len _ _]; omega)
  obtain ⟨q4, e4, r4⟩ := h.mix.place (by rw [show demoM.mix.length = 48 from matL_len _ _]; omega)
  obtain ⟨q5, e5, r5⟩ := h.out.place (by rw [show demoM.out.length = 32 from matL_len _ _]; omega)
  obtain ⟨q6, e6, r6⟩ := h.soft.place (by decide)
  obtain ⟨q7, e7, r7⟩ := h.odds.place (by decide)
  rw [show demoM.embed.length = 32 from matL_len _ _] at e2
  rw [show demoM.place.length = 16 from matL_len _ _] at e3
  rw [show demoM.mix.length = 48 from matL_len _ _] at e4
  rw [show demoM.out.length = 32 from matL_len _ _] at e5
  refine ⟨⟨q1, q2, q3, q4, q5, q6, q7⟩, ?_, ⟨r1, r2, r3, r4, r5, r6, r7⟩⟩
  simp only [mdlCells, demoCells, e1, e2, e3, e4, e5, e6, e7]
  rfl

def esOf (toks : List Int) (i : Nat) : List Int := entTo (toks.getD i 0).toNat i 12
theorem esOf_len (toks : List Int) (i : Nat) : (esOf toks i).length = 12 := entTo_len _ _ _
theorem shiftI_in (x k : Int) (hx : -2147483648 ≤ x ∧ x ≤ 2147483647) (hk : k = 8 ∨ k = 32 ∨ k = 128) : -2147483648 ≤ shiftI x k ∧ shiftI x k ≤ 2147483647 := by
  unfold shiftI wrap64
  rcases hk with rfl | rfl | rfl <;> omega
theorem esOf_in (toks : List Int) (i : Nat) : ∀ x, x ∈ esOf toks i → -2147483648 ≤ x ∧ x ≤ 2147483647 := by
  intro x hx
  simp only [esOf, entTo, List.mem_map] at hx
  obtain ⟨j, -, rfl⟩ := hx
  exact shiftI_in _ _ (dotTo_in _ _ _) (.inl rfl)
/-- The next token of a request. -/
def tokF : Mdl → List Int → Int → Int → Int := fun _ toks seed made => (tokI (esOf toks) toks.length (drawI seed made) : Int)
theorem tokF_in (m : Mdl) (toks : List Int) (seed made : Int) : 0 ≤ tokF m toks seed made ∧ tokF m toks seed made < 8 := by
  have := tokI_lt (esOf toks) toks.length (drawI seed made) (by have := drawI_in seed made; omega)
  unfold tokF; omega
end Go.Proofs.YtllpoaoboieijaaGreat
