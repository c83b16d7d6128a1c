/-
  The stream: what Asked and Request need.
  The stream: Asked (without Request).
-/
import Derived.Deep.RegionLaw
import Derived.Test.YtllpoaoboieijaaGreatSa29
/-
  The stream: what Asked and Request need.
-/
namespace Go.Proofs.YtllpoaoboieijaaGreat
open Go.RowKit

theorem Asks.grown {w X Y : World} {xb : Nat} {V : Value} {L : List Int} {K K0 : Nat} (h : Asks xb V L K w X) (h0 : St w xb V L K0) {row : Option Nat} (hg : X.grownBy Y row) (hr : ∀ g, row = some g → w.heap.size ≤ g) : Asks xb V L K w Y := by
  have hx := h0.lt
  have hk : Keep xb w Y := ⟨hg.os.trans h.1.os, hg.tape.trans h.1.tape, hg.output.trans h.1.output, Nat.le_trans h.1.size hg.size, fun b hb hn => by
    rw [hg.block b (Nat.lt_of_lt_of_le hb h.1.size) (fun e => by have := hr b e.symm; omega)]
    exact h.1.block b hb hn⟩
  obtain ⟨a, h1, h2, h3, h4⟩ := h.2
  obtain ⟨a0, _, _, r0, _⟩ := h0
  exact ⟨hk, a, h1, Blk.grown hg h2 (fun e => by have := hr xb e.symm; omega), r0.block fun q hq hv h0 => hk.block q hq (fun e => h4 h0 (by rw [hv, e])), h4⟩
theorem Asks.drew {w X : World} {xb : Nat} {V : Value} {L : List Int} {K : Nat} (h : Asks xb V L K w X) : Asks xb V L K w X.drew := ⟨⟨h.1.os, h.1.tape, h.1.output, h.1.size, h.1.block⟩, h.2⟩

/-- A request under way: its box, and the prompt so far. -/
structure RB (base : Nat) (w : World) (b : Nat) (cells : Value → List Value) (v : Value) (l : List Int) : Prop where
  blk : Blk w b (cells v) 41
  row : w.ownsRow base 3 1 v l.length (ints l)
  ne : v.ownBlock ≠ some b
/-- One token more. -/
theorem RB.app {base : Nat} {w w3 : World} {b : Nat} {cells : Value → List Value} {v : Value} {l : List Int} (h : RB base w b cells v l) (hset : ∀ v v', (cells v).set 2 v' = cells v') (x : Int) (o : Obj) {g cap : Nat}
    (h3 : w3.ownsRow base 3 1 (.slice (some ⟨g, 0, none⟩) (l.length + 1) cap) (l.length + 1) (ints l ++ [.int .i64 x])) (hg : (w.alloc o).grownBy w3 v.ownBlock) (hat : v.ownBlock = some g ∨ g = (w.alloc o).heap.size) :
    Blk w3 b (cells v) 41 ∧ RB base (w3.setCell ⟨b, 2, none⟩ (.slice (some ⟨g, 0, none⟩) (l.length + 1) cap)) b cells (.slice (some ⟨g, 0, none⟩) (l.length + 1) cap) (l ++ [x]) := by
  have hb3 : Blk w3 b (cells v) 41 := Blk.grown hg (h.blk.alloc o) (fun e => h.ne e.symm)
  have hlt := h.blk.lt
  have hsz := alloc_le w o
  have hgw : g ≠ b := by
    rcases hat with a | a
    · intro e; exact h.ne (by rw [a, e])
    · omega
  refine ⟨hb3, ⟨by have := hb3.set 2 (.slice (some ⟨g, 0, none⟩) (l.length + 1) cap); rw [hset] at this; exact this, ?_, by simp [Value.ownBlock, hgw]⟩⟩
  rw [List.length_append, ints, List.map_append]
  refine ⟨h3.1, ?_⟩
  rcases h3.2 with ⟨hv, _⟩ | ⟨g', cap', cur, hv, a3, a4, a5, a6, a7, a8⟩
  · cases hv
  · injection hv with e1 e2 e3
    injection e1 with e1
    injection e1 with e1
    subst e1 e3
    exact .inr ⟨g, cap, cur, rfl, a3, by rw [Below.heap_setCell _ _ _ _ hgw]; exact a4, a5, a6, a7, a8⟩
theorem RB.keep {base xb : Nat} {w w' : World} {b : Nat} {cells : Value → List Value} {v : Value} {l : List Int} (h : RB base w b cells v l) (hk : Keep xb w w') (hb : b ≠ xb) (hv : v.ownBlock ≠ some xb) : RB base w' b cells v l := by
  refine ⟨hk.blk h.blk hb, ?_, h.ne⟩
  refine ⟨h.row.1, ?_⟩
  rcases h.row.2 with a | ⟨g, cap, cur, hv', a3, a4, a5⟩
  · exact .inl a
  · exact .inr ⟨g, cap, cur, hv', a3, by rw [hk.block g (lt_of_heap a4) (fun e => hv (by rw [hv', ← e]; rfl))]; exact a4, a5⟩
def askCells (id dl most seed : Int) (v : Value) : List Value := [.int .i64 id, .int .i64 dl, v, .int .i64 most, .int .i64 seed]
theorem ask_set (id dl most seed : Int) : ∀ v v', (askCells id dl most seed v).set 2 v' = askCells id dl most seed v' := fun _ _ => rfl
/-- What is asked: a request whose prompt lies in a block of its own. -/
def AskGot (D : Int) (xb : Nat) (V : Value) (L : List Int) (K : Nat) (w : World) (e : Ending) (w' : World) : Prop :=
  ∃ (q : Ask) (A : Option Addr) (c : Nat), e = .returned (q.val A c) ∧ Hid (q.id ≤ 9) ∧ Hid (q.deadline ≤ D) ∧ Hid (q.prompt.length ≤ 40) ∧ Hid (w'.ownsRow w.heap.size 3 1 (.slice A q.prompt.length c) q.prompt.length (ints q.prompt)) ∧ Hid (Asks xb V L K w w')
theorem info41s : (Tryz.prog.info? 41).map (·.size) = some 5 := by kernel_rfl
theorem ask_blk {X : World} {b : Nat} {z0 z1 z2 z3 z4 : Value} {t : TypeId} (h : Blk X b [z0, z1, z2, z3, z4] t) (a0 a1 a2 a3 a4 : Value) : (((((X.setCell ⟨b, 0, none⟩ a0).setCell ⟨b, 1, none⟩ a1).setCell ⟨b, 2, none⟩ a2).setCell ⟨b, 3, none⟩ a3).setCell ⟨b, 4, none⟩ a4).heap[b]? = some (.cells #[a0, a1, a2, a3, a4] t (0, 0)) :=
  ((((h.set 0 a0).set 1 a1).set 2 a2).set 3 a3).set 4 a4
theorem ask_in {r : Int} (hr : r ∈ ([0, 1, 3, 6, 9, 15, 30] : List Int)) : 0 ≤ r ∧ r ≤ 30 := (by decide : ∀ r, r ∈ ([0, 1, 3, 6, 9, 15, 30] : List Int) → 0 ≤ r ∧ r ≤ 30) r hr
theorem ask_dl {now r : Int} (hn : 0 ≤ now ∧ now ≤ 1000000) (hr : r ∈ [0, 1, 3, 6, 9, 15, 30]) : IntKind.i64.wrap (now + r) = now + r := by
  have : 0 ≤ r ∧ r ≤ 30 := (by decide : ∀ r, r ∈ ([0, 1, 3, 6, 9, 15, 30] : List Int) → 0 ≤ r ∧ r ≤ 30) r hr
  exact IntWalk.i64_in _ (by omega)
/-- What Request answers, wherever it is asked. -/
def RequestSaid (xb : Nat) (V : Value) (L : List Int) : Prop := ∀ (p : MPl) (K : Nat), K ≤ 500000 → ∀ w : World, St w xb V L K → Calls Tryz.prog 31 #[.pointer (some ⟨xb, 0, none⟩), .agg (demoCells p).toArray] w fun e w' => AskGot 8 xb V L (K + 20) w e w'

/-- .. wherever the choice stands in a statement that draws its order. -/
theorem Pick_drew (xb : Nat) (V : Value) (L : List Int) (K : Nat) (hK : K ≤ 1000000) (l : List Int) (cs : Array Value) (hcs : cs = (ints l).toArray) (n : Nat) (hn : n = l.length) (h0 : 0 < l.length) (hl : l.length ≤ 100) (w : World) (h : St w xb V L K) :
    Calls Tryz.prog 26 #[.pointer (some ⟨xb, 0, none⟩), .slice (some ⟨w.heap.size, 0, none⟩) n n] (w.alloc (.cells cs 3)).drew fun e w' => ∃ r : Int, e = .returned (.int .i64 r) ∧ Hid (r ∈ l) ∧ Hid (Asks xb V L (K + 1) w w') := by
  subst hcs hn
  have hb : Below w.heap.size w (w.alloc (.cells (ints l).toArray 3)).drew := ((Below.refl _ _).alloc (Nat.le_refl _) _).drew
  have hk : Blk (w.alloc (.cells (ints l).toArray 3)).drew w.heap.size (ints l ++ []) 3 := by rw [List.append_nil]; exact heap_alloc_new w _
  refine (Pick_st xb V L K hK w.heap.size l.length l.length l rfl h0 hl _ (h.below hb) (hk.rdat (Nat.le_refl _) (by unfold maxLen; omega)) (by have := h.lt; omega)).mono ?_
  rintro e w1 ⟨r, rfl, hr, ha⟩
  exact ⟨r, rfl, hr, Lib.hid ⟨(Keep.of_below hb).trans ha.out.1, ha.out.2⟩⟩
theorem ask_add {i : Nat} {r : Int} (hi : i ≤ 10) (hr : r ∈ ([1, 1, 1, 1, 2] : List Int)) : IntKind.i64.wrap ((i : Int) + r) = (i : Int) + r := by
  have : 1 ≤ r ∧ r ≤ 2 := (by decide : ∀ r, r ∈ ([1, 1, 1, 1, 2] : List Int) → 1 ≤ r ∧ r ≤ 2) r hr
  exact IntWalk.i64_in _ (by omega)
theorem Blk.model {w : World} {b : Nat} {p : MPl} (h : Blk w b (demoCells p) 27) : ∀ o, w.cell? ⟨b, o, none⟩ = ([Value.int .i64 1, .int .i64 8, .int .i64 4, .int .i64 8, .slice (some ⟨p.cuts.b, p.cuts.o, none⟩) 4 p.cuts.c, .slice (some ⟨p.embed.b, p.embed.o, none⟩) 32 p.embed.c, .slice (some ⟨p.place.b, p.place.o, none⟩) 16 p.place.c, .slice (some ⟨p.mix.b, p.mix.o, none⟩) 48 p.mix.c, .slice (some ⟨p.out.b, p.out.o, none⟩) 32 p.out.c, .slice (some ⟨p.soft.b, p.soft.o, none⟩) 7 p.soft.c, .slice (some ⟨p.odds.b, p.odds.o, none⟩) 6 p.odds.c] : List Value)[o]? := h.cell

theorem ownsRow_far {w : World} {base : Nat} {e : TypeId} {size : Nat} {v : Value} {n : Nat} {xs : List Value} (h : w.ownsRow base e size v n xs) {b : Nat} (hb : b < base) (o : Nat) (x : Value) : (w.setCell ⟨b, o, none⟩ x).ownsRow base e size v n xs := by
  refine ⟨h.1, ?_⟩
  rcases h.2 with a | ⟨g, cap, cur, hv, a3, a4, a5⟩
  · exact .inl a
  · exact .inr ⟨g, cap, cur, hv, a3, by rw [Below.heap_setCell _ _ _ _ (show g ≠ b by omega)]; exact a4, a5⟩
/-- The result, written into its own box. -/
theorem AskGot.done {xb : Nat} {V : Value} {L : List Int} {K Ka K0 : Nat} {w X : World} {base : Nat} (H : St w xb V L K0) (q : Ask) (A : Option Addr) (c : Nat) (h9 : q.id ≤ 9) {D : Int} (hD : q.deadline ≤ D) (h40 : q.prompt.length ≤ 40) (hrow : X.ownsRow base 3 1 (.slice A q.prompt.length c) q.prompt.length (ints q.prompt)) (hb : w.heap.size + 2 ≤ base) (ha : Asks xb V L Ka w X) (hka : Ka ≤ K) {a0 a1 a2 a3 a4 : Value} :
    AskGot D xb V L K w (.returned (q.val A c)) (((((X.setCell ⟨w.heap.size + 1, 0, none⟩ a0).setCell ⟨w.heap.size + 1, 1, none⟩ a1).setCell ⟨w.heap.size + 1, 2, none⟩ a2).setCell ⟨w.heap.size + 1, 3, none⟩ a3).setCell ⟨w.heap.size + 1, 4, none⟩ a4) := by
  refine ⟨q, A, c, rfl, Lib.hid h9, Lib.hid hD, Lib.hid h40, Lib.hid (ownsRow_mono (base := base) ?_ (by omega)), Lib.hid ?_⟩
  · exact ownsRow_far (ownsRow_far (ownsRow_far (ownsRow_far (ownsRow_far hrow (by omega) _ _) (by omega) _ _) (by omega) _ _) (by omega) _ _) (by omega) _ _
  · exact (((((ha.mono hka).put H (by omega) _ _).put H (by omega) _ _).put H (by omega) _ _).put H (by omega) _ _).put H (by omega) _ _
end Go.Proofs.YtllpoaoboieijaaGreat
/-
  The stream: Asked (without Request).
-/
namespace Go.Proofs.YtllpoaoboieijaaGreat
open Go.RowKit

set_option maxRecDepth 100000 in
set_option maxHeartbeats 6400000 in
theorem Asked_st (xb : Nat) (V : Value) (L : List Int) (hRS : RequestSaid xb V L) (p : MPl) (now : Int) (hnow : 0 ≤ now ∧ now ≤ 1000000) (K : Nat) (hK : K ≤ 400000) (w : World) (h : St w xb V L K) :
    Calls Tryz.prog 11 #[.pointer (some ⟨xb, 0, none⟩), .agg (demoCells p).toArray, .int .i64 now] w fun e w' => AskGot (now + 30) xb V L (K + 40) w e w' := by
  obtain ⟨w1, hw1, hb1, hk0, hk1, hs1⟩ : ∃ w1, (w.alloc (.cells (demoCells p).toArray 27)).alloc (.cells #[.int .i64 0, .int .i64 0, .slice none 0 0, .int .i64 0, .int .i64 0] 41) = w1 ∧ Below w.heap.size w w1 ∧ Blk w1 w.heap.size (demoCells p) 27 ∧ Blk w1 (w.heap.size + 1) [.int .i64 0, .int .i64 0, .slice none 0 0, .int .i64 0, .int .i64 0] 41 ∧ w1.heap.size = w.heap.size + 2 := by
    refine ⟨_, rfl, ?_, ?_, ?_, ?_⟩
    · exact ((Below.refl _ _).alloc (Nat.le_refl _) _).alloc (by simp only [World.size_alloc]; omega) _
    · exact (news_blk w (demoCells p) 27).alloc _
    · have := news_blk (w.alloc (.cells (demoCells p).toArray 27)) [.int .i64 0, .int .i64 0, .slice none 0 0, .int .i64 0, .int .i64 0] 41
      simp only [World.size_alloc] at this
      exact this
    · simp only [World.size_alloc]
  have H := Lib.hid h
  have HNW := Lib.hid hnow
  have HA1 := Lib.hid ((Asks.refl h).below hb1)
  have HM1 := Lib.hid hk0
  have HK1 := Lib.hid hk1
  have HS1 := Lib.hid hs1
  have HXB := Lib.hid (show xb < w.heap.size from h.lt)
  have HR1 := Lib.hid (Range_st xb V L K (by omega) 1 7 (by omega) w1 HA1.out.2)
  have HP2 := Lib.hid (fun (wx : World) (hx : St wx xb V L (K + 1)) => Pick_lit xb V L (K + 1) (by omega) [0, 1, 3, 6, 9, 15, 30] _ rfl 7 rfl (by decide) (by decide) wx hx)
  have HR3 := Lib.hid (fun (wx : World) (hx : St wx xb V L (K + 2)) => Range_st xb V L (K + 2) (by omega) 1 4 (by omega) wx hx)
  have HN4 := Lib.hid (fun (wx : World) (hx : St wx xb V L (K + 3)) => Next_st xb V L (K + 3) (by omega) 9 (by omega) wx hx)
  have HF5 := Lib.hid (fun (wx : World) (hx : St wx xb V L (K + 4)) => Flip_st xb V L (K + 4) (by omega) 8 (by omega) wx hx)
  simp only [ints, List.map_cons, List.map_nil] at HP2
  clear hb1 hk0 hk1 hs1 h
  simp only [demoCells] at hw1 ⊢
  go_enter Tryz.func11, Tryz.ntmps11
  go_upto_region 2 with (first | (go_at_call 20; refine (HN4.out w4 HA4.out.2).mono ?_; rintro e w5 ⟨r4, rfl, HR4', HA5⟩) | (go_at_call 9; have _g := HA3; clear _g; refine (HR3.out w3 HA3.out.2).mono ?_; rintro e w4 ⟨r3, rfl, -, HA4⟩) | (go_at_call 26; refine (HP2.out w2 HA2.out.2).mono ?_; rintro e w3 ⟨r2, rfl, HR2', HA3⟩; have ed : IntKind.i64.wrap (now + r2) = now + r2 := ask_dl hnow HR2'.out) | (go_at_call 9; refine HR1.out.mono ?_; rintro e w2 ⟨r1, rfl, HRI, HA2⟩))
  have HB5 := Lib.hid (show Asks xb V L (K + 4) w w5 from (((HA1.out.trans HA2.out).trans HA3.out).trans HA4.out).trans HA5.out)
  have hka := (((HA2.out.trans HA3.out).trans HA4.out).trans HA5.out).1
  have hm5 := hka.blk HM1.out (by have := HXB.out; omega)
  have hz5 := hka.blk HK1.out (by have := HXB.out; omega)
  obtain ⟨w6, hw6, hb6, hk6⟩ : ∃ w6, w5.alloc (.cells #[.int .i64 r1, .int .i64 (now + r2), .slice none 0 0, .int .i64 r3, .int .i64 r4] 41) = w6 ∧ Below w5.heap.size w5 w6 ∧ Blk w6 w5.heap.size (askCells r1 (now + r2) r3 r4 (.slice none 0 0)) 41 := ⟨_, rfl, (Below.refl _ _).alloc (Nat.le_refl _) _, heap_alloc_new w5 _⟩
  rw [hw6]
  have HB6 := Lib.hid (HB5.out.below hb6)
  have HM6 := Lib.hid (hm5.below hb6)
  have HZ6 := Lib.hid (hz5.below hb6)
  have HN6 := Lib.hid hk6
  have HX6 := Lib.hid (show w5.heap.size ≠ xb ∧ w.heap.size + 1 < w5.heap.size ∧ w5.heap.size < w6.heap.size from by have := HB5.out.2.lt; have := hz5.lt; have := hk6.lt; omega)
  generalize hn5 : w5.heap.size = b5 at HN6 HX6
  clear hb6 hk6 hw6 hw1 hka hm5 hz5
  have HFL := Lib.hid (HF5.out w6 HB6.out.2)
  have HRQ := Lib.hid (fun (wx : World) (hx : St wx xb V L (K + 5)) => hRS p (K + 5) (by omega) wx hx)
  have HRG := Lib.hid (fun (wx : World) (hx : St wx xb V L (K + 5)) => Range_st xb V L (K + 5) (by omega) 1 6 (by omega) wx hx)
  simp only [demoCells] at HRQ
  go_upto_region 4 with (go_at_call 10; refine HFL.out.mono ?_; rintro e w7 ⟨r, rfl, HA7⟩; have hm7 := HA7.out.1.blk HM6.out (by have := HXB.out; omega); have m7 := hm7.cell; have hz7 := HA7.out.1.blk HZ6.out (by have := HXB.out; omega); have HM7 := Lib.hid hm7; have HZ7 := Lib.hid hz7; have HN7 := Lib.hid (HA7.out.1.blk HN6.out HX6.out.1); clear hm7 hz7; simp only [demoCells] at m7; cases r)
  · go_upto_region 5 with (go_at_call 9; refine (HRG.out w7 HA7.out.2).mono ?_; rintro e w8 ⟨r8, rfl, HR8, HA8⟩)
    have HRB8 := Lib.hid (show RB w6.heap.size w8 b5 (askCells r1 (now + r2) r3 r4) (.slice none 0 0) [] from ⟨HA8.out.1.blk HN7.out HX6.out.1, World.ownsRow_nil _ _ _ _, by simp [Value.ownBlock]⟩)
    have HAB8 := Lib.hid (show Asks xb V L (K + 6) w w8 from (HB6.out.trans HA7.out).trans HA8.out)
    have HM8 := Lib.hid (HA8.out.1.blk HM7.out (by have := HXB.out; omega))
    have HZ8 := Lib.hid (HA8.out.1.blk HZ7.out (by have := HXB.out; omega))
    have HW8 := Lib.hid (show w6.heap.size ≤ w8.heap.size from Nat.le_trans HA7.out.1.size HA8.out.1.size)
    obtain ⟨i0, hi, hz0, hz1, hz2⟩ := info_parts info3
    clear m7
    go_loopg [28] 6 (fun gk s28 wx => ∃ (i : Nat) (v : Value) (l : List Int), s28 = .int .i64 i ∧ l.length = i ∧ (i : Int) ≤ r8 ∧ Hid (Asks xb V L (K + 6 + i) w wx) ∧ Hid (w6.heap.size ≤ wx.heap.size) ∧ Hid (RB w6.heap.size wx b5 (askCells r1 (now + r2) r3 r4) v l) ∧ Hid (Blk wx w.heap.size (demoCells p) 27) ∧ Hid (Blk wx (w.heap.size + 1) [.int .i64 0, .int .i64 0, .slice none 0 0, .int .i64 0, .int .i64 0] 41) ∧ gk = 6 - i)
    case atStart => exact ⟨0, _, [], rfl, rfl, by have := HR8.out; omega, HAB8, HW8, HRB8, HM8, HZ8, rfl⟩
    case round =>
      obtain ⟨i, v, l, rfl, hl, hir, HAr, HWr, HRr, HMr, HZr, rfl⟩ := hrel
      obtain ⟨A, c, hv⟩ := ownsRow_shape HRr.out.row
      rw [hl] at hv
      subst hv
      have hi6 : i ≤ 6 := by have := HR8.out; omega
      have n5 := HRr.out.blk.cell
      have f5 := HRr.out.blk.frozen
      have m5 := HMr.out.model
      simp only [askCells] at n5
      by_cases hlt : (i : Int) < r8
      · go_upto_region 7 with fail
        have HBb := Lib.hid (show b5 ≠ xb ∧ w.heap.size ≠ xb ∧ w.heap.size + 1 ≠ xb ∧ (Value.slice A i c).ownBlock ≠ some xb from by
          have := HXB.out; have := HX6.out
          refine ⟨by omega, by omega, by omega, ?_⟩
          intro e
          have hb := (HRr.out.row.lt xb e).1
          omega)
        have HPK := Lib.hid (Pick_drew xb V L (K + 6 + i) (by omega) [1, 1, 1, 1, 2] _ rfl 5 rfl (by decide) (by decide) wr HAr.out.2)
        simp only [ints, List.map_cons, List.map_nil] at HPK
        have HLT := Lib.hid hlt
        have ht8 : ¬ (8 : Int) = 0 := by decide
        have hb1 : i + 1 ≤ maxLen := by unfold maxLen; omega
        have hb2 : (i + 1) * 8 ≤ 140737488355328 := by omega
        have HI6 := Lib.hid (show i ≤ 10 by omega)
        have ma := (HMr.out.alloc (.cells #[.int .i64 1, .int .i64 1, .int .i64 1, .int .i64 1, .int .i64 2] 3)).model
        have na := (HRr.out.blk.alloc (.cells #[.int .i64 1, .int .i64 1, .int .i64 1, .int .i64 1, .int .i64 2] 3)).cell
        simp only [askCells] at na
        go_region_law (first
          | (go_simp; go_at_call 26; refine HPK.out.mono ?_; rintro e w9 ⟨r9, rfl, HR9, HA9⟩; have e9 := ask_add HI6.out HR9.out; have HRB9 := Lib.hid (HRr.out.keep HA9.out.1 HBb.out.1 HBb.out.2.2.2); have HM9 := Lib.hid (HA9.out.1.blk HMr.out HBb.out.2.1); have m9 := HM9.out.model; have n9 := HRB9.out.blk.cell; have n9a := fun x : Int => (HRB9.out.blk.alloc (.cells #[.int .i64 x] 3)).cell; simp only [askCells] at n9 n9a; have HOW9 := Lib.hid (show w9.ownsRow w6.heap.size 3 1 (.slice A i c) i (ints l) by have h := HRB9.out.row; rw [hl] at h; exact h))
          | (refine step_append_lies _ (by rfl) _ _ _ (by rfl) w6.heap.size 3 i0 (.int .i64 0) 1 8 Tryz.underlying22 hi hz0 hz1 hz2 rfl (by decide) (.slice A i c) i _ (by rfl) (ownsRow_below HOW9.out (Below.alloc (Below.refl _ _) (Nat.le_refl _) _)) ⟨w9.heap.size, 0, none⟩ 1 1 [.int .i64 _] (by rfl) (by rfl) (news1' _ _ _) (one_int _ _) Nat.one_pos hb1 hb2 (Nat.le_trans HWr.out (Nat.le_trans HA9.out.1.size (alloc_le _ _))) _ rfl ?_; intro g3 cap3 w3 hown3 hgrow3 hat3 hlt3; have hba := HRB9.out.app (ask_set r1 (now + r2) r3 r4) _ _ (by rw [hl]; exact hown3) hgrow3 hat3; have HBA := Lib.hid hba; have d3 := HBA.out.1.cell; have f3 := HBA.out.1.frozen; simp only [askCells] at d3; have HM3 := Lib.hid (Blk.grown hgrow3 (HM9.out.alloc _) (fun e => by have := (HOW9.out.lt _ e.symm).1; have := HX6.out; omega)); clear hba))
        all_goals
          clear n5 m5 ma na
          go_wp2
          go_roundg (6 - (i + 1))
          case measure => have := HLT.out; have := HR8.out; omega
          case rel => exact ⟨i + 1, _, l ++ [_], by go_num, by simp [hl], by have := HLT.out; omega, Lib.hid ((((HAr.out.trans HA9.out).alloc _).grown H.out hgrow3 (fun g hg => by have := (HOW9.out.lt _ hg).1; have := HX6.out; omega)).put H.out (by have := HX6.out; omega) 2 _), Lib.hid (by rw [World.size_setCell]; exact Nat.le_trans HWr.out (Nat.le_trans HA9.out.1.size (Nat.le_trans (alloc_le _ _) hgrow3.size))), Lib.hid (by have h := HBA.out.2; rw [hl] at h; exact h), Lib.hid (HM3.out.far (by show w.heap.size ≠ b5; have := HX6.out; omega) _), Lib.hid ((Blk.grown hgrow3 ((HA9.out.1.blk HZr.out HBb.out.2.2.1).alloc _) (fun e => by have := (HOW9.out.lt _ e.symm).1; have := HX6.out; omega)).far (by show w.heap.size + 1 ≠ b5; have := HX6.out; omega) _), rfl⟩
      · have z5 := HZr.out.cell
        have z6 := HZr.out.frozen
        go_wp2
        refine bodyPost_ret (results_cell_row rfl _ _ (w.heap.size + 1) 41 _ (0, 0) _ rfl (ask_blk HZr.out _ _ _ _ _) Tryz.underlying41 rfl info41s) rfl ?_
        have hq := AskGot.done (K := K + 40) H.out ⟨r1, now + r2, l, r3, r4⟩ A c (by have := HRI.out; show r1 ≤ 9; omega) (D := now + 30) (by have := ask_in HR2'.out; show now + r2 ≤ now + 30; omega) (by show l.length ≤ 40; omega) (by have h := HRr.out.row; rw [hl] at h; rw [hl]; exact h) (by have := HX6.out; omega) HAr.out (by omega) (a0 := .int .i64 r1) (a1 := .int .i64 (now + r2)) (a2 := .slice A i c) (a3 := .int .i64 r3) (a4 := .int .i64 r4)
        simp only [Ask.val, hl] at hq
        exact hq
  · refine (HRQ.out w7 HA7.out.2).mono ?_
    rintro e w8 ⟨q, A, c, rfl, HQ9, HQD, HQ40, HQR, HA8⟩
    have HZ8 := Lib.hid (HA8.out.1.blk HZ7.out (by have := HXB.out; omega))
    have z5 := HZ8.out.cell
    have z6 := HZ8.out.frozen
    have HW8 := Lib.hid (show w.heap.size + 2 ≤ w7.heap.size from by have := HX6.out; have := HA7.out.1.size; omega)
    unfold Ask.val
    go_wp2
    refine bodyPost_ret (results_cell_row rfl _ _ (w.heap.size + 1) 41 _ (0, 0) _ rfl (ask_blk HZ8.out _ _ _ _ _) Tryz.underlying41 rfl info41s) rfl ?_
    exact AskGot.done (K := K + 40) H.out q A c HQ9.out (by have := HQD.out; have := HNW.out; omega) HQ40.out HQR.out HW8.out ((HB6.out.trans HA7.out).trans HA8.out) (by omega)
end Go.Proofs.YtllpoaoboieijaaGreat
