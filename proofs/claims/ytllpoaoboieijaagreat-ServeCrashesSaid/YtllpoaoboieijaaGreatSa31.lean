/-
  The stream: a request under way, as one fact.
  The stream: Request.
-/
import Derived.Test.YtllpoaoboieijaaGreatSa30
/-
  The stream: a request under way, as one fact.
-/
namespace Go.Proofs.YtllpoaoboieijaaGreat
open Go.RowKit

/-- The world wx, in which a request is under way: it began at w; its box is b5. -/
structure RS (xb : Nat) (V : Value) (L : List Int) (w : World) (base b5 : Nat) (p : MPl) (K : Nat) (wx : World) (r1 r2 r3 r4 : Int) (v : Value) (l : List Int) : Prop where
  st : ∃ K0, St w xb V L K0
  hx : xb < w.heap.size
  hb : w.heap.size + 2 ≤ b5
  hbb : b5 < base
  size : base ≤ wx.heap.size
  asks : Asks xb V L K w wx
  rb : RB base wx b5 (askCells r1 r2 r3 r4) v l
  mdl : Blk wx w.heap.size (demoCells p) 27
  zer : Blk wx (w.heap.size + 1) [.int .i64 0, .int .i64 0, .slice none 0 0, .int .i64 0, .int .i64 0] 41
section
variable {xb : Nat} {V : Value} {L : List Int} {w : World} {base b5 : Nat} {p : MPl} {K : Nat} {wx : World} {r1 r2 r3 r4 : Int} {v : Value} {l : List Int}
theorem RS.mono (h : RS xb V L w base b5 p K wx r1 r2 r3 r4 v l) {K' : Nat} (hk : K ≤ K') : RS xb V L w base b5 p K' wx r1 r2 r3 r4 v l := { h with asks := h.asks.mono hk }
theorem RS.vx (h : RS xb V L w base b5 p K wx r1 r2 r3 r4 v l) : v.ownBlock ≠ some xb := fun e => by
  have := (h.rb.row.lt xb e).1
  have := h.hx; have := h.hb; have := h.hbb
  omega
theorem RS.keep (h : RS xb V L w base b5 p K wx r1 r2 r3 r4 v l) {K' : Nat} {wy : World} (ha : Asks xb V L K' wx wy) : RS xb V L w base b5 p K' wy r1 r2 r3 r4 v l := by
  have hx := h.hx
  have hb := h.hb
  exact { h with size := Nat.le_trans h.size ha.1.size, asks := h.asks.trans ha, rb := h.rb.keep ha.1 (by omega) h.vx, mdl := ha.1.blk h.mdl (by omega), zer := ha.1.blk h.zer (by omega) }
theorem RS.drew (h : RS xb V L w base b5 p K wx r1 r2 r3 r4 v l) : RS xb V L w base b5 p K wx.drew r1 r2 r3 r4 v l := h.keep ⟨⟨rfl, rfl, rfl, Nat.le_refl _, fun _ _ _ => rfl⟩, h.asks.2⟩
theorem RS.alloc (h : RS xb V L w base b5 p K wx r1 r2 r3 r4 v l) (o : Obj) : RS xb V L w base b5 p K (wx.alloc o) r1 r2 r3 r4 v l := h.keep ((Asks.refl h.asks.2).alloc o)
/-- One token more. -/
theorem RS.app (h : RS xb V L w base b5 p K wx r1 r2 r3 r4 v l) (o : Obj) {n : Nat} (hl : l.length = n) {x : Int} {g cap : Nat} {w3 : World}
    (h3 : w3.ownsRow base 3 1 (.slice (some ⟨g, 0, none⟩) (n + 1) cap) (n + 1) (ints l ++ [.int .i64 x])) (hg : (wx.alloc o).grownBy w3 v.ownBlock) (hat : v.ownBlock = some g ∨ g = (wx.alloc o).heap.size) :
    Blk w3 b5 (askCells r1 r2 r3 r4 v) 41 ∧ RS xb V L w base b5 p K (w3.setCell ⟨b5, 2, none⟩ (.slice (some ⟨g, 0, none⟩) (n + 1) cap)) r1 r2 r3 r4 (.slice (some ⟨g, 0, none⟩) (n + 1) cap) (l ++ [x]) := by
  subst hl
  have hx := h.hx
  have hb := h.hb
  have hbb := h.hbb
  obtain ⟨K0, hst⟩ := h.st
  obtain ⟨a1, a2⟩ := h.rb.app (ask_set r1 r2 r3 r4) x o h3 hg hat
  refine ⟨a1, { h with size := ?_, asks := ?_, rb := a2, mdl := ?_, zer := ?_ }⟩
  · rw [World.size_setCell]; exact Nat.le_trans h.size (Nat.le_trans (alloc_le _ _) hg.size)
  · exact ((h.asks.alloc o).grown hst hg (fun g hgg => by have := (h.rb.row.lt _ hgg).1; omega)).put hst (by omega) 2 _
  · exact (Blk.grown hg (h.mdl.alloc o) (fun e => by have := (h.rb.row.lt _ e.symm).1; omega)).far (by show w.heap.size ≠ b5; omega) _
  · exact (Blk.grown hg (h.zer.alloc o) (fun e => by have := (h.rb.row.lt _ e.symm).1; omega)).far (by show w.heap.size + 1 ≠ b5; omega) _
theorem RS.put (h : RS xb V L w base b5 p K wx r1 r2 r3 r4 v l) (o : Nat) (x : Value) {r3' r4' : Int} {v' : Value} {l' : List Int} (hs : (askCells r1 r2 r3 r4 v).set o x = askCells r1 r2 r3' r4' v')
    (hrow : wx.ownsRow base 3 1 v' l'.length (ints l')) (hne : v'.ownBlock ≠ some b5) : RS xb V L w base b5 p K (wx.setCell ⟨b5, o, none⟩ x) r1 r2 r3' r4' v' l' := by
  have hx := h.hx
  have hb := h.hb
  have hbb := h.hbb
  obtain ⟨K0, hst⟩ := h.st
  refine { h with size := ?_, asks := ?_, rb := ⟨?_, ownsRow_far hrow (by omega) _ _, hne⟩, mdl := ?_, zer := ?_ }
  · rw [World.size_setCell]; exact h.size
  · exact h.asks.put hst (by omega) _ _
  · rw [← hs]; exact h.rb.blk.set o x
  · exact h.mdl.far (by show w.heap.size ≠ b5; omega) _
  · exact h.zer.far (by show w.heap.size + 1 ≠ b5; omega) _
theorem RS.most (h : RS xb V L w base b5 p K wx r1 r2 r3 r4 v l) (x : Int) : RS xb V L w base b5 p K (wx.setCell ⟨b5, 3, none⟩ (.int .i64 x)) r1 r2 x r4 v l := h.put 3 _ rfl h.rb.row h.rb.ne
theorem RS.seed (h : RS xb V L w base b5 p K wx r1 r2 r3 r4 v l) (x : Int) : RS xb V L w base b5 p K (wx.setCell ⟨b5, 4, none⟩ (.int .i64 x)) r1 r2 r3 x v l := h.put 4 _ rfl h.rb.row h.rb.ne
theorem RS.nil (h : RS xb V L w base b5 p K wx r1 r2 r3 r4 v l) : RS xb V L w base b5 p K (wx.setCell ⟨b5, 2, none⟩ (.slice none 0 0)) r1 r2 r3 r4 (.slice none 0 0) [] := h.put 2 _ rfl (World.ownsRow_nil _ _ _ _) (by simp [Value.ownBlock])
theorem RS.take (h : RS xb V L w base b5 p K wx r1 r2 r3 r4 v l) {g n cap m : Nat} (hv : v = .slice (some ⟨g, 0, none⟩) n cap) (hl : l.length = n) (hm : m ≤ n) : RS xb V L w base b5 p K (wx.setCell ⟨b5, 2, none⟩ (.slice (some ⟨g, 0, none⟩) m cap)) r1 r2 r3 r4 (.slice (some ⟨g, 0, none⟩) m cap) (l.take m) := by
  subst hl hv
  refine h.put 2 _ rfl ?_ h.rb.ne
  have hrow := h.rb.row
  refine ⟨by simp [ints, Nat.min_eq_left hm], ?_⟩
  rcases hrow.2 with ⟨a, _⟩ | ⟨g', cap', cur, a1, a2, a3, a4, a5, a6, a7⟩
  · cases a
  · injection a1 with e1 e2 e3
    injection e1 with e1
    injection e1 with e1
    subst e1 e3
    have hlen : (l.take m).length = m := by rw [List.length_take]; omega
    refine .inr ⟨g, cap, cur, by rw [hlen], a2, a3, by omega, a5, a6, ?_⟩
    rw [hlen, show ints (l.take m) = (ints l).take m by simp [ints], ← a7, List.take_take]
    congr 1
    omega
theorem RS.got {A : Option Addr} {n c : Nat} (h : RS xb V L w base b5 p K wx r1 r2 r3 r4 (.slice A n c) l) (hl : l.length = n) {K' : Nat} (hk : K ≤ K') (h9 : r1 ≤ 9) {D : Int} (hD : r2 ≤ D) (h40 : n ≤ 40) {a0 a1 a2 a3 a4 : Value} :
    AskGot D xb V L K' w (.returned (.agg #[.int .i64 r1, .int .i64 r2, .slice A n c, .int .i64 r3, .int .i64 r4])) (((((wx.setCell ⟨w.heap.size + 1, 0, none⟩ a0).setCell ⟨w.heap.size + 1, 1, none⟩ a1).setCell ⟨w.heap.size + 1, 2, none⟩ a2).setCell ⟨w.heap.size + 1, 3, none⟩ a3).setCell ⟨w.heap.size + 1, 4, none⟩ a4) := by
  subst hl
  obtain ⟨K0, hst⟩ := h.st
  exact AskGot.done (K := K') hst ⟨r1, r2, l, r3, r4⟩ A c h9 hD h40 h.rb.row (by have := h.hb; have := h.hbb; omega) h.asks hk
end
end Go.Proofs.YtllpoaoboieijaaGreat
/-
  The stream: Request.
-/
namespace Go.Proofs.YtllpoaoboieijaaGreat
open Go.RowKit

theorem req_cases {s : Int} (h : 0 ≤ s ∧ s < 14) : s = 0 ∨ s = 1 ∨ s = 2 ∨ s = 3 ∨ s = 4 ∨ 5 ≤ s := by omega

theorem req_take {r : Int} (h : r ∈ ([32, 33] : List Int)) : ∃ n : Nat, r = (n : Int) ∧ Hid (n ≤ 33) := by
  have : r = 32 ∨ r = 33 := by simpa using h
  exact ⟨r.toNat, by omega, Lib.hid (by omega)⟩

set_option maxRecDepth 100000 in
set_option maxHeartbeats 6400000 in
theorem Request_st (xb : Nat) (V : Value) (L : List Int) : RequestSaid xb V L := by
  intro p K hK w h
  obtain ⟨w1, hw1, hb1, hk0, hk1, hs1⟩ : ∃ w1, (w.alloc (.cells (demoCells p).toArray 27)).alloc (.cells #[.int .i64 0, .int .i64 0, .slice none 0 0, .int .i64 0, .int .i64 0] 41) = w1 ∧ Below w.heap.size w w1 ∧ Blk w1 w.heap.size (demoCells p) 27 ∧ Blk w1 (w.heap.size + 1) [.int .i64 0, .int .i64 0, .slice none 0 0, .int .i64 0, .int .i64 0] 41 ∧ w1.heap.size = w.heap.size + 2 := by
    refine ⟨_, rfl, ?_, ?_, ?_, ?_⟩
    · exact ((Below.refl _ _).alloc (Nat.le_refl _) _).alloc (by simp only [World.size_alloc]; omega) _
    · exact (news_blk w (demoCells p) 27).alloc _
    · have := news_blk (w.alloc (.cells (demoCells p).toArray 27)) [.int .i64 0, .int .i64 0, .slice none 0 0, .int .i64 0, .int .i64 0] 41
      simp only [World.size_alloc] at this
      exact this
    · simp only [World.size_alloc]
  have H := Lib.hid h
  have HA1 := Lib.hid ((Asks.refl h).below hb1)
  have HM1 := Lib.hid hk0
  have HK1 := Lib.hid hk1
  have HS1 := Lib.hid hs1
  have HXB := Lib.hid (show xb < w.heap.size from h.lt)
  have HR1 := Lib.hid (Range_st xb V L K (by omega) (-1) 9 (by omega) w1 HA1.out.2)
  have HN2 := Lib.hid (fun (wx : World) (hx : St wx xb V L (K + 1)) => Next_st xb V L (K + 1) (by omega) 9 (by omega) wx hx)
  have HR3 := Lib.hid (fun (wx : World) (hx : St wx xb V L (K + 2)) => Range_st xb V L (K + 2) (by omega) 1 6 (by omega) wx hx)
  have HW4 := Lib.hid (fun (wx : World) (hx : St wx xb V L (K + 3)) => Word_st xb V L (K + 3) (by omega) wx hx)
  clear hb1 hk0 hk1 hs1 h
  simp only [demoCells] at hw1 ⊢
  go_enter Tryz.func31, Tryz.ntmps31
  go_upto_region 2 with (first | (go_at_call 59; refine (HW4.out w4 HA4.out.2).mono ?_; rintro e w5 ⟨r4, rfl, HA5⟩) | (go_at_call 9; have _g := HA3; clear _g; refine (HR3.out w3 HA3.out.2).mono ?_; rintro e w4 ⟨r3, rfl, -, HA4⟩) | (go_at_call 20; refine (HN2.out w2 HA2.out.2).mono ?_; rintro e w3 ⟨r2, rfl, HRD, HA3⟩) | (go_at_call 9; refine HR1.out.mono ?_; rintro e w2 ⟨r1, rfl, HRI, HA2⟩))
  obtain ⟨w6, hw6, HS6, b5, hb5⟩ : ∃ w6, w5.alloc (.cells #[.int .i64 r1, .int .i64 r2, .slice none 0 0, .int .i64 r3, .int .i64 r4] 41) = w6 ∧ Hid (RS xb V L w (w5.heap.size + 1) w5.heap.size p (K + 6) w6 r1 r2 r3 r4 (.slice none 0 0) []) ∧ ∃ b5, w5.heap.size = b5 := by
    have hb5 : Asks xb V L (K + 6) w w5 := (((HA1.out.trans HA2.out).trans HA3.out).trans HA4.out).trans HA5.out
    have hka := (((HA2.out.trans HA3.out).trans HA4.out).trans HA5.out).1
    have hz := hka.blk HK1.out (by have := HXB.out; omega)
    exact ⟨_, rfl, Lib.hid { st := ⟨K, H.out⟩, hx := HXB.out, hb := hz.lt, hbb := Nat.lt_succ_self _, size := by simp only [World.size_alloc]; exact Nat.le_refl _, asks := hb5.alloc _, rb := ⟨heap_alloc_new w5 _, World.ownsRow_nil _ _ _ _, by simp [Value.ownBlock]⟩, mdl := (hka.blk HM1.out (by have := HXB.out; omega)).alloc _, zer := hz.alloc _ }, _, rfl⟩
  rw [hw6]
  rw [hb5] at HS6 ⊢
  clear hw6 hw1
  obtain ⟨i0, hi, hz0, hz1, hz2⟩ := info_parts info3
  have HR7 := Lib.hid (Range_st xb V L (K + 6) (by omega) 1 5 (by omega) w6 HS6.out.asks.2)
  go_upto_region 3 with (go_at_call 9; refine HR7.out.mono ?_; rintro e w7 ⟨r7, rfl, HRJ, HA7⟩)
  have HS7 := Lib.hid (HS6.out.keep HA7.out)
  clear HR1 HN2 HR3 HW4 HR7
  go_loopg [17] 5 (fun gk s17 wx => ∃ (i : Nat) (v : Value) (l : List Int), s17 = .int .i64 i ∧ l.length = i ∧ (i : Int) ≤ r7 ∧ Hid (RS xb V L w (b5 + 1) b5 p (K + 7 + i) wx r1 r2 r3 r4 v l) ∧ gk = 5 - i)
  case atStart => exact ⟨0, _, [], rfl, rfl, by have := HRJ.out; omega, HS7, rfl⟩
  case round =>
    obtain ⟨i, v, l, rfl, hl, hir, HSr, rfl⟩ := hrel
    obtain ⟨A, c, hv⟩ := ownsRow_shape HSr.out.rb.row
    rw [hl] at hv
    subst hv
    have hi5 : i ≤ 5 := by have := HRJ.out; omega
    by_cases hlt : (i : Int) < r7
    · have HLT := Lib.hid hlt
      go_upto_region 4 with fail
      have n5 := HSr.out.rb.blk.cell
      have f5 := HSr.out.rb.blk.frozen
      have m5 := HSr.out.mdl.model
      simp only [askCells] at n5
      have hb1 : i + 1 ≤ maxLen := by unfold maxLen; omega
      have hb2 : (i + 1) * 8 ≤ 140737488355328 := by omega
      have HNX := Lib.hid (fun (wx : World) (hx : St wx xb V L (K + 7 + i)) => Next_st xb V L (K + 7 + i) (by omega) 8 (by omega) wx hx)
      go_region_law (first
        | (go_simp; go_at_call 20; refine (HNX.out _ HSr.out.drew.asks.2).mono ?_; rintro e w9 ⟨r9, rfl, -, HA9⟩; have HS9 := Lib.hid (HSr.out.drew.keep HA9.out); have n9 := HS9.out.rb.blk.cell; have n9a := fun x : Int => (HS9.out.alloc (.cells #[.int .i64 x] 3)).rb.blk.cell; simp only [askCells] at n9 n9a; have HOW9 := Lib.hid (show w9.ownsRow (b5 + 1) 3 1 (.slice A i c) i (ints l) by have h := HS9.out.rb.row; rw [hl] at h; exact h))
        | (refine step_append_lies _ (by rfl) _ _ _ (by rfl) (b5 + 1) 3 i0 (.int .i64 0) 1 8 Tryz.underlying22 hi hz0 hz1 hz2 rfl (by decide) (.slice A i c) i _ (by rfl) (ownsRow_below HOW9.out (Below.alloc (Below.refl _ _) (Nat.le_refl _) _)) ⟨w9.heap.size, 0, none⟩ 1 1 [.int .i64 _] (by rfl) (by rfl) (news1' _ _ _) (one_int _ _) Nat.one_pos hb1 hb2 (Nat.le_trans HS9.out.size (alloc_le _ _)) _ rfl ?_; intro g3 cap3 w3 hown3 hgrow3 hat3 hlt3; have hba := HS9.out.app _ hl hown3 hgrow3 hat3; have HBA := Lib.hid hba; have d3 := HBA.out.1.cell; have f3 := HBA.out.1.frozen; simp only [askCells] at d3; clear hba))
      all_goals
        clear n5 m5
        go_wp2
        go_roundg (5 - (i + 1))
        case measure => have := HLT.out; have := HRJ.out; omega
        case rel => exact ⟨i + 1, _, l ++ [_], by go_num, by simp [hl], by have := HLT.out; omega, Lib.hid (HBA.out.2), rfl⟩
    · have HN14 := Lib.hid (fun (wx : World) (hx : St wx xb V L (K + 12)) => Next_st xb V L (K + 12) (by omega) 14 (by omega) wx hx)
      have HSQ := Lib.hid (HSr.out.mono (K' := K + 12) (by omega))
      have HI5 := Lib.hid hi5
      clear HSr
      go_upto_region 7 with (go_at_call 20; refine (HN14.out wr HSQ.out.asks.2).mono ?_; rintro e w8 ⟨r8, rfl, HR8, HA8⟩; have HS8 := Lib.hid (HSQ.out.keep HA8.out); obtain rfl | rfl | rfl | rfl | rfl | h5 := req_cases HR8.out)
      all_goals
        have n8 := HS8.out.rb.blk.cell
        have f8 := HS8.out.rb.blk.frozen
        simp only [askCells] at n8
        have z8 := HS8.out.zer.cell
        have y8 := HS8.out.zer.frozen
      all_goals have hne : b5 ≠ w.heap.size + 1 := by have := HS8.out.hb; omega
      all_goals have hne2 : w.heap.size + 1 ≠ b5 := Ne.symm hne
      · have HPA := Lib.hid (Pick_lit xb V L (K + 13) (by omega) [0, 32, 33, -1] _ rfl 4 rfl (by decide) (by decide) w8 HS8.out.asks.2)
        simp only [ints, List.map_cons, List.map_nil] at HPA
        go_wp2_with (go_at_call 26; refine HPA.out.mono ?_; rintro e w9 ⟨r9, rfl, -, HA9⟩; have HS9 := Lib.hid (HS8.out.keep HA9.out); have HSZ := Lib.hid (HS9.out.most r9); have n9 := HS9.out.rb.blk.cell; have f9 := HS9.out.rb.blk.frozen; have z9 := HS9.out.zer.cell; have y9 := HS9.out.zer.frozen; simp only [askCells] at n9)
        refine bodyPost_ret (results_cell_row rfl _ _ (w.heap.size + 1) 41 _ (0, 0) _ rfl (ask_blk HSZ.out.zer _ _ _ _ _) Tryz.underlying41 rfl info41s) rfl ?_
        exact HSZ.out.got hl (by omega) (by have := HRI.out; omega) (by have := HRD.out; omega) (by have := HI5.out; omega)
      · have HPA := Lib.hid (Int_st xb V L (K + 13) (by omega) w8 HS8.out.asks.2)
        go_wp2_with (go_at_call 60; refine HPA.out.mono ?_; rintro e w9 ⟨r9, rfl, HA9⟩; have HS9 := Lib.hid (HS8.out.keep HA9.out); have HSZ := Lib.hid (HS9.out.seed r9); have n9 := HS9.out.rb.blk.cell; have f9 := HS9.out.rb.blk.frozen; have z9 := HS9.out.zer.cell; have y9 := HS9.out.zer.frozen; simp only [askCells] at n9)
        refine bodyPost_ret (results_cell_row rfl _ _ (w.heap.size + 1) 41 _ (0, 0) _ rfl (ask_blk HSZ.out.zer _ _ _ _ _) Tryz.underlying41 rfl info41s) rfl ?_
        exact HSZ.out.got hl (by omega) (by have := HRI.out; omega) (by have := HRD.out; omega) (by have := HI5.out; omega)
      · have HSZ := Lib.hid HS8.out.nil
        go_wp2
        refine bodyPost_ret (results_cell_row rfl _ _ (w.heap.size + 1) 41 _ (0, 0) _ rfl (ask_blk HSZ.out.zer _ _ _ _ _) Tryz.underlying41 rfl info41s) rfl ?_
        exact HSZ.out.got rfl (by omega) (by have := HRI.out; omega) (by have := HRD.out; omega) (by omega)
      · have HPK := Lib.hid (Pick_drew xb V L (K + 13) (by omega) [8, -1] _ rfl 2 rfl (by decide) (by decide) w8 HS8.out.asks.2)
        simp only [ints, List.map_cons, List.map_nil] at HPK
        have m8 := HS8.out.mdl.model
        have ma := (HS8.out.alloc (.cells #[.int .i64 8, .int .i64 (-1)] 3)).mdl.model
        have na := (HS8.out.alloc (.cells #[.int .i64 8, .int .i64 (-1)] 3)).rb.blk.cell
        simp only [askCells] at na
        have hi5 := HI5.out
        have hb1 : i + 1 ≤ maxLen := by unfold maxLen; omega
        have hb2 : (i + 1) * 8 ≤ 140737488355328 := by omega
        clear hi5
        go_upto_region 14 with fail
        go_region_law (first
          | (go_simp; go_at_call 26; refine HPK.out.mono ?_; rintro e w9 ⟨r9, rfl, -, HA9⟩; have HS9 := Lib.hid (HS8.out.keep HA9.out); have n9 := HS9.out.rb.blk.cell; have n9a := fun x : Int => (HS9.out.alloc (.cells #[.int .i64 x] 3)).rb.blk.cell; simp only [askCells] at n9 n9a; have HOW9 := Lib.hid (show w9.ownsRow (b5 + 1) 3 1 (.slice A i c) i (ints l) by have h := HS9.out.rb.row; rw [hl] at h; exact h))
          | (refine step_append_lies _ (by rfl) _ _ _ (by rfl) (b5 + 1) 3 i0 (.int .i64 0) 1 8 Tryz.underlying22 hi hz0 hz1 hz2 rfl (by decide) (.slice A i c) i _ (by rfl) (ownsRow_below HOW9.out (Below.alloc (Below.refl _ _) (Nat.le_refl _) _)) ⟨w9.heap.size, 0, none⟩ 1 1 [.int .i64 _] (by rfl) (by rfl) (news1' _ _ _) (one_int _ _) Nat.one_pos hb1 hb2 (Nat.le_trans HS9.out.size (alloc_le _ _)) _ rfl ?_; intro g3 cap3 w3 hown3 hgrow3 hat3 hlt3; have hba := HS9.out.app _ hl hown3 hgrow3 hat3; have HBA := Lib.hid hba.1; have HSZ := Lib.hid hba.2; have d3 := HBA.out.cell; have f3 := HBA.out.frozen; simp only [askCells] at d3; clear hba))
        all_goals
          clear n8 f8 m8 ma na z8 y8 d3 f3 n9 n9a
          have n9 := HSZ.out.rb.blk.cell
          have z9 := HSZ.out.zer.cell
          have y9 := HSZ.out.zer.frozen
          simp only [askCells] at n9
          go_wp2
          refine bodyPost_ret (results_cell_row rfl _ _ (w.heap.size + 1) 41 _ (0, 0) _ rfl (ask_blk HSZ.out.zer _ _ _ _ _) Tryz.underlying41 rfl info41s) rfl ?_
          exact HSZ.out.got (by simp [hl]) (by omega) (by have := HRI.out; omega) (by have := HRD.out; omega) (by have := HI5.out; omega)
      · go_upto_region 16 with fail
        have HIJ := Lib.hid (show l.length ≤ 33 by have := HI5.out; omega)
        rw [← hl] at HS8
        clear n8 f8 z8 y8 hl hir
        go_loopg [] (33 - l.length) (fun gk wx => ∃ (v : Value) (m : List Int), Hid (m.length ≤ 33) ∧ Hid (RS xb V L w (b5 + 1) b5 p (K + 13) wx r1 r2 r3 r4 v m) ∧ gk = 33 - m.length)
        case atStart => exact ⟨_, l, HIJ, HS8, rfl⟩
        case round =>
          obtain ⟨v, m, HIM, HSm, rfl⟩ := hrel
          obtain ⟨A2, c2, hv⟩ := ownsRow_shape HSm.out.rb.row
          obtain ⟨k, hk⟩ : ∃ k, m.length = k := ⟨_, rfl⟩
          rw [hk] at hv HIM
          subst hv
          have n5 := HSm.out.rb.blk.cell
          have f5 := HSm.out.rb.blk.frozen
          simp only [askCells] at n5
          have hk33 := HIM.out
          by_cases hlt : k < 33
          · have HLT := Lib.hid hlt
            have hb1 : k + 1 ≤ maxLen := by unfold maxLen; omega
            have hb2 : (k + 1) * 8 ≤ 140737488355328 := by omega
            have hlt' : (k : Int) < 33 := by omega
            have HOW := Lib.hid (show wr.ownsRow (b5 + 1) 3 1 (.slice A2 k c2) k (ints m) by have h := HSm.out.rb.row; rw [hk] at h; exact h)
            go_wp2_with (at_builtin; refine wpList_append_lies _ rfl _ _ 22 rfl (b5 + 1) 3 i0 (.int .i64 0) 1 8 Tryz.underlying22 hi hz0 hz1 hz2 rfl (by decide) _ k _ rfl (ownsRow_below HOW.out (Below.alloc (Below.refl _ _) (Nat.le_refl _) _)) ⟨wr.heap.size, 0, none⟩ 1 1 [.int .i64 0] rfl rfl (news1' _ _ _) (one_int _ _) Nat.one_pos hb1 hb2 (Nat.le_trans HSm.out.size (alloc_le _ _)) _ rfl ?_; intro g3 cap3 w3 hown3 hgrow3 hat3 hlt3; have hba := HSm.out.app _ hk hown3 hgrow3 hat3; have HBA := Lib.hid hba.1; have HSZ := Lib.hid hba.2; have d3 := HBA.out.cell; have f3 := HBA.out.frozen; simp only [askCells] at d3; clear hba hown3 hgrow3 hat3 hlt3)
            go_roundg (33 - (k + 1))
            case measure => have := HLT.out; rw [hk]; omega
            case rel => exact ⟨_, m ++ [0], Lib.hid (by have := HLT.out; simp [hk]; omega), HSZ, by simp [hk]⟩
          · have hlt' : ¬ (k : Int) < 33 := by omega
            have he : k = 33 := by omega
            subst he
            obtain ⟨g, hg⟩ : ∃ g, A2 = some ⟨g, 0, none⟩ := by
              rcases HSm.out.rb.row.2 with ⟨hv, hz⟩ | ⟨g, cap, cur, hv, -⟩
              · omega
              · injection hv with a; exact ⟨g, a⟩
            subst hg
            go_upto_region 18 with fail
            have HPK := Lib.hid (Pick_drew xb V L (K + 13) (by omega) [32, 33] _ rfl 2 rfl (by decide) (by decide) wr HSm.out.asks.2)
            simp only [ints, List.map_cons, List.map_nil] at HPK
            have na := (HSm.out.alloc (.cells #[.int .i64 32, .int .i64 33] 3)).rb.blk.cell
            simp only [askCells] at na
            have HC2 := Lib.hid (show 33 ≤ c2 by
              rcases HSm.out.rb.row.2 with ⟨hv, hz⟩ | ⟨g', cap, cur, hv, a2, a3, a4, -⟩
              · cases hv
              · injection hv with e1 e2 e3; omega)
            go_region_law (go_simp; go_at_call 26; refine HPK.out.mono ?_; rintro e w9 ⟨r9, rfl, HR9, HA9⟩; have HS9 := Lib.hid (HSm.out.keep HA9.out); obtain ⟨n, hn, HN33⟩ := req_take HR9.out; subst hn; have HSZ := Lib.hid (HS9.out.take rfl hk (m := n) HN33.out); have n9 := HS9.out.rb.blk.cell; have f9 := HS9.out.rb.blk.frozen; simp only [askCells] at n9; have t2 : n ≤ c2 := Nat.le_trans HN33.out HC2.out; have t1 : (n : Int) ≤ (c2 : Int) := Int.ofNat_le.mpr t2)
            all_goals
              clear n5 f5 na n9 f9
              have n9 := HSZ.out.rb.blk.cell
              have z9 := HSZ.out.zer.cell
              have y9 := HSZ.out.zer.frozen
              simp only [askCells] at n9
              go_wp2
              refine bodyPost_ret (results_cell_row rfl _ _ (w.heap.size + 1) 41 _ (0, 0) _ rfl (ask_blk HSZ.out.zer _ _ _ _ _) Tryz.underlying41 rfl info41s) rfl ?_
              exact HSZ.out.got (by have := HN33.out; simp only [List.length_take, hk]; omega) (by omega) (by have := HRI.out; omega) (by have := HRD.out; omega) (by have := HN33.out; omega)
      · go_wp2
        refine bodyPost_ret (results_cell_row rfl _ _ (w.heap.size + 1) 41 _ (0, 0) _ rfl (ask_blk HS8.out.zer _ _ _ _ _) Tryz.underlying41 rfl info41s) rfl ?_
        exact HS8.out.got hl (by omega) (by have := HRI.out; omega) (by have := HRD.out; omega) (by have := HI5.out; omega)
end Go.Proofs.YtllpoaoboieijaaGreat
