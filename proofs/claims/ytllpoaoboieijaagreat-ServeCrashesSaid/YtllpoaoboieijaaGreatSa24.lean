/-
  Models: Alone.
-/
import Derived.Test.YtllpoaoboieijaaGreatSa23
/-
  Models: Alone.
-/
namespace Go.Proofs.YtllpoaoboieijaaGreat
open Go.RowKit

theorem ownsRow_grown {w w' : World} {base : Nat} {e : TypeId} {size : Nat} {v : Value} {n : Nat} {xs : List Value} {row : Option Nat} (h : w.ownsRow base e size v n xs) (hg : w.grownBy w' row) (hne : ∀ g, v.ownBlock = some g → row ≠ some g) : w'.ownsRow base e size v n xs := by
  refine ⟨h.1, ?_⟩
  rcases h.2 with h | ⟨g, cap, cur, hv, h3, h4, h5, h6, h7, h8⟩
  · exact .inl h
  · exact .inr ⟨g, cap, cur, hv, h3, by rw [hg.block g (lt_of_heap h4) (fun e => hne g (by rw [hv]; rfl) e.symm)]; exact h4, h5, h6, h7, h8⟩
theorem EntRow.grown {base : Nat} {w w3 : World} {v : Value} {k : Nat} {es : Nat → List Int} {P : Nat → Pl} (h : EntRow base w v k es P) {row : Option Nat} (hg : w.grownBy w3 row) (h1 : ∀ g, v.ownBlock = some g → row ≠ some g) (h2 : ∀ i, i < k → row ≠ some (P i).b) : EntRow base w3 v k es P :=
  ⟨ownsRow_grown h.row hg h1, fun i hi => (h.rd i hi).grown hg (fun e => h2 i hi e.symm), h.len, h.ne⟩
theorem EntRow.es {base : Nat} {w : World} {v : Value} {k : Nat} {es es' : Nat → List Int} {P : Nat → Pl} (h : EntRow base w v k es P) (he : ∀ i, i < k → es' i = es i) : EntRow base w v k es' P :=
  ⟨h.row, fun i hi => by rw [he i hi]; exact h.rd i hi, fun i hi => by rw [he i hi]; exact h.len i hi, h.ne⟩
/-- A slice's block is none of those of a row of entries. -/
def Apart (vo v : Value) (k : Nat) (P : Nat → Pl) : Prop := ∀ g, vo.ownBlock = some g → v.ownBlock ≠ some g ∧ ∀ i, i < k → (P i).b ≠ g

theorem Apart.nil (v : Value) (k : Nat) (P : Nat → Pl) : Apart (.slice none 0 0) v k P := fun g hg => by simp [Value.ownBlock] at hg
theorem Apart.out {vo v : Value} {k : Nat} {P : Nat → Pl} (h : Apart vo v k P) {N N' g' n c : Nat} (h1 : ∀ g, v.ownBlock = some g → g < N) (h2 : ∀ i, i < k → (P i).b < N) (hN : N ≤ N') (hat : vo.ownBlock = some g' ∨ g' = N') : Apart (.slice (some ⟨g', 0, none⟩) n c) v k P := by
  intro g hg
  have : g' = g := by simpa [Value.ownBlock] using hg
  subst this
  rcases hat with a | a
  · exact h g' a
  · exact ⟨fun e => by have := h1 g' e; omega, fun i hi e => by have := h2 i hi; omega⟩
theorem Apart.ent {vo v : Value} {k : Nat} {P : Nat → Pl} (h : Apart vo v k P) {N N' g g' n c cc : Nat} (h1 : ∀ x, vo.ownBlock = some x → x < N) (hg : N ≤ g) (hN : N ≤ N') (hat : v.ownBlock = some g' ∨ g' = N') : Apart vo (.slice (some ⟨g', 0, none⟩) n c) (k + 1) (Pl.ins P k ⟨g, 0, cc⟩) := by
  intro x hx
  have hxN := h1 x hx
  refine ⟨fun e => ?_, fun i hi => ?_⟩
  · have : g' = x := by simpa [Value.ownBlock] using e
    subst this
    rcases hat with a | a
    · exact (h g' hx).1 a
    · omega
  · by_cases e : i = k
    · subst e; simp only [Pl.ins, if_true]; omega
    · simp only [Pl.ins, if_neg e]; exact (h x hx).2 i (by omega)
theorem ownsRow_mono {w : World} {base base' : Nat} {e : TypeId} {size : Nat} {v : Value} {n : Nat} {xs : List Value} (h : w.ownsRow base e size v n xs) (hb : base' ≤ base) : w.ownsRow base' e size v n xs := by
  refine ⟨h.1, ?_⟩
  rcases h.2 with h | ⟨g, cap, cur, hv, h3, h4⟩
  · exact .inl h
  · exact .inr ⟨g, cap, cur, hv, by omega, h4⟩

/-- The tokens of a prompt and k tokens more. -/
def genTo (prompt : List Int) (seed : Int) : Nat → List Int
  | 0 => prompt
  | k + 1 => genTo prompt seed k ++ [tokF demoM (genTo prompt seed k) seed k]
def genTok (prompt : List Int) (seed : Int) (k : Nat) : Int := tokF demoM (genTo prompt seed k) seed k
theorem genTo_succ (prompt : List Int) (seed : Int) (k : Nat) : genTo prompt seed (k + 1) = genTo prompt seed k ++ [genTok prompt seed k] := rfl
theorem genTo_len (prompt : List Int) (seed : Int) (k : Nat) : (genTo prompt seed k).length = prompt.length + k := by
  induction k with
  | zero => rfl
  | succ k ih => rw [genTo_succ, List.length_append, ih]; simp; omega
theorem genTo_in (prompt : List Int) (seed : Int) (h : ∀ t, t ∈ prompt → 0 ≤ t ∧ t < 8) (k : Nat) : ∀ t, t ∈ genTo prompt seed k → 0 ≤ t ∧ t < 8 := by
  induction k with
  | zero => exact h
  | succ k ih =>
    intro t ht
    rw [genTo_succ] at ht
    rcases List.mem_append.1 ht with h1 | h1
    · exact ih t h1
    · rw [List.mem_singleton.1 h1]; exact tokF_in _ _ _ _
theorem esOf_app (l : List Int) (x : Int) (i : Nat) (h : i < l.length) : esOf (l ++ [x]) i = esOf l i := by
  unfold esOf
  congr 2
  simp [List.getD, List.getElem?_append_left h]
/-- An answer ends behind its K-th token. -/
def StopsAt (prompt : List Int) (seed most : Int) (K : Nat) : Prop := 1 ≤ K ∧ (K : Int) ≤ most ∧ (∀ j, j + 1 < K → genTok prompt seed j ≠ 0) ∧ (genTok prompt seed (K - 1) = 0 ∨ (K : Int) = most)
theorem StopsAt.uniq {prompt : List Int} {seed most : Int} {K J : Nat} (h : StopsAt prompt seed most K) (k : StopsAt prompt seed most J) : K = J := by
  obtain ⟨a1, a2, a3, a4⟩ := h
  obtain ⟨b1, b2, b3, b4⟩ := k
  rcases Nat.lt_trichotomy K J with c | c | c
  · rcases a4 with a4 | a4
    · exact absurd a4 (b3 (K - 1) (by omega))
    · omega
  · exact c
  · rcases b4 with b4 | b4
    · exact absurd b4 (a3 (J - 1) (by omega))
    · omega

set_option maxRecDepth 100000 in
set_option maxHeartbeats 6400000 in
theorem alone_any (p : MPl) (q : Ask) (pb po pc : Nat) (hp0 : 1 ≤ q.prompt.length) (hp1 : q.prompt.length ≤ 32) (hm : 1 ≤ q.most ∧ q.most ≤ 32) (hs : -2147483648 ≤ q.seed ∧ q.seed ≤ 2147483647) (hin : ∀ t, t ∈ q.prompt → 0 ≤ t ∧ t < 8)
    (w : World) (h : DemoAt w p) (hr : RdAt w pb po pc q.prompt) :
    Calls Tryz.prog 18 #[.agg (demoCells p).toArray, q.val (some ⟨pb, po, none⟩) pc] w fun e w' => ∃ K v, e = .returned (.tuple #[v, .int .i64 0]) ∧ Hid (Below w.heap.size w w') ∧ Hid (StopsAt q.prompt q.seed q.most K) ∧ Hid (w'.ownsRow w.heap.size 3 1 v K (ints ((genTo q.prompt q.seed K).drop q.prompt.length))) := by
  obtain ⟨wb, hwb, hbel, hblk⟩ : ∃ wb, w.alloc (.cells (demoCells p).toArray 27) = wb ∧ Below w.heap.size w wb ∧ Blk wb w.heap.size (demoCells p) 27 := ⟨_, rfl, (Below.refl _ _).alloc (Nat.le_refl _) _, heap_alloc_new w _⟩
  obtain ⟨wc, hwc, hbel2, hblk2⟩ : ∃ wc, wb.alloc (.cells #[.int .i64 q.id, .int .i64 q.deadline, .slice (some ⟨pb, po, none⟩) q.prompt.length pc, .int .i64 q.most, .int .i64 q.seed] 41) = wc ∧ Below wb.heap.size wb wc ∧ Blk wc wb.heap.size [.int .i64 q.id, .int .i64 q.deadline, .slice (some ⟨pb, po, none⟩) q.prompt.length pc, .int .i64 q.most, .int .i64 q.seed] 41 := ⟨_, rfl, (Below.refl _ _).alloc (Nat.le_refl _) _, heap_alloc_new wb _⟩
  have HQ := Lib.hid (fun (wx : World) (hb : Below wc.heap.size wc wx) => ((hblk.below hbel2).below hb).cell)
  have HQ2 := Lib.hid (fun (wx : World) (hb : Below wc.heap.size wc wx) => (hblk2.below hb).cell)
  have q0 := (hblk.below hbel2).cell
  have q1 := hblk2.cell
  have HB := Lib.hid (hbel.trans (hbel2.mono hbel.size))
  have HD := Lib.hid ((h.below hbel).below hbel2)
  have HR := Lib.hid ((hr.below hbel).below hbel2)
  have HC := Lib.hid (check_any p wc ((h.below hbel).below hbel2))
  have HEY := Lib.hid (fun (wx : World) (hx : DemoAt wx p) (t at' : Nat) (ht : t < 8) (ha : at' < 1000) => entry_any p t at' ht ha wx hx)
  have HIN := Lib.hid hin
  have hall := fun (wx : World) (hx : RdAt wx pb po pc q.prompt) => all_demo q.prompt 0 7 (fun x hx => by have := hin x hx; omega) _ rfl (by omega) pb po pc wx hx
  have HALL := Lib.hid hall
  generalize hnp : q.prompt.length = np at *
  have HNP := Lib.hid hnp
  clear hbel hblk h hbel2 hblk2 hr hin hall hnp
  simp only [demoCells] at q0 HQ HC HEY hwb ⊢
  unfold Ask.val
  rw [HNP.out]
  go_enter Tryz.func18, Tryz.ntmps18
  go_upto_region 10 with (first | (go_at_call 43; have _g := HB1; clear _g; refine (HALL.out w1 (HR.out.below HB1.out)).mono ?_; rintro e w2 ⟨rfl, HB2'⟩; have HB2 := Lib.hid (HB1.out.trans (HB2'.out.mono HB1.out.size)); have r0 := HQ.out _ HB2.out; have r1 := HQ2.out _ HB2.out) | (go_at_call 40; refine HC.out.mono ?_; rintro e w1 ⟨rfl, hb1⟩; have HB1 := Lib.hid hb1; clear hb1; have p0 := HQ.out _ HB1.out; have p1 := HQ2.out _ HB1.out) | (go_at_call 41; refine (mwithin_yes _ _ _ (by omega) _).mono ?_; rintro e wz ⟨rfl, hz⟩; subst wz) | (go_at_call 42; refine (mword_yes _ (by omega) _).mono ?_; rintro e wz ⟨rfl, hz⟩; subst wz))
  obtain ⟨i0, hi, hz0, hz1, hz2⟩ := info_parts info22
  clear p0 p1 q0 q1
  go_wp2
  go_loopg [7, 47] np (fun gk s7 s47 wx => ∃ (k : Nat) (P : Nat → Pl), s47 = .int .i64 k ∧ k ≤ np ∧ Hid (Below wc.heap.size wc wx) ∧ Hid (EntRow wc.heap.size wx s7 k (esOf q.prompt) P) ∧ gk = np - k)
  case atStart => exact ⟨0, fun _ => ⟨0, 0, 0⟩, rfl, by omega, HB2, Lib.hid (EntRow.nil _ _ _ _), rfl⟩
  case round =>
    obtain ⟨k, P, rfl, hk, HB3, HE3, rfl⟩ := hrel
    have d0 := HQ.out wr HB3.out
    have d1 := HQ2.out wr HB3.out
    obtain ⟨A4, c4, hv4⟩ := ownsRow_shape HE3.out.row
    subst hv4
    clear r0 r1
    by_cases hlt : k < np
    · have ct := (HR.out.below HB3.out).2.2 k (by rw [HNP.out]; exact hlt)
      have htm : q.prompt.getD k 0 ∈ q.prompt := by rw [show q.prompt.getD k 0 = q.prompt[k]'(by rw [HNP.out]; exact hlt) by simp [List.getD, HNP.out, hlt]]; exact List.getElem_mem _
      have htk := HIN.out _ htm
      obtain ⟨t, ht⟩ : ∃ t : Nat, q.prompt.getD k 0 = (t : Int) := ⟨(q.prompt.getD k 0).toNat, by omega⟩
      have HEK := Lib.hid (show esOf q.prompt k = entTo t k 12 by unfold esOf; rw [ht]; rfl)
      rw [ht] at ct htk
      have hb1 : k + 1 ≤ maxLen := by unfold maxLen; omega
      have hb2 : (k + 1) * 24 ≤ 140737488355328 := by omega
      clear ht htm
      go_wp2_with (first | (at_builtin; refine wpList_append_lies _ rfl _ _ 84 rfl wc.heap.size 22 i0 (.slice none 0 0) 1 24 Tryz.underlying84 hi hz0 hz1 hz2 rfl (by decide) _ k _ rfl (ownsRow_below HE4.out.row (Below.alloc (Below.refl _ _) (Nat.le_refl _) _)) ⟨w4.heap.size, 0, none⟩ 1 1 [.slice (some ⟨g2, 0, none⟩) 12 c2] rfl rfl (news1' _ _ _) (one_slice _ _ _) Nat.one_pos hb1 hb2 (Nat.le_trans HB4.out.size (alloc_le _ _)) _ rfl ?_; intro g3 cap3 w5 hown3 hgrow3 hat3 hlt3; have HE5 := Lib.hid (EntRow.app HE4.out (by rw [HEK.out]; exact HR4.out.1) (esOf_len _ _) (fun gr hgr => by have := (HE3.out.row.lt gr hgr).2; have := HR4.out.2; omega) _ hown3 hgrow3 hat3); have HB5 := Lib.hid (Below.trans (HB4.out.alloc HB4.out.size _) (Below.ofGrown hgrow3 (Nat.le_trans HB4.out.size (alloc_le _ _)) (ownsRow_base HE3.out.row))); clear hown3 hgrow3 hat3 hlt3) | (go_at_call 44; refine (HEY.out wr (HD.out.below HB3.out) t k (by omega) (by omega)).mono ?_; rintro e w4 ⟨g2, c2, rfl, HB4', HR4⟩; have HB4 := Lib.hid (HB3.out.trans (HB4'.out.mono HB3.out.size)); have HE4 := Lib.hid (HE3.out.below HB4'.out)))
      go_roundg (np - (k + 1))
      case measure => omega
      case rel => exact ⟨k + 1, _, by go_num, by omega, HB5, HE5, rfl⟩
    · have : k = np := by omega
      subst this
      go_wp2
      go_loopg [7, 10, 62] 32 (fun gk s7 s10 s62 wx => ∃ (j : Nat) (P : Nat → Pl), s62 = .int .i64 j ∧ (j : Int) < q.most ∧ Hid (Below wc.heap.size wc wx) ∧ Hid (EntRow wc.heap.size wx s7 (k + j) (esOf (genTo q.prompt q.seed j)) P) ∧ Hid (wx.ownsRow wc.heap.size 3 1 s10 j (ints ((genTo q.prompt q.seed j).drop k))) ∧ Hid (Apart s10 s7 (k + j) P) ∧ Hid (∀ i, i < j → genTok q.prompt q.seed i ≠ 0) ∧ gk = 32 - j)
      case atStart => exact ⟨0, P, rfl, by omega, HB3, HE3, Lib.hid (by
        have : (genTo q.prompt q.seed 0).drop k = [] := List.drop_eq_nil_of_le (by show q.prompt.length ≤ k; rw [HNP.out]; exact Nat.le_refl _)
        rw [this]; exact World.ownsRow_nil _ _ _ _), Lib.hid (Apart.nil _ _ _), Lib.hid (fun i hi => absurd hi (by omega)), rfl⟩
      case round =>
        obtain ⟨j, P2, rfl, hj, HB6, HE6, HO6, HA6, HZ6, rfl⟩ := hrel
        have e0 := HQ.out wr HB6.out
        have e1 := HQ2.out wr HB6.out
        clear d0 d1
        obtain ⟨A7, c7, hv7⟩ := ownsRow_shape HE6.out.row
        subst hv7
        obtain ⟨g7, hA7⟩ : ∃ g7, A7 = some ⟨g7, 0, none⟩ := by
          rcases HE6.out.row.2 with ⟨hv, hz⟩ | ⟨g, cap, cur, hv, -⟩
          · omega
          · injection hv with a; exact ⟨g, a⟩
        subst hA7
        obtain ⟨A10, c10, hv10⟩ := ownsRow_shape HO6.out
        subst hv10
        have HES := Lib.hid HE6.out.ents
        have HNX := Lib.hid (fun (wx : World) (hb : Below wr.heap.size wr wx) => next_any p g7 0 c7 (k + j) (esOf (genTo q.prompt q.seed j)) P2 (by omega) (by omega) (drawI q.seed j) (by have := drawI_in q.seed j; omega) wx ((HD.out.below HB6.out).below hb) (HES.out.below hb))
        have HTF := Lib.hid (show ((tokI (esOf (genTo q.prompt q.seed j)) (k + j) (drawI q.seed j) : Nat) : Int) = genTok q.prompt q.seed j by unfold genTok tokF; rw [genTo_len, HNP.out])
        have HS := Lib.hid (fun (wx : World) (hb : Below wc.heap.size wc wx) => And.intro (HQ.out wx hb) (HQ2.out wx hb))
        have tj : (j : Int) < q.most := hj
        have tj' : decide ((j : Int) < q.most) = true := decide_eq_true hj
        simp only [demoCells] at HNX
        go_upto_region 20 with fail
        go_region_held3 (fun wy : World => (∀ o, wy.cell? ⟨w.heap.size, o, none⟩ = ([Value.int .i64 1, .int .i64 8, .int .i64 4, .int .i64 8, .slice (some ⟨p.cuts.b, p.cuts.o, none⟩) 4 p.cuts.c, .slice (some ⟨p.embed.b, p.embed.o, none⟩) 32 p.embed.c, .slice (some ⟨p.place.b, p.place.o, none⟩) 16 p.place.c, .slice (some ⟨p.mix.b, p.mix.o, none⟩) 48 p.mix.c, .slice (some ⟨p.out.b, p.out.o, none⟩) 32 p.out.c, .slice (some ⟨p.soft.b, p.soft.o, none⟩) 7 p.soft.c, .slice (some ⟨p.odds.b, p.odds.o, none⟩) 6 p.odds.c] : List Value)[o]?) ∧ (∀ o, wy.cell? ⟨wb.heap.size, o, none⟩ = ([Value.int .i64 q.id, .int .i64 q.deadline, .slice (some ⟨pb, po, none⟩) k pc, .int .i64 q.most, .int .i64 q.seed] : List Value)[o]?)) (first | exact HS.out _ HB7.out | exact HS.out _ HB6.out.drew) (first
          | (go_at_call 46; refine (draw_any _ _ _).mono ?_; rintro e wz ⟨rfl, hz⟩; subst wz; dsimp only)
          | (go_at_call 45; refine (HNX.out _ (Below.refl _ _).drew).mono ?_; rintro e w7 ⟨rfl, hb7⟩; have HB67 := Lib.hid (below_undrew hb7); have HB7 := Lib.hid (HB6.out.trans (HB67.out.mono HB6.out.size)); clear hb7; dsimp only))
        rw [HTF.out]
        have HTI := Lib.hid (show 0 ≤ genTok q.prompt q.seed j ∧ genTok q.prompt q.seed j < 8 from tokF_in _ _ _ _)
        have HG1 := Lib.hid (show genTo q.prompt q.seed (j + 1) = genTo q.prompt q.seed j ++ [genTok q.prompt q.seed j] from rfl)
        generalize htk : genTok q.prompt q.seed j = tk at HTI HG1 ⊢
        have HTK := Lib.hid htk
        have HE7 := Lib.hid (HE6.out.below HB67.out)
        have HO7 := Lib.hid (ownsRow_below HO6.out HB67.out)
        obtain ⟨i1, hi', hz0', hz1', hz2'⟩ := info_parts info3
        have hb1 : j + 1 ≤ maxLen := by unfold maxLen; omega
        have hb2 : (j + 1) * 8 ≤ 140737488355328 := by omega
        have hb3 : k + j + 1 ≤ maxLen := by unfold maxLen; omega
        have hb4 : (k + j + 1) * 24 ≤ 140737488355328 := by omega
        have HDL := Lib.hid (show (genTo q.prompt q.seed (j + 1)).drop k = (genTo q.prompt q.seed j).drop k ++ [tk] by rw [HG1.out, List.drop_append_of_le_length (by rw [genTo_len, HNP.out]; omega)])
        clear htk e0 e1
        go_upto_region 22 with (at_builtin; refine wpList_append_lies _ rfl _ _ 22 rfl wc.heap.size 3 i1 (.int .i64 0) 1 8 Tryz.underlying22 hi' hz0' hz1' hz2' rfl (by decide) _ j _ rfl (ownsRow_below HO7.out (Below.alloc (Below.refl _ _) (Nat.le_refl _) _)) ⟨w7.heap.size, 0, none⟩ 1 1 [.int .i64 tk] rfl rfl (news1' _ _ _) (one_int _ _) Nat.one_pos hb1 hb2 (Nat.le_trans HB7.out.size (alloc_le _ _)) _ rfl ?_; intro g8 cap8 w8 hown8 hgrow8 hat8 hlt8; have HO8 := Lib.hid (show w8.ownsRow wc.heap.size 3 1 (.slice (some ⟨g8, 0, none⟩) (j + 1) cap8) (j + 1) (ints ((genTo q.prompt q.seed (j + 1)).drop k)) by rw [HDL.out, ints, List.map_append]; exact hown8); have HB8 := Lib.hid (Below.trans (HB7.out.alloc HB7.out.size _) (Below.ofGrown hgrow8 (Nat.le_trans HB7.out.size (alloc_le _ _)) (ownsRow_base HO7.out))); have HE8 := Lib.hid ((HE7.out.below (Below.alloc (Below.refl _ _) (Nat.le_refl _) _)).grown hgrow8 (fun g hg e => (HA6.out g e).1 hg) (fun i hi e => (HA6.out _ e).2 i hi rfl)); have HA8 := Lib.hid (Apart.out HA6.out (N := w7.heap.size) (n := j + 1) (c := cap8) (fun g hg => (HE7.out.row.lt g hg).2) (fun i hi => (HE7.out.rd i hi).lt (by rw [HE7.out.len i hi]; omega)) (alloc_le _ _) hat8); clear hown8 hgrow8 hat8 hlt8)
        have r0 := HQ.out _ HB8.out
        have r1 := HQ2.out _ HB8.out
        by_cases h0 : tk = 0
        · have b0 : (tk == 0) = true := by simp [h0]
          have HST := Lib.hid (show StopsAt q.prompt q.seed q.most (j + 1) from ⟨by omega, by omega, fun i hi => HZ6.out i (by omega), .inl (by show genTok q.prompt q.seed j = 0; rw [HTK.out]; exact h0)⟩)
          clear h0
          go_wp2
          go_ret2
          refine ⟨j + 1, _, rfl, Lib.hid (HB.out.trans (HB8.out.mono HB.out.size)), HST, Lib.hid ?_⟩
          exact ownsRow_mono HO8.out HB.out.size
        · have b0 : (tk == 0) = false := by simp [h0]
          have w1' : IntKind.i64.wrap ((j : Int) + 1) = (j : Int) + 1 := IntWalk.i64_in _ (by omega)
          by_cases hm1 : (j : Int) + 1 = q.most
          · have b1 : ((j : Int) + 1 == q.most) = true := by simp [hm1]
            have HST := Lib.hid (show StopsAt q.prompt q.seed q.most (j + 1) from ⟨by omega, by omega, fun i hi => HZ6.out i (by omega), .inr (by omega)⟩)
            clear h0 hm1
            go_wp2
            go_ret2
            refine ⟨j + 1, _, rfl, Lib.hid (HB.out.trans (HB8.out.mono HB.out.size)), HST, Lib.hid ?_⟩
            exact ownsRow_mono HO8.out HB.out.size
          · have b1 : ((j : Int) + 1 == q.most) = false := by simp [hm1]
            obtain ⟨t, ht⟩ : ∃ t : Nat, tk = (t : Int) := ⟨tk.toNat, by have := HTI.out; omega⟩
            have htl : t < 8 := by have := HTI.out; omega
            have HZ8 := Lib.hid (show ∀ i, i < j + 1 → genTok q.prompt q.seed i ≠ 0 from fun i hi => by
              by_cases e : i = j
              · subst e; rw [HTK.out]; exact h0
              · exact HZ6.out i (by omega))
            have HEK := Lib.hid (show esOf (genTo q.prompt q.seed (j + 1)) (k + j) = entTo t (k + j) 12 by
              unfold esOf
              rw [HG1.out, show (genTo q.prompt q.seed j ++ [tk]).getD (k + j) 0 = tk by
                have hl : (genTo q.prompt q.seed j).length = k + j := by rw [genTo_len, HNP.out]
                simp [List.getD, ← hl], ht]
              rfl)
            have HESS := Lib.hid (fun i (hi : i < k + j) => (show esOf (genTo q.prompt q.seed (j + 1)) i = esOf (genTo q.prompt q.seed j) i by rw [HG1.out]; exact esOf_app _ _ _ (by rw [genTo_len, HNP.out]; exact hi)))
            have HE8' := Lib.hid (HE8.out.es HESS.out)
            have hm2 : (j : Int) + 1 < q.most := by omega
            have HM2 := Lib.hid hm2
            have heyy := HEY.out w8 (HD.out.below HB8.out) t (k + j) htl (by omega)
            rw [← ht, show ((k + j : Nat) : Int) = (k : Int) + (j : Int) by omega] at heyy
            have HEYY := Lib.hid heyy
            clear h0 hm1 hm2 htl ht heyy
            go_wp2_with (first | (at_builtin; refine wpList_append_lies _ rfl _ _ 84 rfl wc.heap.size 22 i0 (.slice none 0 0) 1 24 Tryz.underlying84 hi hz0 hz1 hz2 rfl (by decide) _ (k + j) _ rfl (ownsRow_below HE9.out.row (Below.alloc (Below.refl _ _) (Nat.le_refl _) _)) ⟨w9.heap.size, 0, none⟩ 1 1 [.slice (some ⟨g2, 0, none⟩) 12 c2] rfl rfl (news1' _ _ _) (one_slice _ _ _) Nat.one_pos hb3 hb4 (Nat.le_trans HB9.out.size (alloc_le _ _)) _ rfl ?_; intro g3 cap3 w5 hown3 hgrow3 hat3 hlt3; have HE5 := Lib.hid (EntRow.app HE9.out (by rw [HEK.out]; exact HR9.out.1) (esOf_len _ _) (fun gr hgr => by have := (HE8'.out.row.lt gr hgr).2; have := HR9.out.2; omega) _ hown3 hgrow3 hat3); have HB5 := Lib.hid (Below.trans (HB9.out.alloc HB9.out.size _) (Below.ofGrown hgrow3 (Nat.le_trans HB9.out.size (alloc_le _ _)) (ownsRow_base HE8'.out.row))); have HO5 := Lib.hid (ownsRow_grown (ownsRow_below HO9.out (Below.alloc (Below.refl _ _) (Nat.le_refl _) _)) hgrow3 (fun g hg e => (HA8.out g hg).1 e)); have HA5 := Lib.hid (Apart.ent HA8.out (N := w8.heap.size) (n := k + j + 1) (c := cap3) (cc := c2) (fun x hx => (HO8.out.lt x hx).2) HR9.out.2 (Nat.le_trans HB89.out.size (alloc_le _ _)) hat3); clear hown3 hgrow3 hat3 hlt3) | (go_at_call 44; refine HEYY.out.mono ?_; rintro e w9 ⟨g2, c2, rfl, HB89, HR9⟩; have HB9 := Lib.hid (HB8.out.trans (HB89.out.mono HB8.out.size)); have HE9 := Lib.hid (HE8'.out.below HB89.out); have HO9 := Lib.hid (ownsRow_below HO8.out HB89.out)))
            go_roundg (32 - (j + 1))
            case measure => omega
            case rel => exact ⟨j + 1, _, by go_num, by have := HM2.out; omega, HB5, HE5, HO5, HA5, HZ8, rfl⟩
end Go.Proofs.YtllpoaoboieijaaGreat
