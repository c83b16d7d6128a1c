/-
  acceptable: a request that is plain.
  acceptable: a prompt that is none.
  acceptable, whole.
  settle.
-/
import Derived.Maps.RangeWalk
import Derived.Test.YtllpoaoboieijaaGreatSa7
import Derived.Test.YtllpoaoboieijaaGreatSa23
/-
  acceptable: a request that is plain.
-/
namespace Go.Proofs.YtllpoaoboieijaaGreat
open Go.RowKit

theorem plain_four {q : Ask} (h : q.plain = true) : withinB q.id 1 1000000 = true ∧ withinB q.deadline 0 1000000 = true ∧ withinB q.most 1 32 = true ∧ withinB q.seed (-2147483648) 2147483647 = true := by
  unfold Ask.plain at h
  simp only [Bool.and_eq_true] at h
  exact ⟨h.1.1.1, h.1.1.2, h.1.2, h.2⟩
theorem withinB_iff {x lo hi : Int} (h : withinB x lo hi = true) : lo ≤ x ∧ x ≤ hi := by
  unfold withinB at h; simpa using h
/-- What lies behind the two boxes. -/
theorem acc_boxes {own : Nat → Lb} {sb : Nat} {L : Lay} {S : Srv} {w : World} (h : SrvAt own w sb L S) (q : Ask) (A : Option Addr) (c : Nat) (hr : RdV w (.slice A q.prompt.length c) (ints q.prompt)) :
    ∃ own', SrvAt own' ((w.alloc (.cells #[.pointer (some ⟨sb, 0, none⟩)] 32)).alloc (.cells #[.int .i64 q.id, .int .i64 q.deadline, .slice A q.prompt.length c, .int .i64 q.most, .int .i64 q.seed] 41)) sb L S ∧
      RdV ((w.alloc (.cells #[.pointer (some ⟨sb, 0, none⟩)] 32)).alloc (.cells #[.int .i64 q.id, .int .i64 q.deadline, .slice A q.prompt.length c, .int .i64 q.most, .int .i64 q.seed] 41)) (.slice A q.prompt.length c) (ints q.prompt) ∧
      Ext own w own' ((w.alloc (.cells #[.pointer (some ⟨sb, 0, none⟩)] 32)).alloc (.cells #[.int .i64 q.id, .int .i64 q.deadline, .slice A q.prompt.length c, .int .i64 q.most, .int .i64 q.seed] 41)) Tloc ∧ own' w.heap.size = .other := by
  have hb : Below w.heap.size w ((w.alloc (.cells #[.pointer (some ⟨sb, 0, none⟩)] 32)).alloc (.cells #[.int .i64 q.id, .int .i64 q.deadline, .slice A q.prompt.length c, .int .i64 q.most, .int .i64 q.seed] 41)) := ((Below.refl _ _).alloc (Nat.le_refl _) _).alloc (alloc_le _ _) _
  exact ⟨_, h.below hb, hr.below hb, Ext.below hb _ _, relab_new _ (Nat.le_refl _)⟩

theorem open_len (own : Nat → Lb) (sb : Nat) (L : Lay) (S : Srv) (w : World) (h : SrvAt own w sb L S) (hn : S.reqs.length ≤ 12) :
    Calls Tryz.prog 35 #[.pointer (some ⟨sb, 0, none⟩)] w fun e w' => ∃ (A : Option Addr) (c : Nat) (own' : Nat → Lb), e = .returned (.slice A (S.reqs.filter fun r => !r.ended).length c) ∧ Hid (SrvAt own' w' sb L S ∧ Ext own w own' w' Tloc) := by
  refine (open_any' own sb L S w h hn).mono ?_
  rintro e w1 ⟨ys, A, c, own1, rfl, hy⟩
  exact ⟨A, c, own1, by rw [hy.out.1.1.length_eq], ⟨hy.out.2.1, hy.out.2.2.2⟩⟩
theorem Ext.cell {o1 o2 : Nat → Lb} {w w' : World} {T : Lb → Prop} (x : Ext o1 w o2 w' T) {b o : Nat} {v : Value} (h : w.cell? ⟨b, o, none⟩ = some v) (ht : ¬ T (o1 b)) : w'.cell? ⟨b, o, none⟩ = some v := by
  rw [World.cell?_of_block (a := ⟨b, o, none⟩) (x.keep b (World.block_lt_of_cell? w _ h) ht)]; exact h
/-- The error of a request that is plain. -/
def accF (S : Srv) (q : Ask) : Int :=
  if (S.get q.id).isSome = true then 6
  else if q.deadline ≤ S.now then 18
  else if S.pagesN * S.pageSize < (q.prompt.length : Int) + q.most then 2
  else if S.queue ≤ ((S.reqs.filter fun r => !r.ended).length : Int) ∨ 20000 ≤ S.records then 16
  else 0
def AccGot (own : Nat → Lb) (sb : Nat) (L : Lay) (S : Srv) (w w' : World) : Prop := ∃ own', SrvAt own' w' sb L S ∧ Ext own w own' w' Tloc

set_option maxRecDepth 100000 in
set_option maxHeartbeats 8000000 in
theorem acc_plain (own : Nat → Lb) (sb : Nat) (L : Lay) (S : Srv) (q : Ask) (A : Option Addr) (c : Nat) (w : World) (h : SrvAt own w sb L S) (hv : 0 ≤ S.vocab ∧ S.vocab ≤ 1000) (hr : RdV w (.slice A q.prompt.length c) (ints q.prompt)) (hp : q.plain = true) (hlen : withinB q.prompt.length 1 32 = true)
    (hbad : decide (0 ≤ badAt S.vocab q.prompt 0) = false) (hn : S.reqs.length ≤ 12) (hpg : 0 ≤ S.pagesN ∧ S.pagesN ≤ 1000) (hps : 0 ≤ S.pageSize ∧ S.pageSize ≤ 1000) :
    Calls Tryz.prog 32 #[.pointer (some ⟨sb, 0, none⟩), q.val A c] w fun e w' => e = .returned (.int .i64 (accF S q)) ∧ AccGot own sb L S w w' := by
  obtain ⟨h1, h2, h3, h4⟩ := plain_four hp
  have hl2 := withinB_iff hlen
  have hm2 := withinB_iff h3
  obtain ⟨own1, hs1, hr1, x1, hl1⟩ := acc_boxes h q A c hr
  have H1 := Lib.hid h1
  have H2 := Lib.hid h2
  have H3 := Lib.hid h3
  have H4 := Lib.hid h4
  have H5 := Lib.hid hlen
  have H6 := Lib.hid hbad
  have HS1 := Lib.hid hs1
  have HR1 := Lib.hid hr1
  have HX1 := Lib.hid x1
  have HL2 := Lib.hid (And.intro hl2 hm2)
  have HV := Lib.hid hv
  have HN := Lib.hid hn
  have HPG := Lib.hid (And.intro hpg hps)
  have e1 := hs1.blk.cell
  simp only [srvCells] at e1
  clear h1 h2 h3 h4 hlen hbad hs1 hr1 x1 h hr hp hl2 hm2 hv hn hpg hps
  unfold Ask.val
  go_enter Tryz.func32, Tryz.ntmps32
  go_upto_region 8 with (first | (go_at_call 28; refine (within_any _ _ _ _).mono ?_; rintro e w1 ⟨rfl, rfl⟩; first | rw [H1.out] | rw [H2.out] | rw [H3.out] | rw [H5.out]) | (go_at_call 61; refine (isWord_any _ _).mono ?_; rintro e w1 ⟨rfl, rfl⟩; rw [H4.out]) | (go_at_call 62; refine (hasBad_any S.vocab q.prompt A c sb w.heap.size _ HR1.out (by simp [go_sem]) (e1 15) HV.out (by have := HL2.out; omega)).mono ?_; rintro e w1 ⟨rfl, rfl⟩; rw [H6.out]))
  obtain ⟨w1, hw1, hs1, x1, k2, k3⟩ : ∃ w1 : World, (w.alloc (.cells #[.pointer (some ⟨sb, 0, none⟩)] 32)).alloc (.cells #[.int .i64 q.id, .int .i64 q.deadline, .slice A q.prompt.length c, .int .i64 q.most, .int .i64 q.seed] 41) = w1 ∧ SrvAt own1 w1 sb L S ∧ Ext own w own1 w1 Tloc ∧
      w1.cell? ⟨w.heap.size, 0, none⟩ = some (.pointer (some ⟨sb, 0, none⟩)) ∧ (∀ o, w1.cell? ⟨w.heap.size + 1, o, none⟩ = [.int .i64 q.id, .int .i64 q.deadline, .slice A q.prompt.length c, .int .i64 q.most, .int .i64 q.seed][o]?) := by
    refine ⟨_, rfl, HS1.out, HX1.out, by simp [go_sem], fun o => ?_⟩
    have := heap_alloc_new (w.alloc (.cells #[.pointer (some ⟨sb, 0, none⟩)] 32)) (.cells #[.int .i64 q.id, .int .i64 q.deadline, .slice A q.prompt.length c, .int .i64 q.most, .int .i64 q.seed] 41)
    have hsz : (w.alloc (.cells #[.pointer (some ⟨sb, 0, none⟩)] 32)).heap.size = w.heap.size + 1 := by simp [go_sem]
    rw [hsz] at this
    exact Blk.cell (l := [.int .i64 q.id, .int .i64 q.deadline, .slice A q.prompt.length c, .int .i64 q.most, .int .i64 q.seed]) this o
  rw [hw1]
  clear hw1 HS1 HR1 HX1 e1
  have e1 := hs1.blk.cell
  simp only [srvCells] at e1
  have HS1 := Lib.hid hs1
  have X1 := Lib.hid x1
  clear hs1 x1
  generalize w.heap.size = bx at k2 k3 hl1 ⊢
  generalize hoid : S.get q.id = og
  have HG := Lib.hid hoid
  clear hoid
  go_still_tail 6, (by kernel_rfl)
  cases og with
  | some r =>
    have HE := Lib.hid (show accF S q = 6 by unfold accF; rw [HG.out]; rfl)
    go_wp2_with (at_lookup; refine wl_lookup (HS1.out.drewN 1) rfl _ _ rfl rfl q.id rfl ?_; rw [HG.out]; unfold ptrOf)
    go_ret
    exact ⟨ret_int (by rw [HE.out]), own1, HS1.out.drewN _, X1.out.drewN _⟩
  | none =>
    by_cases hd : q.deadline ≤ S.now
    · have HE := Lib.hid (show accF S q = 18 by unfold accF; rw [HG.out, if_neg (by simp), if_pos hd])
      go_wp2_with (at_lookup; refine wl_lookup (HS1.out.drewN 1) rfl _ _ rfl rfl q.id rfl ?_; rw [HG.out]; unfold ptrOf)
      go_quiet (fail)
      go_wp2
      go_ret
      exact ⟨ret_int (by rw [HE.out]), own1, (HS1.out.drewN _).drewN _, (X1.out.drewN _).drewN _⟩
    · have hd' : decide (q.deadline ≤ S.now) = false := decide_eq_false hd
      have HD := Lib.hid hd
      go_upto_region 10 with (at_lookup; refine wl_lookup (HS1.out.drewN 1) rfl _ _ rfl rfl q.id rfl ?_; rw [HG.out]; unfold ptrOf)
      go_quiet (fail)
      have hw1 : IntKind.i64.wrap ((q.prompt.length : Int) + q.most) = (q.prompt.length : Int) + q.most := IntWalk.i64_in _ (by have := HL2.out; omega)
      have hmul : 0 ≤ S.pagesN * S.pageSize ∧ S.pagesN * S.pageSize ≤ 1000 * 1000 := ⟨Int.mul_nonneg HPG.out.1.1 HPG.out.2.1, Int.mul_le_mul HPG.out.1.2 HPG.out.2.2 HPG.out.2.1 (by omega)⟩
      have hw2 : IntKind.i64.wrap (S.pagesN * S.pageSize) = S.pagesN * S.pageSize := IntWalk.i64_in _ (by omega)
      clear hmul
      by_cases hb : S.pagesN * S.pageSize < (q.prompt.length : Int) + q.most
      · have HE := Lib.hid (show accF S q = 2 by unfold accF; rw [HG.out, if_neg (by simp), if_neg HD.out, if_pos hb])
        clear hd
        go_upto_region 12 with (fail)
        go_quiet (fail)
        go_wp2
        go_ret
        exact ⟨ret_int (by rw [HE.out]), own1, HS1.out.drewN _, X1.out.drewN _⟩
      · have hb' : decide (S.pagesN * S.pageSize < (q.prompt.length : Int) + q.most) = false := decide_eq_false hb
        have HB := Lib.hid hb
        go_upto_region 12 with (fail)
        go_quiet (fail)
        clear hb hb' hw1 hw2 hd hd'
        go_upto_region 14 with (fail)
        have HK2 := Lib.hid k2
        have HL1 := Lib.hid hl1
        have HOP := Lib.hid (fun W hW => open_len own1 sb L S W hW HN.out)
        clear hl1 k3
        by_cases hq : S.queue ≤ ((S.reqs.filter fun r => !r.ended).length : Int)
        · have HE := Lib.hid (show accF S q = 16 by unfold accF; rw [HG.out, if_neg (by simp), if_neg HD.out, if_neg HB.out, if_pos (.inl hq)])
          generalize (S.reqs.filter fun r => !r.ended).length = no at hq HOP
          go_region_with (first | (go_at_call 35; refine (HOP.out _ ((HS1.out.drewN _).drewN 1)).mono ?_; rintro e w4 ⟨A4, c4, own4, rfl, HY⟩; have k5 := HY.out.2.cell (HK2.out) (by rw [HL1.out]; intro f; cases f); have e5 := HY.out.1.blk.cell; simp only [srvCells] at e5; have HF4 := Lib.hid (full_any own4 sb L S w4 HY.out.1)))
          all_goals
            go_wp2
            go_ret
            exact ⟨ret_int (by rw [HE.out]), own4, HY.out.1, ((X1.out.drewN _).drewN 1).trans HY.out.2⟩
        · have hq' : decide (S.queue ≤ ((S.reqs.filter fun r => !r.ended).length : Int)) = false := decide_eq_false hq
          by_cases hf : 20000 ≤ S.records
          · have HE := Lib.hid (show accF S q = 16 by unfold accF; rw [HG.out, if_neg (by simp), if_neg HD.out, if_neg HB.out, if_pos (.inr hf)])
            generalize (S.reqs.filter fun r => !r.ended).length = no at hq hq' HOP
            go_region_with (first | (go_at_call 35; refine (HOP.out _ ((HS1.out.drewN _).drewN 1)).mono ?_; rintro e w4 ⟨A4, c4, own4, rfl, HY⟩; have k5 := HY.out.2.cell (HK2.out) (by rw [HL1.out]; intro f; cases f); have e5 := HY.out.1.blk.cell; simp only [srvCells] at e5; have HF4 := Lib.hid (full_any own4 sb L S w4 HY.out.1)) | (go_at_call 34; refine HF4.out.mono ?_; rintro e w5 ⟨rfl, rfl⟩))
            all_goals
              go_wp2
              go_ret
              exact ⟨ret_int (by rw [HE.out]), own4, HY.out.1, ((X1.out.drewN _).drewN 1).trans HY.out.2⟩
          · have hf' : decide (20000 ≤ S.records) = false := decide_eq_false hf
            have HE := Lib.hid (show accF S q = 0 by unfold accF; rw [HG.out, if_neg (by simp), if_neg HD.out, if_neg HB.out, if_neg (by rintro (h | h); exact hq h; exact hf h)])
            generalize (S.reqs.filter fun r => !r.ended).length = no at hq hq' HOP
            go_region_with (first | (go_at_call 35; refine (HOP.out _ ((HS1.out.drewN _).drewN 1)).mono ?_; rintro e w4 ⟨A4, c4, own4, rfl, HY⟩; have k5 := HY.out.2.cell (HK2.out) (by rw [HL1.out]; intro f; cases f); have e5 := HY.out.1.blk.cell; simp only [srvCells] at e5; have HF4 := Lib.hid (full_any own4 sb L S w4 HY.out.1)) | (go_at_call 34; refine HF4.out.mono ?_; rintro e w5 ⟨rfl, rfl⟩))
            all_goals
              go_wp2
              go_ret
              exact ⟨ret_int (by rw [HE.out]), own4, HY.out.1, ((X1.out.drewN _).drewN 1).trans HY.out.2⟩
end Go.Proofs.YtllpoaoboieijaaGreat
/-
  acceptable: a prompt that is none.
-/
namespace Go.Proofs.YtllpoaoboieijaaGreat
open Go.RowKit

theorem plain_four' {q : Ask} (h : q.plain = true) : withinB q.id 1 1000000 = true ∧ withinB q.deadline 0 1000000 = true ∧ withinB q.most 1 32 = true ∧ withinB q.seed (-2147483648) 2147483647 = true := by
  unfold Ask.plain at h
  simp only [Bool.and_eq_true] at h
  exact ⟨h.1.1.1, h.1.1.2, h.1.2, h.2⟩

set_option maxRecDepth 100000 in
set_option maxHeartbeats 1600000 in
theorem acc_len (own : Nat → Lb) (sb : Nat) (L : Lay) (S : Srv) (q : Ask) (A : Option Addr) (c : Nat) (w : World) (_h : SrvAt own w sb L S) (hp : q.plain = true) (hlen : withinB q.prompt.length 1 32 = false) :
    Calls Tryz.prog 32 #[.pointer (some ⟨sb, 0, none⟩), q.val A c] w fun e w' => e = .returned (.int .i64 3) ∧ Below w.heap.size w w' := by
  obtain ⟨h1, h2, h3, h4⟩ := plain_four' hp
  have HBEL := Lib.hid (show Below w.heap.size w ((w.alloc (.cells #[.pointer (some ⟨sb, 0, none⟩)] 32)).alloc (.cells #[.int .i64 q.id, .int .i64 q.deadline, .slice A q.prompt.length c, .int .i64 q.most, .int .i64 q.seed] 41)) from ((Below.refl _ _).alloc (Nat.le_refl _) _).alloc (alloc_le _ _) _)
  have H1 := Lib.hid h1
  have H2 := Lib.hid h2
  have H3 := Lib.hid h3
  have H4 := Lib.hid h4
  have H5 := Lib.hid hlen
  clear h1 h2 h3 h4 hlen _h hp
  unfold Ask.val
  go_enter Tryz.func32, Tryz.ntmps32
  go_wp2_with (first | (go_at_call 28; refine (within_any _ _ _ _).mono ?_; rintro e w1 ⟨rfl, rfl⟩; first | rw [H1.out] | rw [H2.out] | rw [H3.out] | rw [H5.out]) | (go_at_call 61; refine (isWord_any _ _).mono ?_; rintro e w1 ⟨rfl, rfl⟩; rw [H4.out]))
  go_ret
  exact ⟨rfl, HBEL.out⟩

set_option maxRecDepth 100000 in
set_option maxHeartbeats 1600000 in
theorem acc_tok (own : Nat → Lb) (sb : Nat) (L : Lay) (S : Srv) (q : Ask) (A : Option Addr) (c : Nat) (w : World) (h : SrvAt own w sb L S) (hv : 0 ≤ S.vocab ∧ S.vocab ≤ 1000) (hr : RdV w (.slice A q.prompt.length c) (ints q.prompt)) (hp : q.plain = true) (hlen : withinB q.prompt.length 1 32 = true)
    (hbad : decide (0 ≤ badAt S.vocab q.prompt 0) = true) :
    Calls Tryz.prog 32 #[.pointer (some ⟨sb, 0, none⟩), q.val A c] w fun e w' => e = .returned (.int .i64 9) ∧ Below w.heap.size w w' := by
  obtain ⟨h1, h2, h3, h4⟩ := plain_four' hp
  have hl2 : (1 : Int) ≤ q.prompt.length ∧ (q.prompt.length : Int) ≤ 32 := by unfold withinB at hlen; simpa using hlen
  have hbel : Below w.heap.size w ((w.alloc (.cells #[.pointer (some ⟨sb, 0, none⟩)] 32)).alloc (.cells #[.int .i64 q.id, .int .i64 q.deadline, .slice A q.prompt.length c, .int .i64 q.most, .int .i64 q.seed] 41)) := ((Below.refl _ _).alloc (Nat.le_refl _) _).alloc (alloc_le _ _) _
  have hs1 := h.below hbel
  have hr1 := hr.below hbel
  have e1 := hs1.blk.cell
  simp only [srvCells] at e1
  have HBEL := Lib.hid hbel
  have HR1 := Lib.hid hr1
  have HV := Lib.hid hv
  have HL2 := Lib.hid hl2
  have H1 := Lib.hid h1
  have H2 := Lib.hid h2
  have H3 := Lib.hid h3
  have H4 := Lib.hid h4
  have H5 := Lib.hid hlen
  have H6 := Lib.hid hbad
  clear h1 h2 h3 h4 hlen h hp hbel hs1 hr1 hr hv hl2 hbad
  unfold Ask.val
  go_enter Tryz.func32, Tryz.ntmps32
  go_wp2_with (first | (go_at_call 28; refine (within_any _ _ _ _).mono ?_; rintro e w1 ⟨rfl, rfl⟩; first | rw [H1.out] | rw [H2.out] | rw [H3.out] | rw [H5.out]) | (go_at_call 61; refine (isWord_any _ _).mono ?_; rintro e w1 ⟨rfl, rfl⟩; rw [H4.out]) | (go_at_call 62; refine (hasBad_any S.vocab q.prompt A c sb w.heap.size _ HR1.out (by simp [go_sem]) (e1 15) HV.out (by have := HL2.out; omega)).mono ?_; rintro e w1 ⟨rfl, rfl⟩; rw [H6.out]))
  go_ret
  exact ⟨rfl, HBEL.out⟩
end Go.Proofs.YtllpoaoboieijaaGreat
/-
  acceptable, whole.
-/
namespace Go.Proofs.YtllpoaoboieijaaGreat
open Go.RowKit

/-- The error of a request. -/
def accAll (S : Srv) (q : Ask) : Int :=
  if q.plain = false then 9
  else if withinB q.prompt.length 1 32 = false then 3
  else if decide (0 ≤ badAt S.vocab q.prompt 0) = true then 9
  else accF S q
theorem acc_any (own : Nat → Lb) (sb : Nat) (L : Lay) (S : Srv) (q : Ask) (A : Option Addr) (c : Nat) (w : World) (h : SrvAt own w sb L S) (hv : 0 ≤ S.vocab ∧ S.vocab ≤ 1000) (hr : RdV w (.slice A q.prompt.length c) (ints q.prompt))
    (hn : S.reqs.length ≤ 12) (hpg : 0 ≤ S.pagesN ∧ S.pagesN ≤ 1000) (hps : 0 ≤ S.pageSize ∧ S.pageSize ≤ 1000) :
    Calls Tryz.prog 32 #[.pointer (some ⟨sb, 0, none⟩), q.val A c] w fun e w' => e = .returned (.int .i64 (accAll S q)) ∧ ∃ own', SrvAt own' w' sb L S ∧ Ext own w own' w' Tloc := by
  have go : ∀ (v : Int), (Calls Tryz.prog 32 #[.pointer (some ⟨sb, 0, none⟩), q.val A c] w fun e w' => e = .returned (.int .i64 v) ∧ Below w.heap.size w w') →
      Calls Tryz.prog 32 #[.pointer (some ⟨sb, 0, none⟩), q.val A c] w fun e w' => e = .returned (.int .i64 v) ∧ ∃ own', SrvAt own' w' sb L S ∧ Ext own w own' w' Tloc := fun v hc => by
    refine hc.mono ?_
    rintro e w1 ⟨rfl, hb⟩
    exact ⟨rfl, _, h.below hb, Ext.below hb _ _⟩
  unfold accAll
  split
  · rename_i e1
    exact go _ (acc_unplain own sb L S q A c w h e1)
  · rename_i e1
    have p1 : q.plain = true := by simpa using e1
    split
    · rename_i e2
      exact go _ (acc_len own sb L S q A c w h p1 e2)
    · rename_i e2
      have p2 : withinB q.prompt.length 1 32 = true := by simpa using e2
      split
      · rename_i e3
        exact go _ (acc_tok own sb L S q A c w h hv hr p1 p2 e3)
      · rename_i e3
        have p3 : decide (0 ≤ badAt S.vocab q.prompt 0) = false := by simpa using e3
        exact acc_plain own sb L S q A c w h hv hr p1 p2 p3 hn hpg hps
end Go.Proofs.YtllpoaoboieijaaGreat
/-
  settle.
-/
namespace Go.Proofs.YtllpoaoboieijaaGreat
open Go.RowKit

set_option maxRecDepth 100000 in
set_option maxHeartbeats 800000 in
theorem settle_any (own : Nat → Lb) (sb : Nat) (L : Lay) (S : Srv) (w : World) (h : SrvAt own w sb L S) :
    Calls Tryz.prog 38 #[.pointer (some ⟨sb, 0, none⟩)] w fun e w' => e = .returned (.tuple #[]) ∧ Goes own sb L Tin S.settle w w' := by
  have c2 := h.blk.cell
  simp only [srvCells] at c2
  have H := Lib.hid h
  clear h
  go_enter Tryz.func38, Tryz.ntmps38
  go_wp2_with (at_range; refine wl_range H.out rfl _ rfl rfl ?_; intro hit0)
  have h0 := H.out.free (Ext.alloc (own := own) (w := w) (.mapIter (some L.mb) L.clock #[] L.clock) (fun _ => False) .loc) (fun _ f => f.elim)
  have x0 := Ext.alloc (own := own) (w := w) (.mapIter (some L.mb) L.clock #[] L.clock) Tin .loc
  have hl0 : relab own w.heap.size .loc w.heap.size = .loc := relab_new _ (Nat.le_refl _)
  generalize hown0 : relab own w.heap.size .loc = own0 at h0 x0 hl0
  generalize hit : w.heap.size = it at *
  have H0 := Lib.hid h0
  have X0 := Lib.hid x0
  have HL0 := Lib.hid hl0
  have HI0 := Lib.hid hit0
  clear h0 x0 hl0 hit0 c2 hown0 hit
  go_frame
  go_loopg [] ((S.reqs.map Req.id).length + 1) (fun gk wx => ∃ L1 left, SrvAt own0 wx sb L1 (S.settleBut left) ∧ IterAt wx it L1 (S.settleBut left) left ∧ L1.rb = L.rb ∧ Ext own w own0 wx Tin ∧ gk = left.length + 1 ∧ (∀ i, i ∈ left → i ∈ S.reqs.map Req.id))
  case atStart => exact ⟨L, S.reqs.map Req.id, by rw [settleBut_all]; exact H0.out, by rw [settleBut_all]; exact HI0.out, rfl, X0.out, rfl, fun _ h => h⟩
  case round =>
    obtain ⟨L1, left, h1, hi1, hrb1, x1, rfl, hsub⟩ := hrel
    have H1 := Lib.hid h1
    have HI1 := Lib.hid hi1
    have HRB1 := Lib.hid hrb1
    have X1 := Lib.hid x1
    have HSUB := Lib.hid hsub
    clear h1 hi1 hrb1 x1 hsub
    go_wp2_with (at_next; refine wl_next H1.out HI1.out HL0.out rfl _ rfl rfl ?_ ?_)
    · intro hl
      subst hl
      have HE := Lib.hid (settleBut_nil S)
      go_wp2
      go_end0
      rw [← HE.out]
      exact ⟨rfl, own0, L1, H1.out, HRB1.out, X1.out⟩
    · intro id w2 hid hen h2 hi2 x2 hb2
      obtain ⟨r, hr, rfl⟩ := List.mem_map.1 (HSUB.out id hid)
      have hst := settleBut_step H.out.uniq hr hid
      have hq := h2.req r hst.1
      have d1 := hq.blk.cell
      have f1 := hq.blk.frozen
      have d2 := h2.blk.cell
      have hl := hq.lab
      simp only [reqCells] at d1
      simp only [srvCells] at d2
      obtain ⟨LA, lc, hlv, -, -⟩ := h2.log.shape
      rw [hlv] at d2
      have hlen : (S.settleBut left).log.length = S.log.length := rfl
      rw [hlen] at d2
      have hlt : (left.filter fun i => !decide (i = r.id)).length < left.length := by
        have h1 : (left.filter fun i => !decide (i = r.id)).length ≤ left.length := List.length_filter_le _ _
        rcases Nat.lt_or_ge (left.filter fun i => !decide (i = r.id)).length left.length with h2 | h2
        · exact h2
        · have h3 : left.filter (fun i => !decide (i = r.id)) = left := List.filter_eq_self.2 (by
            have := List.length_filter_eq_length_iff.1 (Nat.le_antisymm h1 h2); exact this)
          have := (List.filter_eq_self.1 h3) r.id hid
          simp at this
      have hitb : it ≠ L1.rb r.id := fun e => by rw [← e, HL0.out] at hl; cases hl
      have HST := Lib.hid hst
      have HLT := Lib.hid hlt
      have H2 := Lib.hid h2
      have HI2 := Lib.hid hi2
      have X2 := Lib.hid x2
      have HQ := Lib.hid hq
      have HLAB := Lib.hid hl
      have HB2 := Lib.hid hb2
      have HITB := Lib.hid hitb
      have xx := X1.out.trans (X2.out.mono (fun l e => by rw [e]; intro f; cases f))
      have XX := Lib.hid xx
      clear hst hlt h2 hi2 x2 hq hl hlv hlen hb2 hitb xx
      by_cases hk : r.kept < 0
      · have hsr : settled S.log.length r = { r with kept := (S.log.length : Int) } := by unfold settled; rw [if_pos hk]
        have HSR := Lib.hid hsr
        clear hsr
        go_wp2
        have x3 : Ext own0 w2 own0 (w2.setCell ⟨L1.rb r.id, 11, none⟩ (.int .i64 S.log.length)) (fun l => l = .req r.id) := Ext.setCell _ _ HLAB.out
        have hf := H2.out.req_set HST.out.1 { r with kept := (S.log.length : Int) } rfl x3 _ _ _ (HQ.out.blk.set 11 _) (HQ.out.prm.ext x3 (by simp)) (HQ.out.tok.ext x3 (by simp)) (HQ.out.hold.ext x3 (by simp))
        rw [← HSR.out, HST.out.2] at hf
        go_roundg ((left.filter fun i => !decide (i = r.id)).length + 1)
        case measure => have := HLT.out; omega
        case rel =>
          refine ⟨_, _, hf, HI2.out.keep ?_ rfl rfl rfl (by rw [settleBut_ids, settleBut_ids]), HRB1.out, XX.out.trans (x3.mono (Tin_req _)), rfl, fun i hi => HSUB.out i (List.mem_filter.1 hi).1⟩
          exact Below.heap_setCell _ _ _ _ HITB.out
      · have hsr : settled S.log.length r = r := by unfold settled; rw [if_neg hk]
        have HSR := Lib.hid hsr
        have hk' : 0 ≤ r.kept := by omega
        clear hsr hk
        go_wp2
        have hf : (S.settleBut left) = S.settleBut (left.filter fun i => !decide (i = r.id)) := by
          have := HST.out.2
          rw [HSR.out, put_self H2.out.uniq HST.out.1] at this
          exact this
        go_roundg ((left.filter fun i => !decide (i = r.id)).length + 1)
        case measure => have := HLT.out; omega
        case rel =>
          exact ⟨L1, _, by rw [← hf]; exact H2.out, by rw [← hf]; exact HI2.out, HRB1.out, XX.out, rfl, fun i hi => HSUB.out i (List.mem_filter.1 hi).1⟩
end Go.Proofs.YtllpoaoboieijaaGreat
