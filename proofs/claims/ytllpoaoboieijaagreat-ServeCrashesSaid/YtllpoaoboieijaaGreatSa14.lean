/-
  Answer of one that ended well.
  acceptable: the small ones.
-/
import Derived.Test.YtllpoaoboieijaaGreatSa13
/-
  Answer of one that ended well.
-/
namespace Go.Proofs.YtllpoaoboieijaaGreat
open Go.RowKit

theorem clone_any' (xs : List Int) (b o n c : Nat) (w : World) (h : RdV w (.slice (some ⟨b, o, none⟩) n c) (ints xs)) (hn : n = xs.length) (h0 : 0 < xs.length) (h1 : xs.length ≤ 1000) :
    Calls Tryz.prog 29 #[.slice (some ⟨b, o, none⟩) n c] w fun e w' => NewInts w w' e xs := by
  subst hn; exact clone_any xs b o c w h h0 h1

set_option maxRecDepth 100000 in
set_option maxHeartbeats 800000 in
theorem answer_ok (own : Nat → Lb) (sb : Nat) (L : Lay) (S : Srv) (r : Req) (w : World) (h : SrvAt own w sb L S) (hg : S.get r.id = some r) (ht : (r.ended && (S.replay || decide (r.kept ≤ S.synced))) = true) (he : r.err = 0)
    (hl : r.prompt.length < r.tokens.length) (hm : r.tokens.length ≤ 64) :
    Calls Tryz.prog 17 #[.pointer (some ⟨sb, 0, none⟩), .int .i64 r.id] w fun e w' => ∃ v, e = .returned (.tuple #[v, .int .i64 0, .bool true]) ∧ Below w.heap.size w w' ∧ w'.ownsRow w.heap.size 3 1 v (r.tokens.drop r.prompt.length).length (ints (r.tokens.drop r.prompt.length)) := by
  have c2 := h.blk.cell
  simp only [srvCells] at c2
  have hq := h.req r (get_mem hg).1
  obtain ⟨g, c, rest, hv, hb, -, hc1, hc2, -⟩ := hq.tok.blk (by omega)
  obtain ⟨PA, pc, hpv, -, -⟩ := hq.prm.shape
  have d2 := hq.blk.cell
  simp only [reqCells] at d2
  rw [hv, hpv, he] at d2
  have H := Lib.hid h
  have HG := Lib.hid hg
  have HTD := Lib.hid (told_any own sb L S r w h (get_mem hg).1)
  rw [ht] at HTD
  have hsub : ∀ k, RdV ((w.drewN k)) (.slice (some ⟨g, r.prompt.length, none⟩) (r.tokens.length - r.prompt.length) (c - r.prompt.length)) (ints (r.tokens.drop r.prompt.length)) := fun k => by
    have hln : (ints (r.tokens.drop r.prompt.length)).length = r.tokens.length - r.prompt.length := by simp [ints]
    refine ⟨_, c - r.prompt.length, by rw [hln], by rw [hln]; omega, by omega, fun _ => ⟨g, r.prompt.length, rfl, fun i hi => ?_⟩⟩
    rw [hln] at hi
    show w.cell? _ = _
    rw [hb.cell, List.getElem?_append_left (by simp [ints]; omega)]
    simp [ints]
  have HSUB := Lib.hid hsub
  have hd2 : ∀ w1, (∃ k, w1 = w.drewN k) → ∀ o, w1.cell? ⟨L.rb r.id, o, none⟩ = w.cell? ⟨L.rb r.id, o, none⟩ := fun w1 h1 o => by
    obtain ⟨k, rfl⟩ := h1
    rfl
  have HD2 := Lib.hid hd2
  clear hd2
  have HL := Lib.hid (And.intro hl hm)
  have t1 : ¬ c = r.prompt.length := by omega
  have t2 : (r.prompt.length : Int) ≤ r.tokens.length := by omega
  have t3 : ((r.prompt.length : Int)).toNat = r.prompt.length := by omega
  have t4 : r.prompt.length ≤ r.tokens.length := by omega
  clear h hg ht hq hv hb hc1 hc2 hpv hsub hl hm he
  go_enter Tryz.func17, Tryz.ntmps17
  go_wp2_with (first | (at_lookup; refine wl_lookup H.out rfl _ _ rfl rfl r.id rfl ?_; rw [HG.out]; unfold ptrOf) | (go_at_call 39; refine HTD.out.mono ?_; rintro e w1 ⟨rfl, hk⟩; have HK := Lib.hid hk; have d3 := fun o => (HD2.out w1 hk o).trans (d2 o); clear hk))
  refine wp_region_still_tail 11 (by kernel_rfl) (by kernel_rfl) ?_
  simp only [List.take_succ_cons, List.take_zero, List.drop_succ_cons, List.drop_zero]
  repeat still_step
  refine wpStill_nil ?_
  have hcl : Calls Tryz.prog 29 #[.slice (some ⟨g, r.prompt.length, none⟩) (r.tokens.length - r.prompt.length) (c - r.prompt.length)] w1.drew fun e w' => NewInts w1.drew w' e (r.tokens.drop r.prompt.length) := by
    obtain ⟨k, rfl⟩ := HK.out
    exact clone_any' _ _ _ _ _ _ (HSUB.out k) (by simp) (by have := HL.out; simp; omega) (by have := HL.out; simp; omega)
  have HCL := Lib.hid hcl
  clear hcl d2 d3 c2
  go_wp2_with (go_at_call 29; refine HCL.out.mono ?_; rintro e w2 ⟨v, rfl, hb, ho⟩; have HB := Lib.hid hb; have HO := Lib.hid ho; clear hb ho)
  go_ret3
  obtain ⟨k, rfl⟩ := HK.out
  have hb : Below w.heap.size w w2 := ⟨HB.out.os, HB.out.tape, HB.out.output, HB.out.size, HB.out.block⟩
  exact ⟨_, rfl, hb, HO.out⟩
end Go.Proofs.YtllpoaoboieijaaGreat
/-
  acceptable: the small ones.
-/
namespace Go.Proofs.YtllpoaoboieijaaGreat
open Go.RowKit

def withinB (x lo hi : Int) : Bool := decide (lo ≤ x) && decide (x ≤ hi)
set_option maxRecDepth 100000 in
set_option maxHeartbeats 400000 in
theorem within_any (x lo hi : Int) (w : World) : Calls Tryz.prog 28 #[.int .i64 x, .int .i64 lo, .int .i64 hi] w fun e w' => e = .returned (.bool (withinB x lo hi)) ∧ w' = w := by
  by_cases h : lo ≤ x
  · have HE := Lib.hid (show withinB x lo hi = decide (x ≤ hi) by unfold withinB; simp [h])
    go_enter Tryz.func28, Tryz.ntmps28
    go_wp2
    go_ret
    exact ⟨ret_bool (by rw [HE.out]), rfl⟩
  · have HE := Lib.hid (show withinB x lo hi = false by unfold withinB; simp; omega)
    have t : decide (lo ≤ x) = false := decide_eq_false h
    go_enter Tryz.func28, Tryz.ntmps28
    go_wp2
    go_ret
    exact ⟨ret_bool (by rw [HE.out]), rfl⟩

set_option maxRecDepth 100000 in
set_option maxHeartbeats 400000 in
theorem isWord_any (x : Int) (w : World) : Calls Tryz.prog 61 #[.int .i64 x] w fun e w' => e = .returned (.bool (withinB x (-2147483648) 2147483647)) ∧ w' = w := by
  go_enter Tryz.func61, Tryz.ntmps61
  go_wp2_with (go_at_call 28; refine (within_any x _ _ _).mono ?_; rintro e w1 ⟨rfl, rfl⟩)
  go_ret
  exact ⟨rfl, rfl⟩

set_option maxRecDepth 100000 in
set_option maxHeartbeats 400000 in
theorem notTok_any (v t : Int) (sb cb : Nat) (w : World) (hc : w.cell? ⟨cb, 0, none⟩ = some (.pointer (some ⟨sb, 0, none⟩))) (hv : w.cell? ⟨sb, 15, none⟩ = some (.int .i64 v)) (hb : 0 ≤ v ∧ v ≤ 1000) :
    Calls Tryz.prog 63 #[.int .i64 t, .pointer (some ⟨cb, 0, none⟩)] w fun e w' => e = .returned (.bool (!withinB t 0 (v - 1))) ∧ w' = w := by
  have hw : IntKind.i64.wrap (v - 1) = v - 1 := IntWalk.i64_in _ (by omega)
  go_enter Tryz.func63, Tryz.ntmps63
  go_wp2_with (go_at_call 28; refine (within_any t 0 (v - 1) _).mono ?_; rintro e w1 ⟨rfl, rfl⟩)
  go_ret
  exact ⟨rfl, rfl⟩

/-- Where the first token stands that is none. -/
def badAt (v : Int) : List Int → Int → Int
  | [], _ => -1
  | t :: l, i => if withinB t 0 (v - 1) = true then badAt v l (i + 1) else i
set_option maxRecDepth 100000 in
set_option maxHeartbeats 400000 in
theorem idxFunc_any (v : Int) (l : List Int) (A : Option Addr) (c sb cb : Nat) (w : World) (hr : RdV w (.slice A l.length c) (ints l)) (hc : w.cell? ⟨cb, 0, none⟩ = some (.pointer (some ⟨sb, 0, none⟩))) (hv : w.cell? ⟨sb, 15, none⟩ = some (.int .i64 v)) (hb : 0 ≤ v ∧ v ≤ 1000) (hl : l.length ≤ 1000) :
    Calls Tryz.prog 87 #[.slice A l.length c, .func (.func 63) #[] #[.pointer (some ⟨cb, 0, none⟩)]] w fun e w' => e = .returned (.int .i64 (badAt v l 0)) ∧ w' = w := by
  have HT := Lib.hid (fun t => notTok_any v t sb cb w hc hv hb)
  have H := Lib.hid hr
  clear hc hv hb hr
  go_enter Tryz.func87, Tryz.ntmps87
  go_wp2
  go_loopg [8] l.length (fun gk s8 wx => ∃ i : Nat, s8 = .int .i64 i ∧ i ≤ l.length ∧ badAt v (l.drop i) i = badAt v l 0 ∧ wx = w ∧ gk = l.length - i)
  case atStart => exact ⟨0, rfl, Nat.zero_le _, rfl, rfl, rfl⟩
  case round =>
    obtain ⟨i, rfl, hil, hbad, rfl, rfl⟩ := hrel
    have HB := Lib.hid hbad
    clear hbad
    by_cases hlt : i < l.length
    · obtain ⟨b, o, c', hv, hcell⟩ := H.out.get (i := i) (by simpa [ints] using hlt)
      have hA : A = some ⟨b, o, none⟩ := by injection hv
      subst hA
      have hcell2 : wr.cell? ⟨b, o + i, none⟩ = some (.int .i64 l[i]) := by rw [hcell]; simp [ints]
      have HD := Lib.hid (List.drop_eq_getElem_cons hlt)
      clear hv hcell
      generalize hli : l[i] = t at hcell2 HD
      clear hli
      by_cases hw : withinB t 0 (v - 1) = true
      · have HW := Lib.hid hw
        go_wp2_with (go_at_call 63; refine (HT.out t).mono ?_; rintro e w1 ⟨rfl, rfl⟩; rw [HW.out])
        go_roundg (l.length - (i + 1))
        case measure => omega
        case rel => exact ⟨i + 1, by go_num, by omega, by rw [← HB.out, HD.out, badAt, if_pos HW.out]; rfl, rfl, rfl⟩
      · have HW := Lib.hid hw
        have hw' : withinB t 0 (v - 1) = false := by simpa using hw
        have HW' := Lib.hid hw'
        clear hw hw'
        go_wp2_with (go_at_call 63; refine (HT.out t).mono ?_; rintro e w1 ⟨rfl, rfl⟩; rw [HW'.out])
        go_ret
        exact ⟨ret_int (by rw [← HB.out, HD.out, badAt, if_neg HW.out]), rfl⟩
    · go_wp2
      go_ret
      exact ⟨ret_int (by rw [← HB.out, List.drop_eq_nil_of_le (by omega)]; rfl), rfl⟩

set_option maxRecDepth 100000 in
set_option maxHeartbeats 400000 in
theorem hasBad_any (v : Int) (l : List Int) (A : Option Addr) (c sb cb : Nat) (w : World) (hr : RdV w (.slice A l.length c) (ints l)) (hc : w.cell? ⟨cb, 0, none⟩ = some (.pointer (some ⟨sb, 0, none⟩))) (hv : w.cell? ⟨sb, 15, none⟩ = some (.int .i64 v)) (hb : 0 ≤ v ∧ v ≤ 1000) (hl : l.length ≤ 1000) :
    Calls Tryz.prog 62 #[.slice A l.length c, .func (.func 63) #[] #[.pointer (some ⟨cb, 0, none⟩)]] w fun e w' => e = .returned (.bool (decide (0 ≤ badAt v l 0))) ∧ w' = w := by
  have HI := Lib.hid (idxFunc_any v l A c sb cb w hr hc hv hb hl)
  clear hr hc hv hb hl
  go_enter Tryz.func62, Tryz.ntmps62
  go_wp2_with (go_at_call 87; refine HI.out.mono ?_; rintro e w1 ⟨rfl, rfl⟩)
  go_ret
  exact ⟨rfl, rfl⟩
end Go.Proofs.YtllpoaoboieijaaGreat
