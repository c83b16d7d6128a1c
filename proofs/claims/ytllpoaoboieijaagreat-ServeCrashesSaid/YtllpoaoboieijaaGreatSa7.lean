/-
  Ranging over the requests; settle.
  The order of requests: cmp.Compare, cmp.Or, the comparison of 'open'; bits.Len of small numbers.
  The sort of at most twelve requests.
-/
import Derived.BigRegion
import Derived.Maps.RangeRun
import Derived.Test.YtllpoaoboieijaaGreatSa6
/-
  Ranging over the requests; settle.
-/
namespace Go.Proofs.YtllpoaoboieijaaGreat
open Go.RowKit
open Go.ChangeMaps (setBlock)

theorem SrvAt.free {own own' : Nat → Lb} {w w' : World} {sb : Nat} {L : Lay} {S : Srv} {T : Lb → Prop} (h : SrvAt own w sb L S) (x : Ext own w own' w' T) (hT : ∀ l, T l → l = .other ∨ l = .loc) : SrvAt own' w' sb L S := by
  have n : ∀ l, (∀ _ : l = .other, False) → (∀ _ : l = .loc, False) → ¬ T l := fun l a b t => by
    rcases hT l t with e | e
    · exact a e
    · exact b e
  refine ⟨h.blk.ext x (by rw [h.lab]; exact n _ (by intro e; cases e) (by intro e; cases e)), by rw [x.lab _ h.blk.lt]; exact h.lab, h.mdl.ext x (n _ (by intro e; cases e) (by intro e; cases e)), ?_, by rw [x.lab _ (lt_of_heap h.mmap)]; exact h.mlab,
    h.pgs.ext x (by rw [h.plab]; exact n _ (by intro e; cases e) (by intro e; cases e)), by rw [x.lab _ h.pgs.lt]; exact h.plab, fun k p hp => (h.ptok k p hp).ext x (n _ (by intro e; cases e) (by intro e; cases e)),
    h.log.ext x (n _ (by intro e; cases e) (by intro e; cases e)), fun r hr => ?_, h.uniq, h.bnd, h.blt⟩
  · rw [x.keep _ (lt_of_heap h.mmap) (by rw [h.mlab]; exact n _ (by intro e; cases e) (by intro e; cases e))]; exact h.mmap
  · exact (h.req r hr).ext x (n _ (by intro e; cases e) (by intro e; cases e)) (n _ (by intro e; cases e) (by intro e; cases e)) (n _ (by intro e; cases e) (by intro e; cases e)) (n _ (by intro e; cases e) (by intro e; cases e))

/-- A range over the requests under way: 'left' are those still to come. -/
def IterAt (w : World) (it : Nat) (L : Lay) (S : Srv) (left : List Int) : Prop :=
  ∃ (seen : Array Nat) (c0 since : Nat), w.heap[it]? = some (.mapIter (some L.mb) since seen c0) ∧ since ≤ c0 ∧ since ≤ L.clock ∧ (∀ i, i ∈ S.reqs.map Req.id → L.born i < since) ∧ left = (S.reqs.map Req.id).filter fun i => !seen.contains (L.born i)

theorem range_run {own : Nat → Lb} {w : World} {sb : Nat} {L : Lay} {S : Srv} (h : SrvAt own w sb L S) :
    (Instr.range 67 (.map (some L.mb))).run Tryz.prog w = .ok (.pointer (some ⟨w.heap.size, 0, none⟩)) (w.alloc (.mapIter (some L.mb) L.clock #[] L.clock)) ∧
      IterAt (w.alloc (.mapIter (some L.mb) L.clock #[] L.clock)) w.heap.size L S (S.reqs.map Req.id) := by
  refine ⟨run_range_map w 67 3 73 L.mb _ L.clock Tryz.underlying67 h.mmap, #[], L.clock, L.clock, (MapKept.heap_alloc w _).1, Nat.le_refl _, Nat.le_refl _, h.blt, ?_⟩
  rw [List.filter_eq_self.2]; intro a _; simp

theorem inj_of_nodup {f : Int → Nat} {l : List Int} (h : (l.map f).Nodup) {a b : Int} (ha : a ∈ l) (hb : b ∈ l) (e : f a = f b) : a = b := by
  induction l with
  | nil => cases ha
  | cons x l ih =>
    simp only [List.map_cons, List.nodup_cons] at h
    rcases List.mem_cons.1 ha with ha1 | ha1 <;> rcases List.mem_cons.1 hb with hb1 | hb1
    · rw [ha1, hb1]
    · exact absurd (by rw [← ha1, e]; exact List.mem_map_of_mem hb1) h.1
    · exact absurd (by rw [← hb1, ← e]; exact List.mem_map_of_mem ha1) h.1
    · exact ih h.2 ha1 hb1

theorem next_run {own : Nat → Lb} {w : World} {sb : Nat} {L : Lay} {S : Srv} (h : SrvAt own w sb L S) {it : Nat} {left : List Int} (hi : IterAt w it L S left) (hl : own it = .loc) (ty : TypeId) :
    (left = [] ∧ (Instr.next (.pointer (some ⟨it, 0, none⟩)) false ty).run Tryz.prog w = .ok (.tuple #[.bool false]) w) ∨
    ∃ id w1, id ∈ left ∧ (Instr.next (.pointer (some ⟨it, 0, none⟩)) false ty).run Tryz.prog w = .ok (.tuple #[.bool true, .int .i64 id, .pointer (some ⟨L.rb id, 0, none⟩)]) w1 ∧
      (Instr.entry (.pointer (some ⟨it, 0, none⟩))).run Tryz.prog w1 = .ok (.tuple #[.int .i64 id, .pointer (some ⟨L.rb id, 0, none⟩)]) w1 ∧
      SrvAt own w1 sb L S ∧ IterAt w1 it L S (left.filter fun i => !decide (i = id)) ∧ Ext own w own w1 (fun l => l = .loc) ∧ w1.heap.size = w.heap.size ∧ (∀ b, b ≠ it → w1.heap[b]? = w.heap[b]?) := by
  obtain ⟨seen, c0, since, hit, hsc, hscl, hold, rfl⟩ := hi
  have hb := h.mmap
  have hitlt := lt_of_heap hit
  have hne : L.mb ≠ it := fun e => by have := h.mlab; rw [e, hl] at this; cases this
  have hold' : ∀ x ∈ ((S.reqs.map fun r => ({ key := .int .i64 r.id, val := .pointer (some ⟨L.rb r.id, 0, none⟩), born := L.born r.id } : MapEntry)).toArray).toList, x.born < since := by
    intro x hx
    simp only [List.mem_map] at hx
    obtain ⟨r, hr, rfl⟩ := hx
    exact hold _ (List.mem_map_of_mem hr)
  rcases run_next_at (P := Tryz.prog) w ty it L.mb since c0 seen _ L.clock hit hb hold' hsc with ⟨h0, hrun⟩ | ⟨e, he, w1, hw1, hrun⟩
  · refine .inl ⟨?_, hrun⟩
    rw [List.filter_eq_nil_iff]
    intro i hi
    obtain ⟨r, hr, rfl⟩ := List.mem_map.1 hi
    simp only [leftOf, Array.size_eq_zero_iff] at h0
    rw [Array.filter_eq_empty_iff] at h0
    have := h0 { key := .int .i64 r.id, val := .pointer (some ⟨L.rb r.id, 0, none⟩), born := L.born r.id } (by simp only [List.mem_toArray, List.mem_map]; exact ⟨r, hr, rfl⟩)
    simpa using this
  · right
    simp only [leftOf, Array.toList_filter, List.mem_filter, List.mem_map] at he
    obtain ⟨⟨r, hr, rfl⟩, hns⟩ := he
    have hx : w1.heap = w.heap ∧ w1.os = w.os ∧ w1.tape = w.tape ∧ w1.output = w.output := by rcases hw1 with rfl | rfl <;> exact ⟨rfl, rfl, rfl, rfl⟩
    have hns' : (!seen.contains (L.born r.id)) = true := hns
    have x : Ext own w own (setBlock w1 it (.mapIter (some L.mb) since (seen.push (L.born r.id)) L.clock)) (fun l => l = .loc) := by
      refine ⟨hx.2.1, hx.2.2.1, hx.2.2.2, by simp [setBlock, hx.1], fun _ _ => rfl, fun b _ hn => ?_⟩
      have : b ≠ it := fun e => hn (by rw [e]; exact hl)
      simp only [setBlock, hx.1]
      rw [Array.getElem?_setIfInBounds_ne (fun e => this e.symm)]
    have hs := h.free x (fun l e => .inr e)
    have hit1 : (setBlock w1 it (.mapIter (some L.mb) since (seen.push (L.born r.id)) L.clock)).heap[it]? = some (.mapIter (some L.mb) since (seen.push (L.born r.id)) L.clock) := by
      simp only [setBlock, hx.1]
      rw [Array.getElem?_setIfInBounds_self_of_lt hitlt]
    refine ⟨r.id, _, ?_, hrun, ?_, hs, ?_, x, by simp [setBlock, hx.1], ?_⟩
    · exact List.mem_filter.2 ⟨List.mem_map_of_mem hr, hns'⟩
    · have := run_entry_at (P := Tryz.prog) _ it L.mb since seen _ L.clock { key := .int .i64 r.id, val := .pointer (some ⟨L.rb r.id, 0, none⟩), born := L.born r.id } hit1 hs.mmap
        (by simp only [List.mem_map]; exact ⟨r, hr, rfl⟩) (by
          have := h.bnd
          simpa [List.map_map, Function.comp_def] using this)
      exact this
    · refine ⟨seen.push (L.born r.id), L.clock, since, hit1, hscl, hscl, hold, ?_⟩
      rw [List.filter_filter]
      apply List.filter_congr
      intro i hi
      have hinj : i = r.id ↔ L.born i = L.born r.id := by
        constructor
        · intro e; rw [e]
        · intro e
          exact inj_of_nodup h.bnd hi (List.mem_map_of_mem hr) e
      by_cases e : i = r.id
      · rw [e]; simp
      · have e' : ¬ L.born i = L.born r.id := fun c => e (hinj.2 c)
        simp [e, e']
    · intro b hb
      simp only [setBlock, hx.1]
      rw [Array.getElem?_setIfInBounds_ne (fun e => hb e.symm)]

section
variable {ops : Array Oper} {rest : List Oper} {o : Oper} {a : Act} {Q : Exit → Act → World → Prop}
theorem wl_range {own : Nat → Lb} {w : World} {sb : Nat} {L : Lay} {S : Srv} (h : SrvAt own w sb L S) (hg : o.guard = none) (m : Operand) (hop : o.op = Op.range 67 m) (hm : a.eval m = .map (some L.mb))
    (hK : IterAt (w.alloc (.mapIter (some L.mb) L.clock #[] L.clock)) w.heap.size L S (S.reqs.map Req.id) →
      wpList Tryz.prog ops Q rest (a.put o.dst (.pointer (some ⟨w.heap.size, 0, none⟩))) (w.alloc (.mapIter (some L.mb) L.clock #[] L.clock))) : wpList Tryz.prog ops Q (o :: rest) a w := by
  refine wpList_plain hg fun K' hK' => ?_
  obtain ⟨hrun, hi⟩ := range_run h
  unfold Oper.wp
  simp [execOp, hop, hm, hrun, Result.andThen]
  exact hK' _ _ (hK hi)
theorem wl_next {own : Nat → Lb} {w : World} {sb : Nat} {L : Lay} {S : Srv} (h : SrvAt own w sb L S) {it : Nat} {left : List Int} (hi : IterAt w it L S left) (hl : own it = .loc) (hg : o.guard = none) (x : Operand) (hop : o.op = Op.next x false)
    (hit : a.eval x = .pointer (some ⟨it, 0, none⟩))
    (hDone : left = [] → wpList Tryz.prog ops Q rest (a.put o.dst (.tuple #[.bool false])) w)
    (hMore : ∀ (id : Int) (w1 : World), id ∈ left → (Instr.entry (.pointer (some ⟨it, 0, none⟩))).run Tryz.prog w1 = .ok (.tuple #[.int .i64 id, .pointer (some ⟨L.rb id, 0, none⟩)]) w1 →
      SrvAt own w1 sb L S → IterAt w1 it L S (left.filter fun i => !decide (i = id)) → Ext own w own w1 (fun l => l = .loc) → (∀ b, b ≠ it → w1.heap[b]? = w.heap[b]?) →
      wpList Tryz.prog ops Q rest (a.put o.dst (.tuple #[.bool true, .int .i64 id, .pointer (some ⟨L.rb id, 0, none⟩)])) w1) : wpList Tryz.prog ops Q (o :: rest) a w := by
  refine wpList_plain hg fun K' hK' => ?_
  unfold Oper.wp
  rcases next_run h hi hl o.type with ⟨h0, hrun⟩ | ⟨id, w1, hid, hrun, hen, h1, hi1, x1, _, hb⟩
  · simp [execOp, hop, hit, hrun, Result.andThen]
    exact hK' _ _ (hDone h0)
  · simp [execOp, hop, hit, hrun, Result.andThen]
    exact hK' _ _ (hMore id w1 hid hen h1 hi1 x1 hb)
end

theorem IterAt.keep {w w' : World} {it : Nat} {L L' : Lay} {S S' : Srv} {left : List Int} (h : IterAt w it L S left) (hb : w'.heap[it]? = w.heap[it]?) (hm : L'.mb = L.mb) (hbn : L'.born = L.born) (hc : L'.clock = L.clock)
    (hi : S'.reqs.map Req.id = S.reqs.map Req.id) : IterAt w' it L' S' left := by
  obtain ⟨seen, c0, since, h1, h2, h3, h4, h5⟩ := h
  exact ⟨seen, c0, since, by rw [hb, hm]; exact h1, h2, by rw [hc]; exact h3, by rw [hi, hbn]; exact h4, by rw [hi, hbn]; exact h5⟩

def settled (n : Int) (r : Req) : Req := if r.kept < 0 then { r with kept := n } else r
theorem settled_id (n : Int) (r : Req) : (settled n r).id = r.id := by unfold settled; split <;> rfl
def Srv.settle (S : Srv) : Srv := { S with reqs := S.reqs.map (settled S.log.length) }
/-- All but those of 'left' are settled. -/
def Srv.settleBut (S : Srv) (left : List Int) : Srv := { S with reqs := S.reqs.map fun r => if r.id ∈ left then r else settled S.log.length r }
theorem settleBut_ids (S : Srv) (left : List Int) : (S.settleBut left).reqs.map Req.id = S.reqs.map Req.id := by
  simp only [Srv.settleBut, List.map_map]
  apply List.map_congr_left
  intro r _
  simp only [Function.comp]
  split
  · rfl
  · exact settled_id _ _
theorem settleBut_all (S : Srv) : S.settleBut (S.reqs.map Req.id) = S := by
  have : (S.reqs.map fun r => if r.id ∈ S.reqs.map Req.id then r else settled S.log.length r) = S.reqs := by
    rw [List.map_congr_left (g := id) (fun r hr => by rw [if_pos (List.mem_map_of_mem hr)]; rfl)]; simp
  unfold Srv.settleBut
  rw [this]
theorem settleBut_nil (S : Srv) : S.settleBut [] = S.settle := by simp [Srv.settleBut, Srv.settle]
/-- One more is settled. -/
theorem settleBut_step {S : Srv} {left : List Int} {r : Req} (hu : (S.reqs.map Req.id).Nodup) (hr : r ∈ S.reqs) (hl : r.id ∈ left) :
    r ∈ (S.settleBut left).reqs ∧ (S.settleBut left).put (settled S.log.length r) = S.settleBut (left.filter fun i => !decide (i = r.id)) := by
  constructor
  · simp only [Srv.settleBut, List.mem_map]
    exact ⟨r, hr, by rw [if_pos hl]⟩
  · unfold Srv.settleBut Srv.put
    simp only [List.map_map]
    congr 1
    apply List.map_congr_left
    intro q hq
    simp only [Function.comp, settled_id]
    by_cases e : q.id = r.id
    · have : q = r := by
        have h1 := get_of_mem hu hq
        rw [e, get_of_mem hu hr] at h1
        exact (Option.some.inj h1).symm
      subst this
      simp [hl]
    · by_cases hm : q.id ∈ left
      · simp [hm, e]
      · simp [hm, e, settled_id]
end Go.Proofs.YtllpoaoboieijaaGreat
/-
  The order of requests: cmp.Compare, cmp.Or, the comparison of 'open'; bits.Len of small numbers.
-/
namespace Go.Proofs.YtllpoaoboieijaaGreat
open Go.RowKit

def cmp3 (x y : Int) : Int := if x < y then -1 else if y < x then 1 else 0
theorem isNaN_any (x : Int) (w : World) : Calls Tryz.prog 90 #[.int .i64 x] w fun e w' => e = .returned (.bool false) ∧ w = w' := by
  go_enter Tryz.func90, Tryz.ntmps90
  go_wp2
  go_ret
  exact ⟨by simp, rfl⟩
set_option maxHeartbeats 400000 in
theorem compare_any (x y : Int) (w : World) : Calls Tryz.prog 68 #[.int .i64 x, .int .i64 y] w fun e w' => e = .returned (.int .i64 (cmp3 x y)) ∧ w' = w := by
  rcases Int.lt_trichotomy x y with h | h | h
  · have HE := Lib.hid (show cmp3 x y = -1 by unfold cmp3; rw [if_pos h])
    go_enter Tryz.func68, Tryz.ntmps68
    go_wp2_with (go_at_call 90; refine (isNaN_any _ _).mono ?_; rintro e w' ⟨rfl, rfl⟩)
    go_ret
    exact ⟨ret_int HE.out.symm, rfl⟩
  · have HE := Lib.hid (show cmp3 x y = 0 by unfold cmp3; rw [if_neg (by omega), if_neg (by omega)])
    subst h
    go_enter Tryz.func68, Tryz.ntmps68
    go_wp2_with (go_at_call 90; refine (isNaN_any _ _).mono ?_; rintro e w' ⟨rfl, rfl⟩)
    go_ret
    exact ⟨ret_int HE.out.symm, rfl⟩
  · have HE := Lib.hid (show cmp3 x y = 1 by unfold cmp3; rw [if_neg (by omega), if_pos h])
    go_enter Tryz.func68, Tryz.ntmps68
    go_wp2_with (go_at_call 90; refine (isNaN_any _ _).mono ?_; rintro e w' ⟨rfl, rfl⟩)
    go_ret
    exact ⟨ret_int HE.out.symm, rfl⟩

def or3 (x y : Int) : Int := if x ≠ 0 then x else y
set_option maxHeartbeats 400000 in
theorem or_any (g : Nat) (x y : Int) (w : World) (h0 : w.cell? ⟨g, 0, none⟩ = some (.int .i64 x)) (h1 : w.cell? ⟨g, 1, none⟩ = some (.int .i64 y)) :
    Calls Tryz.prog 67 #[.slice (some ⟨g, 0, none⟩) 2 2] w fun e w' => e = .returned (.int .i64 (or3 x y)) ∧ w' = w := by
  go_enter Tryz.func67, Tryz.ntmps67
  go_wp2
  go_loop [8] (fun i => ∃ j : Nat, i = .int .i64 j ∧ (j = 0 ∨ j = 1 ∧ Hid (x = 0) ∨ j = 2 ∧ Hid (x = 0) ∧ Hid (y = 0))) (fun i => 2 - (intOf i).toNat)
  case atStart => exact ⟨0, rfl, .inl rfl⟩
  case round =>
    obtain ⟨j, rfl, rfl | ⟨rfl, hx⟩ | ⟨rfl, hx, hy⟩⟩ := hrel
    · by_cases e : x = 0
      · have t : (x != 0) = false := by simp [e]
        have HE := Lib.hid e
        clear e
        go_wp2
        go_round
        case rel => exact ⟨1, rfl, .inr (.inl ⟨rfl, HE.out⟩)⟩
        case measure => simp [intOf]
      · have t : (x != 0) = true := by simp [e]
        have t2 : (x == 0) = false := by simp [e]
        have HE := Lib.hid (show or3 x y = x by unfold or3; rw [if_pos e])
        go_wp2
        go_ret
        exact ⟨ret_int HE.out.symm, rfl⟩
    · have HE := Lib.hid (show or3 x y = y by unfold or3; rw [if_neg (by simpa using hx.out)])
      by_cases e : y = 0
      · have t : (y != 0) = false := by simp [e]
        have HY := Lib.hid e
        clear e
        go_wp2
        go_round
        case rel => exact ⟨2, rfl, .inr (.inr ⟨rfl, hx, HY.out⟩)⟩
        case measure => simp [intOf]
      · have t : (y != 0) = true := by simp [e]
        have t2 : (y == 0) = false := by simp [e]
        go_wp2
        go_ret
        exact ⟨ret_int HE.out.symm, rfl⟩
    · have HE := Lib.hid (show or3 x y = 0 by unfold or3; rw [if_neg (by simpa using hx.out)]; exact hy.out)
      go_wp2
      go_ret
      exact ⟨ret_int HE.out.symm, rfl⟩

def cmpReq (a b : Req) : Int := or3 (cmp3 a.deadline b.deadline) (cmp3 a.id b.id)
set_option maxRecDepth 100000 in
set_option maxHeartbeats 400000 in
theorem cmpF_any {own : Nat → Lb} {sb : Nat} {L : Lay} {S : Srv} {w : World} (h : SrvAt own w sb L S) {a b : Req} (ha : a ∈ S.reqs) (hb : b ∈ S.reqs) :
    Calls Tryz.prog 66 #[.pointer (some ⟨L.rb a.id, 0, none⟩), .pointer (some ⟨L.rb b.id, 0, none⟩)] w fun e w' => e = .returned (.int .i64 (cmpReq a b)) ∧ Below w.heap.size w w' := by
  have c1 := (h.req a ha).blk.cell
  have c2 := (h.req b hb).blk.cell
  simp only [reqCells] at c1 c2
  have l1 := (h.req a ha).blk.lt
  have l2 := (h.req b hb).blk.lt
  clear h ha hb
  go_enter Tryz.func66, Tryz.ntmps66
  go_wp2
  refine wp_region_still_tail 22 (by kernel_rfl) (by kernel_rfl) ?_
  simp only [List.take_succ_cons, List.take_zero, List.drop_succ_cons, List.drop_zero]
  repeat still_step
  still_call (compare_any _ _ _)
  repeat still_step
  still_call (compare_any _ _ _)
  repeat still_step
  refine wpStill_nil ?_
  have hor := or_any w.heap.size (cmp3 a.deadline b.deadline) (cmp3 a.id b.id) (w.alloc (.cells #[.int .i64 (cmp3 a.deadline b.deadline), .int .i64 (cmp3 a.id b.id)] 3)).drew (by simp [go_sem]) (by simp [go_sem])
  have HOR := Lib.hid hor
  clear hor
  go_wp2_with fail
  refine HOR.out.mono ?_
  rintro e w' ⟨rfl, rfl⟩
  go_wp2
  go_ret
  exact ⟨rfl, below_drewN ((Below.refl _ _).alloc (Nat.le_refl _) _) 1⟩

def ltReq (a b : Req) : Prop := a.deadline < b.deadline ∨ a.deadline = b.deadline ∧ a.id < b.id
theorem cmpReq_lt (a b : Req) : cmpReq a b < 0 ↔ ltReq a b := by
  unfold cmpReq or3 cmp3 ltReq
  (repeat' split) <;> omega

set_option maxRecDepth 100000 in
set_option maxHeartbeats 400000 in
theorem len64_small (n : Nat) (h : n ≤ 12) (w : World) : Calls Tryz.prog 114 #[.int .u64 n] w fun e w' => (∃ v : Int, e = .returned (.int .i64 v)) ∧ w' = w := by
  have : n = 0 ∨ n = 1 ∨ n = 2 ∨ n = 3 ∨ n = 4 ∨ n = 5 ∨ n = 6 ∨ n = 7 ∨ n = 8 ∨ n = 9 ∨ n = 10 ∨ n = 11 ∨ n = 12 := by omega
  rcases this with rfl | rfl | rfl | rfl | rfl | rfl | rfl | rfl | rfl | rfl | rfl | rfl | rfl
  all_goals
    go_enter Tryz.func114, Tryz.ntmps114
    go_wp2
    go_ret
    exact ⟨⟨_, rfl⟩, rfl⟩
end Go.Proofs.YtllpoaoboieijaaGreat
/-
  The sort of at most twelve requests.
-/
namespace Go.Proofs.YtllpoaoboieijaaGreat
open Go.RowKit

theorem len_small (n : Nat) (h : n ≤ 12) (w : World) : Calls Tryz.prog 89 #[.int .u64 n] w fun e w' => (∃ v : Int, e = .returned (.int .i64 v)) ∧ w' = w := by
  have H := Lib.hid (len64_small n h)
  clear h
  go_enter Tryz.func89, Tryz.ntmps89
  go_wp2_with (go_at_call 114; refine (H.out _).mono ?_; rintro e w' ⟨⟨v, rfl⟩, rfl⟩)
  go_ret
  exact ⟨⟨_, rfl⟩, rfl⟩

def ptrs (L : Lay) (xs : List Req) : List Value := xs.map fun r => Value.pointer (some ⟨L.rb r.id, 0, none⟩)
theorem ptrs_get (L : Lay) (xs : List Req) (rest : List Value) {i : Nat} (h : i < xs.length) : (ptrs L xs ++ rest)[i]? = some (.pointer (some ⟨L.rb xs[i].id, 0, none⟩)) := by
  rw [List.getElem?_append_left (by simpa [ptrs] using h)]; simp [ptrs, h]
theorem ptrs_set (L : Lay) (xs : List Req) (rest : List Value) {i : Nat} (h : i < xs.length) (r : Req) : (ptrs L xs ++ rest).set i (.pointer (some ⟨L.rb r.id, 0, none⟩)) = ptrs L (xs.set i r) ++ rest := by
  rw [List.set_append_left _ _ (by simpa [ptrs] using h)]; simp [ptrs, List.map_set]

theorem ltReq_trans {a b c : Req} (h : ¬ ltReq b a) (k : ¬ ltReq c b) : ¬ ltReq c a := by
  unfold ltReq at *; omega
theorem ltReq_asymm {a b : Req} (h : ltReq a b) : ¬ ltReq b a := by unfold ltReq at *; omega

/-- Sorted up to i but for the element at j. -/
def But (ys : List Req) (i j : Nat) : Prop := ∀ p q (hp : p < ys.length) (hq : q < ys.length), p < q → q ≤ i → q ≠ j → ¬ ltReq ys[q] ys[p]
def Upto (ys : List Req) (i : Nat) : Prop := ∀ p q (hp : p < ys.length) (hq : q < ys.length), p < q → q < i → ¬ ltReq ys[q] ys[p]
theorem But.start {ys : List Req} {i : Nat} (h : Upto ys i) : But ys i i := fun p q hp hq hpq hqi hne => h p q hp hq hpq (by omega)
theorem But.zero {ys : List Req} {i : Nat} (h : But ys i 0) : Upto ys (i + 1) := fun p q hp hq hpq hqi => h p q hp hq hpq (by omega) (by omega)
theorem But.stop {ys : List Req} {i j : Nat} (h : But ys i (j + 1)) (hj : j + 1 < ys.length) (hji : j + 1 ≤ i) (hn : ¬ ltReq ys[j + 1] ys[j]) : Upto ys (i + 1) := by
  intro p q hp hq hpq hqi
  by_cases e : q = j + 1
  · subst e
    by_cases e2 : p = j
    · subst e2; exact hn
    · exact ltReq_trans (h p j hp (by omega) (by omega) (by omega) (by omega)) hn
  · exact h p q hp hq hpq (by omega) e
theorem But.swap {ys : List Req} {i j : Nat} (h : But ys i (j + 1)) (hj : j + 1 < ys.length) (hji : j + 1 ≤ i) (hl : ltReq ys[j + 1] ys[j]) : But ((ys.set (j + 1) ys[j]).set j ys[j + 1]) i j := by
  intro p q hp hq hpq hqi hne
  simp only [List.length_set] at hp hq
  simp only [List.getElem_set]
  have hs := ltReq_asymm hl
  by_cases q1 : q = j + 1
  · subst q1
    rw [if_neg (by omega : ¬ j = j + 1), if_pos rfl]
    by_cases p1 : p = j
    · rw [if_pos p1.symm]; exact hs
    · rw [if_neg (fun e => p1 e.symm), if_neg (by omega)]
      exact h p j hp (by omega) (by omega) (by omega) (by omega)
  · rw [if_neg (fun e => hne e.symm), if_neg (fun e => q1 e.symm)]
    by_cases p1 : p = j
    · rw [if_pos p1.symm]; exact h (j + 1) q hj hq (by omega) hqi q1
    · rw [if_neg (fun e => p1 e.symm)]
      by_cases p2 : p = j + 1
      · rw [if_pos p2.symm]; exact h j q (by omega) hq (by omega) hqi q1
      · rw [if_neg (fun e => p2 e.symm)]; exact h p q hp hq hpq hqi q1
theorem swap_perm {ys : List Req} {i j : Nat} (hi : i < ys.length) (hj : j < ys.length) : ((ys.set i ys[j]).set j ys[i]).Perm ys := by
  exact List.set_set_perm hi hj
end Go.Proofs.YtllpoaoboieijaaGreat
