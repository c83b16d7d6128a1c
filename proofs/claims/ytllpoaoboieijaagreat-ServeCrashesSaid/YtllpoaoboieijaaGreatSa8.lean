/-
  The insertion sort: the walk.
  The sort's callers; the requests under way, in order.
  The requests under way, in order: the sort of none; words on lists.
-/
import Derived.Test.YtllpoaoboieijaaGreatSa7
/-
  The insertion sort: the walk.
-/
namespace Go.Proofs.YtllpoaoboieijaaGreat
open Go.RowKit

def Tloc : Lb → Prop := fun l => l = .loc
def InsSorted (own : Nat → Lb) (sb : Nat) (L : Lay) (S : Srv) (g : Nat) (rest : List Value) (xs : List Req) (w w' : World) : Prop :=
  ∃ own' ys, SrvAt own' w' sb L S ∧ own' g = .loc ∧ Blk w' g (ptrs L ys ++ rest) 73 ∧ ys.Perm xs ∧ Upto ys xs.length ∧ Ext own w own' w' Tloc

set_option maxRecDepth 100000 in
set_option maxHeartbeats 800000 in
theorem ins_any (own : Nat → Lb) (sb : Nat) (L : Lay) (S : Srv) (g c : Nat) (rest : List Value) (xs : List Req) (w : World) (h : SrvAt own w sb L S) (hg : own g = .loc) (hb : Blk w g (ptrs L xs ++ rest) 73)
    (hx : ∀ r, r ∈ xs → r ∈ S.reqs) (hn : xs.length ≤ 12) :
    Calls Tryz.prog 105 #[.slice (some ⟨g, 0, none⟩) xs.length c, .int .i64 0, .int .i64 xs.length, .func (.func 66) #[] #[]] w fun e w' => e = .returned (.tuple #[]) ∧ InsSorted own sb L S g rest xs w w' := by
  have H := Lib.hid h
  have HG := Lib.hid hg
  have HB := Lib.hid hb
  have HX := Lib.hid hx
  clear h hg hb hx
  go_enter Tryz.func105, Tryz.ntmps105
  go_wp2
  go_loopg [8] xs.length (fun gk s8 wx => ∃ own1 ys, ∃ i : Nat, s8 = .int .i64 i ∧ 1 ≤ i ∧ (i ≤ xs.length ∨ i = 1) ∧ SrvAt own1 wx sb L S ∧ own1 g = .loc ∧ Blk wx g (ptrs L ys ++ rest) 73 ∧ ys.Perm xs ∧ Upto ys i ∧ Ext own w own1 wx Tloc ∧ gk = xs.length + 1 - i)
  case atStart => exact ⟨own, xs, 1, by go_num, Nat.le_refl _, .inr rfl, H.out, HG.out, HB.out, .refl _, fun p q hp hq hpq hq1 => absurd hpq (by omega), Ext.refl own w Tloc, rfl⟩
  case round =>
    obtain ⟨own1, ys, i, rfl, hi1, hi2, h1, hg1, hb1, hp1, hu1, x1, rfl⟩ := hrel
    have hlen := hp1.length_eq
    have H1 := Lib.hid h1
    have HG1 := Lib.hid hg1
    have HB1 := Lib.hid hb1
    have HP1 := Lib.hid hp1
    have HU1 := Lib.hid hu1
    have X1 := Lib.hid x1
    have HLEN := Lib.hid hlen
    clear h1 hg1 hb1 hp1 hu1 x1 hlen
    by_cases hlt : i < xs.length
    · go_wp2
      go_loopg [9] (i + 1) (fun gk s9 wx => ∃ own2 zs, ∃ j : Nat, s9 = .int .i64 j ∧ j ≤ i ∧ SrvAt own2 wx sb L S ∧ own2 g = .loc ∧ Blk wx g (ptrs L zs ++ rest) 73 ∧ zs.Perm xs ∧ But zs i j ∧ Ext own w own2 wx Tloc ∧ gk = j + 1)
      case atStart => exact ⟨own1, ys, i, rfl, Nat.le_refl _, H1.out, HG1.out, HB1.out, HP1.out, But.start HU1.out, X1.out, rfl⟩
      case round =>
        obtain ⟨own2, zs, j, rfl, hji, h2, hg2, hb2, hp2, hu2, x2, rfl⟩ := hrel
        have hlen2 := hp2.length_eq
        rcases Nat.eq_zero_or_pos j with rfl | hj0
        · have H2 := Lib.hid h2
          have HG2 := Lib.hid hg2
          have HB2 := Lib.hid hb2
          have HP2 := Lib.hid hp2
          have HU2 := Lib.hid hu2
          have X2 := Lib.hid x2
          clear h2 hg2 hb2 hp2 hu2 x2 hlen2
          have t0 : decide ((0 : Int) < ((0 : Nat) : Int)) = false := by decide
          go_wp2
          go_quiet (fail)
          go_wp2
          go_roundg (xs.length + 1 - (i + 1))
          case measure => omega
          case rel => exact ⟨own2, zs, i + 1, by go_num, by omega, .inl (by omega), H2.out.drewN _, HG2.out, HB2.out, HP2.out, But.zero HU2.out, X2.out.drewN _, rfl⟩
        · obtain ⟨m, rfl⟩ : ∃ m, j = m + 1 := ⟨j - 1, by omega⟩
          have hm1 : m + 1 < zs.length := by omega
          have ha := HX.out _ (hp2.mem_iff.1 (List.getElem_mem (h := hm1)))
          have hb := HX.out _ (hp2.mem_iff.1 (List.getElem_mem (h := (by omega : m < zs.length))))
          have q1 : wr.cell? ⟨g, m + 1, none⟩ = _ := (hb2.cell (m + 1)).trans (ptrs_get L zs rest hm1)
          have q0 : wr.cell? ⟨g, m, none⟩ = _ := (hb2.cell m).trans (ptrs_get L zs rest (by omega))
          have f1 := hb2.frozen
          have hcmp := cmpF_any (h2.drewN 1) ha hb
          have H2 := Lib.hid h2
          have HG2 := Lib.hid hg2
          have HB2 := Lib.hid hb2
          have HP2 := Lib.hid hp2
          have HU2 := Lib.hid hu2
          have X2 := Lib.hid x2
          have HLEN2 := Lib.hid hlen2
          have HM1 := Lib.hid hm1
          have hb2lt := Lib.hid hb2.lt
          have HCMP := Lib.hid hcmp
          clear h2 hg2 hb2 hp2 hu2 x2 hlen2 ha hb hcmp
          have t0 : decide ((0 : Int) < ((m + 1 : Nat) : Int)) = true := by simp
          have t1 : 0 ≤ (m : Int) + 1 := by omega
          have t2 : (m : Int) + 1 < xs.length := by omega
          have t6 : IntKind.i64.wrap (m : Int) = m := IntWalk.i64_in _ (by omega)
          have t5 : ((m : Nat) : Int) < xs.length := by omega
          go_wp2
          refine wp_region_still_tail 14 (by kernel_rfl) (by kernel_rfl) ?_
          simp only [List.take_succ_cons, List.take_zero, List.drop_succ_cons, List.drop_zero]
          repeat still_step
          refine wpStill_nil ?_
          go_wp2_with fail
          refine HCMP.out.mono ?_
          rintro e w3 ⟨rfl, hbel⟩
          have h3 := (H2.out.drewN 1).below hbel
          have hb3 := (HB2.out.drewN 1).below hbel
          have hg3 : relab own2 (wr.drewN 1).heap.size .other g = .loc := (relab_old _ hb2lt.out).trans HG2.out
          have x3 : Ext own w (relab own2 (wr.drewN 1).heap.size .other) w3 Tloc := (X2.out.drewN 1).trans (Ext.below hbel _ _)
          have p1 : w3.cell? ⟨g, m + 1, none⟩ = _ := (hb3.cell (m + 1)).trans (ptrs_get L zs rest HM1.out)
          have p0 : w3.cell? ⟨g, m, none⟩ = _ := (hb3.cell m).trans (ptrs_get L zs rest (by have := HM1.out; omega))
          have f3 := hb3.frozen
          have H3 := Lib.hid h3
          have HG3 := Lib.hid hg3
          have HB3 := Lib.hid hb3
          have X3 := Lib.hid x3
          clear h3 hg3 hb3 x3 hbel q1 q0 f1
          by_cases hc : ltReq zs[m + 1] zs[m]
          · have HC := Lib.hid hc
            have d1 : cmpReq zs[m + 1] zs[m] < 0 := (cmpReq_lt _ _).2 hc
            clear hc
            go_wp2
            go_region
            have HLEN2' := HLEN2.out
            have hm1' := HM1.out
            have hg3' := HG3.out
            obtain ⟨w5, hw5, h5, b5, x5⟩ : ∃ w5 : World, (w3.setCell ⟨g, m + 1, none⟩ (.pointer (some ⟨L.rb zs[m].id, 0, none⟩))).setCell ⟨g, m, none⟩ (.pointer (some ⟨L.rb zs[m + 1].id, 0, none⟩)) = w5 ∧ SrvAt (relab own2 (wr.drewN 1).heap.size .other) w5 sb L S ∧ Blk w5 g (ptrs L ((zs.set (m + 1) zs[m]).set m zs[m + 1]) ++ rest) 73 ∧ Ext (relab own2 (wr.drewN 1).heap.size .other) w3 (relab own2 (wr.drewN 1).heap.size .other) w5 Tloc := by
              have e1 := Ext.setCell (own := relab own2 (wr.drewN 1).heap.size .other) (w := w3) (T := Tloc) ⟨g, m + 1, none⟩ (.pointer (some ⟨L.rb zs[m].id, 0, none⟩)) hg3'
              have e2 := e1.trans (Ext.setCell (own := relab own2 (wr.drewN 1).heap.size .other) (T := Tloc) ⟨g, m, none⟩ (.pointer (some ⟨L.rb zs[m + 1].id, 0, none⟩)) hg3')
              refine ⟨_, rfl, H3.out.free e2 (fun _ t => .inr t), ?_, e2⟩
              have := (HB3.out.set (m + 1) (.pointer (some ⟨L.rb zs[m].id, 0, none⟩))).set m (.pointer (some ⟨L.rb zs[m + 1].id, 0, none⟩))
              rw [ptrs_set L zs rest hm1', ptrs_set L _ rest (by simp; omega)] at this
              exact this
            rw [hw5]
            have H5 := Lib.hid h5
            have B5 := Lib.hid b5
            have X5 := Lib.hid (X3.out.trans x5)
            clear h5 b5 x5 hw5 HLEN2' hg3'
            go_wp2
            go_roundg (m + 1)
            case measure => omega
            case rel => exact ⟨_, _, m, by go_num, by omega, H5.out.drewN _, HG3.out, B5.out, (swap_perm HM1.out (by have := HM1.out; omega)).trans HP2.out, But.swap HU2.out HM1.out (by omega) HC.out, X5.out.drewN _, rfl⟩
          · have HC := Lib.hid hc
            have d0 : ¬ cmpReq zs[m + 1] zs[m] < 0 := fun e => hc ((cmpReq_lt _ _).1 e)
            have d1 : decide (cmpReq zs[m + 1] zs[m] < 0) = false := decide_eq_false d0
            clear hc
            go_wp2
            go_roundg (xs.length + 1 - (i + 1))
            case measure => omega
            case rel => exact ⟨_, zs, i + 1, by go_num, by omega, .inl (by omega), H3.out, HG3.out, HB3.out, HP2.out, But.stop HU2.out HM1.out (by omega) HC.out, X3.out, rfl⟩
    · go_wp2
      go_end0
      exact ⟨rfl, own1, ys, H1.out, HG1.out, HB1.out, HP1.out, fun p q hp hq hpq hql => HU1.out p q hp hq hpq (by omega), X1.out⟩
end Go.Proofs.YtllpoaoboieijaaGreat
/-
  The sort's callers; the requests under way, in order.
-/
namespace Go.Proofs.YtllpoaoboieijaaGreat
open Go.RowKit

set_option maxRecDepth 100000 in
set_option maxHeartbeats 800000 in
theorem pdq_any (own : Nat → Lb) (sb : Nat) (L : Lay) (S : Srv) (g c : Nat) (rest : List Value) (xs : List Req) (lim : Int) (w : World) (h : SrvAt own w sb L S) (hg : own g = .loc) (hb : Blk w g (ptrs L xs ++ rest) 73)
    (hx : ∀ r, r ∈ xs → r ∈ S.reqs) (hn : xs.length ≤ 12) :
    Calls Tryz.prog 88 #[.slice (some ⟨g, 0, none⟩) xs.length c, .int .i64 0, .int .i64 xs.length, .int .i64 lim, .func (.func 66) #[] #[]] w fun e w' => e = .returned (.tuple #[]) ∧ InsSorted own sb L S g rest xs w w' := by
  have hins := ins_any own sb L S g c rest xs w h hg hb hx hn
  have HI := Lib.hid hins
  clear h hg hb hx hins
  have t1 : IntKind.i64.wrap ((xs.length : Int)) = xs.length := IntWalk.i64_in _ (by omega)
  have t2 : decide ((xs.length : Int) ≤ 12) = true := by simp; omega
  have t3 : (xs.length : Int) ≤ 12 := by omega
  go_enter Tryz.func88, Tryz.ntmps88
  go_wp2
  go_loopg [1, 2, 3] 1 (fun gk s1 s2 s3 wx => s1 = .int .i64 0 ∧ s2 = .int .i64 xs.length ∧ s3 = .int .i64 lim ∧ wx = w ∧ gk = 1)
  case atStart => exact ⟨rfl, rfl, rfl, rfl, rfl⟩
  case round =>
    obtain ⟨rfl, rfl, rfl, rfl, rfl⟩ := hrel
    go_wp2_with (go_at_call 105; refine HI.out.mono ?_; rintro e w1 ⟨rfl, hw1⟩)
    go_wp2
    refine bodyPost_ret (results_none rfl _ _ _) rfl ⟨rfl, hw1⟩

set_option maxRecDepth 100000 in
set_option maxHeartbeats 800000 in
theorem sort_any (own : Nat → Lb) (sb : Nat) (L : Lay) (S : Srv) (g c : Nat) (rest : List Value) (xs : List Req) (w : World) (h : SrvAt own w sb L S) (hg : own g = .loc) (hb : Blk w g (ptrs L xs ++ rest) 73)
    (hx : ∀ r, r ∈ xs → r ∈ S.reqs) (hn : xs.length ≤ 12) :
    Calls Tryz.prog 65 #[.slice (some ⟨g, 0, none⟩) xs.length c, .func (.func 66) #[] #[]] w fun e w' => e = .returned (.tuple #[]) ∧ InsSorted own sb L S g rest xs w w' := by
  have H := Lib.hid (fun lim w => pdq_any own sb L S g c rest xs lim w)
  have H0 := Lib.hid (And.intro h (And.intro hg (And.intro hb hx)))
  clear h hg hb hx
  have t1 : IntKind.u64.wrap ((xs.length : Int)) = xs.length := by
    have : IntKind.u64.wrap ((xs.length : Int)) = (xs.length : Int) % 18446744073709551616 := rfl
    omega
  go_enter Tryz.func65, Tryz.ntmps65
  go_wp2_with (go_at_call 89; refine (len_small xs.length hn _).mono ?_; rintro e w1 ⟨⟨lim, rfl⟩, rfl⟩)
  refine (H.out lim _ H0.out.1 H0.out.2.1 H0.out.2.2.1 H0.out.2.2.2 hn).mono ?_
  rintro e w2 ⟨rfl, hw2⟩
  go_wp2
  go_end0
  exact ⟨rfl, hw2⟩
end Go.Proofs.YtllpoaoboieijaaGreat
/-
  The requests under way, in order: the sort of none; words on lists.
-/
namespace Go.Proofs.YtllpoaoboieijaaGreat
open Go.RowKit

set_option maxRecDepth 100000 in
set_option maxHeartbeats 800000 in
theorem ins_nil (w : World) :
    Calls Tryz.prog 105 #[.slice none 0 0, .int .i64 0, .int .i64 0, .func (.func 66) #[] #[]] w fun e w' => e = .returned (.tuple #[]) ∧ w' = w := by
  go_enter Tryz.func105, Tryz.ntmps105
  go_wp2
  go_loopg [8] 1 (fun gk s8 wx => s8 = .int .i64 1 ∧ wx = w ∧ gk = 1)
  case atStart => exact ⟨rfl, rfl, rfl⟩
  case round =>
    obtain ⟨rfl, rfl, rfl⟩ := hrel
    go_wp2
    go_end0
    exact ⟨rfl, rfl⟩

set_option maxRecDepth 100000 in
set_option maxHeartbeats 800000 in
theorem pdq_nil (lim : Int) (w : World) :
    Calls Tryz.prog 88 #[.slice none 0 0, .int .i64 0, .int .i64 0, .int .i64 lim, .func (.func 66) #[] #[]] w fun e w' => e = .returned (.tuple #[]) ∧ w' = w := by
  go_enter Tryz.func88, Tryz.ntmps88
  go_wp2
  go_loopg [1, 2, 3] 1 (fun gk s1 s2 s3 wx => s1 = .int .i64 0 ∧ s2 = .int .i64 0 ∧ s3 = .int .i64 lim ∧ wx = w ∧ gk = 1)
  case atStart => exact ⟨rfl, rfl, rfl, rfl, rfl⟩
  case round =>
    obtain ⟨rfl, rfl, rfl, rfl, rfl⟩ := hrel
    go_wp2_with (go_at_call 105; refine (ins_nil _).mono ?_; rintro e w1 ⟨rfl, rfl⟩)
    go_wp2
    refine bodyPost_ret (results_none rfl _ _ _) rfl ⟨rfl, rfl⟩

set_option maxRecDepth 100000 in
set_option maxHeartbeats 800000 in
theorem sort_nil (w : World) : Calls Tryz.prog 65 #[.slice none 0 0, .func (.func 66) #[] #[]] w fun e w' => e = .returned (.tuple #[]) ∧ w' = w := by
  go_enter Tryz.func65, Tryz.ntmps65
  go_wp2_with (go_at_call 89; refine (len_small 0 (by omega) _).mono ?_; rintro e w1 ⟨⟨lim, rfl⟩, rfl⟩)
  refine (pdq_nil lim _).mono ?_
  rintro e w2 ⟨rfl, rfl⟩
  go_wp2
  go_end0
  exact ⟨rfl, rfl⟩

/-- An owned slice where its block is as it was. -/
theorem Owns.same {own own' : Nat → Lb} {lb : Lb} {w w' : World} {e : TypeId} {size : Nat} {v : Value} {n : Nat} {xs : List Value} (h : Owns own lb w e size v n xs)
    (hb : ∀ k, v.ownBlock = some k → w'.heap[k]? = w.heap[k]?) (hl : ∀ k, v.ownBlock = some k → own' k = own k) : Owns own' lb w' e size v n xs := by
  refine ⟨⟨h.1.1, ?_⟩, fun k hk => (hl k hk).trans (h.2 k hk)⟩
  rcases h.1.2 with h | ⟨g, cap, cur, hv, h3, h4, h5, h6, h7, h8⟩
  · exact .inl h
  · exact .inr ⟨g, cap, cur, hv, h3, by rw [hb g (by rw [hv]; rfl)]; exact h4, h5, h6, h7, h8⟩
/-- .. its block whole. -/
theorem Owns.blk {own : Nat → Lb} {lb : Lb} {w : World} {e : TypeId} {v : Value} {n : Nat} {xs : List Value} (h : Owns own lb w e 1 v n xs) (h0 : 0 < n) :
    ∃ g c rest, v = .slice (some ⟨g, 0, none⟩) n c ∧ Blk w g (xs ++ rest) e ∧ own g = lb ∧ n ≤ c ∧ c ≤ maxLen ∧ xs.length = n := by
  rcases h.1.2 with ⟨_, h⟩ | ⟨g, cap, cur, hv, _, h4, h5, h6, h7, h8⟩
  · omega
  · refine ⟨g, cap, cur.toList.drop n, hv, ?_, h.2 g (by rw [hv]; rfl), h5, h6, by rw [h.1.1]; omega⟩
    unfold Blk
    have : xs ++ cur.toList.drop n = cur.toList := by
      rw [← h8, Nat.mul_one, List.take_append_drop]
    rw [this]; exact h4

theorem inj_id {S : Srv} (hu : (S.reqs.map Req.id).Nodup) {q r : Req} (hq : q ∈ S.reqs) (hr : r ∈ S.reqs) (e : q.id = r.id) : q = r := by
  have h1 := get_of_mem hu hq
  rw [e, get_of_mem hu hr] at h1
  exact (Option.some.inj h1).symm
theorem nodup_of_ids {l : List Req} (h : (l.map Req.id).Nodup) : l.Nodup := (List.pairwise_map.1 h).imp fun h e => h (by rw [e])

/-- The requests that have not ended, in the order of their deadlines. -/
def Opens (S : Srv) (ys : List Req) : Prop := ys.Perm (S.reqs.filter fun r => !r.ended) ∧ Upto ys ys.length

/-- What an unfinished walk of the requests has gathered. -/
def Gath (S : Srv) (left : List Int) (zs : List Req) : Prop := zs.Nodup ∧ (∀ r, r ∈ zs ↔ r ∈ S.reqs ∧ r.ended = false ∧ r.id ∉ left) ∧ zs.length + left.length ≤ S.reqs.length ∧ (∀ i, i ∈ left → i ∈ S.reqs.map Req.id)
theorem Gath.start (S : Srv) : Gath S (S.reqs.map Req.id) [] := ⟨List.nodup_nil, fun r => by
  simp only [List.not_mem_nil, false_iff]
  exact fun h => h.2.2 (List.mem_map_of_mem h.1), by simp, fun _ h => h⟩
theorem filter_lt {left : List Int} {i : Int} (h : i ∈ left) : (left.filter fun j => !decide (j = i)).length + 1 ≤ left.length := by
  have h1 : (left.filter fun j => !decide (j = i)).length ≤ left.length := List.length_filter_le _ _
  rcases Nat.lt_or_ge (left.filter fun j => !decide (j = i)).length left.length with h2 | h2
  · exact h2
  · have h3 : left.filter (fun j => !decide (j = i)) = left := List.filter_eq_self.2 (by
      have := List.length_filter_eq_length_iff.1 (Nat.le_antisymm h1 h2); exact this)
    have := (List.filter_eq_self.1 h3) i h
    simp at this
theorem Gath.skip {S : Srv} {left : List Int} {zs : List Req} (h : Gath S left zs) {r : Req} (hu : (S.reqs.map Req.id).Nodup) (hr : r ∈ S.reqs) (hl : r.id ∈ left) (he : r.ended = true) : Gath S (left.filter fun j => !decide (j = r.id)) zs := by
  obtain ⟨h1, h2, h3, h4⟩ := h
  have h5 := filter_lt hl
  refine ⟨h1, fun q => ?_, by omega, fun i hi => h4 i (List.mem_filter.1 hi).1⟩
  rw [h2 q]
  constructor
  · rintro ⟨a, b, c⟩; exact ⟨a, b, fun d => c (List.mem_filter.1 d).1⟩
  · rintro ⟨a, b, c⟩
    refine ⟨a, b, fun d => c (List.mem_filter.2 ⟨d, ?_⟩)⟩
    have : q.id ≠ r.id := fun e => by
      have : q = r := inj_id hu a hr e
      rw [this, he] at b; cases b
    simp [this]
theorem Gath.add {S : Srv} {left : List Int} {zs : List Req} (h : Gath S left zs) {r : Req} (hu : (S.reqs.map Req.id).Nodup) (hr : r ∈ S.reqs) (hl : r.id ∈ left) (he : r.ended = false) : Gath S (left.filter fun j => !decide (j = r.id)) (zs ++ [r]) := by
  obtain ⟨h1, h2, h3, h4⟩ := h
  have h5 := filter_lt hl
  refine ⟨?_, fun q => ?_, by simp; omega, fun i hi => h4 i (List.mem_filter.1 hi).1⟩
  · rw [List.nodup_append]
    refine ⟨h1, by simp, fun a ha b hb => ?_⟩
    rw [List.mem_singleton] at hb
    subst hb
    intro e
    subst e
    exact ((h2 a).1 ha).2.2 hl
  · rw [List.mem_append, h2 q, List.mem_singleton]
    constructor
    · rintro (⟨a, b, c⟩ | rfl)
      · exact ⟨a, b, fun d => c (List.mem_filter.1 d).1⟩
      · exact ⟨hr, he, fun d => by simpa using (List.mem_filter.1 d).2⟩
    · rintro ⟨a, b, c⟩
      by_cases e : q.id = r.id
      · exact .inr (inj_id hu a hr e)
      · exact .inl ⟨a, b, fun d => c (List.mem_filter.2 ⟨d, by simp [e]⟩)⟩
theorem Gath.done {S : Srv} {zs : List Req} (h : Gath S [] zs) (hu : (S.reqs.map Req.id).Nodup) : zs.Perm (S.reqs.filter fun r => !r.ended) := by
  obtain ⟨h1, h2, h3, h4⟩ := h
  refine (List.perm_ext_iff_of_nodup h1 ?_).2 fun q => ?_
  · exact (nodup_of_ids hu).filter _
  · rw [h2 q, List.mem_filter]; simp
end Go.Proofs.YtllpoaoboieijaaGreat
