/-
  The plain law: Tick and Submit keep it.
  served: models and serve work.
-/
import Derived.Test.YtllpoaoboieijaaGreatSa14
import Derived.Test.YtllpoaoboieijaaGreatSa23
import Derived.Test.YtllpoaoboieijaaGreatSa32
import Derived.Test.YtllpoaoboieijaaGreatSa33
import Derived.Test.YtllpoaoboieijaaGreatSa34
import Derived.Test.YtllpoaoboieijaaGreatSa35
import Derived.Test.YtllpoaoboieijaaGreatSa36
import Derived.Test.YtllpoaoboieijaaGreatSa38
/-
  The plain law: Tick and Submit keep it.
-/
namespace Go.Proofs.YtllpoaoboieijaaGreat
open Go.RowKit

theorem rest_now {S S' : Srv} (h : S'.rest = S.rest) : S'.now = S.now := by
  have e : S'.rest.now = S.rest.now := by rw [h]
  exact e
theorem rest_all {S S' : Srv} (h : S'.rest = S.rest) : S'.log = S.log ∧ S'.records = S.records ∧ S'.replay = S.replay ∧ S'.vocab = S.vocab ∧ S'.pagesN = S.pagesN := by
  have e1 : S'.rest.log = S.rest.log := by rw [h]
  have e2 : S'.rest.records = S.rest.records := by rw [h]
  have e3 : S'.rest.replay = S.rest.replay := by rw [h]
  have e4 : S'.rest.vocab = S.rest.vocab := by rw [h]
  have e5 : S'.rest.pagesN = S.rest.pagesN := by rw [h]
  exact ⟨e1, e2, e3, e4, e5⟩
theorem tokOk : TokOk tokF := fun S r hw _ _ => by
  rw [hw.mdl]; exact tokF_in _ _ _ _
theorem Mid.put {S : Srv} (hu : (S.reqs.map Req.id).Nodup) {r r' : Req} (hr : r ∈ S.reqs) (e : r'.sig = r.sig) (hri : RInv r → RInv r') (ho : r'.ended = false → r.ended = false) (hk : r'.kept = r.kept ∨ r'.kept = -1) : Mid 0 S (S.put r') := by
  refine ⟨?_, fun B hB k q hq => ?_, fun k q hq => ?_, fun q hq hqo => ?_⟩
  · simp only [Srv.put, List.map_map]
    apply List.map_congr_left
    intro q hq
    simp only [Function.comp]
    split
    · rename_i c
      rw [inj_id' hu hq hr (c.trans (sig_id e))]; exact e
    · rfl
  · rcases mem_put hq with rfl | ⟨h, _⟩
    · rcases hk with a | a
      · rw [a]; exact k r hr
      · omega
    · exact k q h
  · rcases mem_put hq with rfl | ⟨h, _⟩
    · exact hri (k r hr)
    · exact k q h
  · rcases mem_put hq with rfl | ⟨h, _⟩
    · exact ⟨r, hr, ho hqo, e.symm⟩
    · exact ⟨q, h, hqo, rfl⟩
theorem Mid.pages (S : Srv) (ps : List Pg) : Mid 0 S { S with pages := ps } := ⟨rfl, fun _ _ h => h, fun h => h, fun r hr ho => ⟨r, hr, ho, rfl⟩⟩
theorem Mid.late {S : Srv} (hu : (S.reqs.map Req.id).Nodup) {r : Req} (hr : r ∈ S.reqs) : Mid 0 S (S.lateOne r) := by
  have h1 : Mid 0 S (S.put r.fresh) := Mid.put hu hr rfl RInv.fresh (fun h => h) (.inl rfl)
  unfold Srv.lateOne
  split
  · refine h1.trans ((Mid.pages _ (relAll (S.put r.fresh).pageSize (S.put r.fresh).pages r.fresh.holds)).trans ?_)
    have hm : r.fresh ∈ (S.put r.fresh).reqs := mem_put_self hr rfl
    have hu1 : ((S.put r.fresh).reqs.map Req.id).Nodup := by rw [put_ids]; exact hu
    exact Mid.put (S := { (S.put r.fresh) with pages := relAll (S.put r.fresh).pageSize (S.put r.fresh).pages r.fresh.holds }) (r := r.fresh) (r' := { r.fresh with holds := [], entries := 0, ended := true, err := 18, kept := -1 }) hu1 hm rfl RInv.late (fun h => by cases h) (.inr rfl)
  · exact h1
/-- None but those that are still to be looked at is late. -/
theorem lates_free {S : Srv} (hw : Wf S) (hu : (S.reqs.map Req.id).Nodup) {ys : List Req} (hn : (ys.map Req.id).Nodup) (hm : ∀ r, r ∈ ys → r ∈ S.reqs) (hall : ∀ r, r ∈ S.reqs → r.ended = false → r ∈ ys) : ∀ i, i ≤ ys.length → Mid 0 S (S.lates ys i) ∧ ∀ q, q ∈ (S.lates ys i).reqs → q.ended = false → S.now ≤ q.deadline ∨ ∃ j, ∃ h : j < ys.length, i ≤ j ∧ ys[j].id = q.id
  | 0, _ => ⟨Mid.refl _ _, fun q hq ho => by
    obtain ⟨j, hj, e⟩ := List.getElem_of_mem (hall q hq ho)
    exact .inr ⟨j, hj, Nat.zero_le _, by rw [e]⟩⟩
  | i + 1, hi => by
    obtain ⟨h1, h2⟩ := lates_free hw hu hn hm hall i (by omega)
    have hlt : i < ys.length := by omega
    have hk := lates_ok hw hn hm i (by omega)
    have hin := hk.oth i hlt (Nat.le_refl _)
    have hui : ((S.lates ys i).reqs.map Req.id).Nodup := by rw [hk.ids]; exact hu
    have e : S.lates ys (i + 1) = (S.lates ys i).lateOne ys[i] := by
      rw [Srv.lates, List.getElem?_eq_getElem hlt]
    have hnow : (S.lates ys i).now = S.now := rest_now hk.rest
    rw [e]
    refine ⟨h1.trans (Mid.late hui hin), fun q hq ho => ?_⟩
    have old : q ∈ (S.lates ys i).reqs → q.id ≠ ys[i].id → S.now ≤ q.deadline ∨ ∃ j, ∃ h : j < ys.length, i + 1 ≤ j ∧ ys[j].id = q.id := fun hq' hne => by
      rcases h2 q hq' ho with a | ⟨j, hj, hij, ej⟩
      · exact .inl a
      · refine .inr ⟨j, hj, ?_, ej⟩
        by_cases c : j = i
        · subst c; exact absurd ej.symm hne
        · omega
    unfold Srv.lateOne at hq
    split at hq
    · rcases mem_put hq with rfl | ⟨h, hne⟩
      · cases ho
      · rcases mem_put h with rfl | ⟨h', hne'⟩
        · exact absurd rfl hne
        · exact old h' hne'
    · rename_i hl
      rcases mem_put hq with rfl | ⟨h', hne'⟩
      · exact .inl (by rw [hnow] at hl; show S.now ≤ ys[i].deadline; omega)
      · exact old h' hne'

/-- What holds of every server here. -/
structure SInv (S : Srv) : Prop where
  wf : Wf S
  uniq : (S.reqs.map Req.id).Nodup
  ids : ∀ r, r ∈ S.reqs → r.id ≤ 9
  dls : ∀ r, r ∈ S.reqs → r.deadline ≤ 100
  ri : ∀ r, r ∈ S.reqs → RInv r
  kept : ∀ r, r ∈ S.reqs → r.kept ≤ (S.log.length : Int)
  rep : S.replay = false
  rec0 : 0 ≤ S.records
  log : (S.log.length : Int) ≤ 28 + 200 * S.records
  voc : S.vocab = 8
  pn : 0 ≤ S.pagesN ∧ S.pagesN ≤ 1000
theorem ids_bound : ∀ (n : Nat) (l : List Int), l.Nodup → (∀ i, i ∈ l → 1 ≤ i ∧ i ≤ (n : Int)) → l.length ≤ n
  | 0, l, _, h => by
    cases l with
    | nil => simp
    | cons a l => have := h a (List.mem_cons_self ..); omega
  | n + 1, l, hn, h => by
    by_cases hm : ((n + 1 : Nat) : Int) ∈ l
    · have h1 := ids_bound n (l.erase ((n + 1 : Nat) : Int)) (hn.erase _) (fun i hi => by
        have hi' := (hn.mem_erase_iff).1 hi
        have := h i hi'.2
        have := hi'.1
        omega)
      have := List.length_erase_of_mem hm
      omega
    · have := ids_bound n l hn (fun i hi => by
        have h1 := h i hi
        have : i ≠ ((n + 1 : Nat) : Int) := fun e => hm (e ▸ hi)
        omega)
      omega
theorem SInv.few {S : Srv} (h : SInv S) : S.reqs.length ≤ 9 := by
  have := ids_bound 9 (S.reqs.map Req.id) h.uniq (fun i hi => by
    obtain ⟨r, hr, rfl⟩ := List.mem_map.1 hi
    have := (h.wf.req r hr).id0
    have := h.ids r hr
    omega)
  simpa using this
theorem sig_ids {l l' : List Req} (h : l'.map Req.sig = l.map Req.sig) : l'.map Req.id = l.map Req.id := by
  have e := congrArg (List.map Prod.fst) h
  simp only [List.map_map] at e
  exact e
theorem sig_mem {l l' : List Req} (h : l'.map Req.sig = l.map Req.sig) {r : Req} (hr : r ∈ l') : ∃ q, q ∈ l ∧ q.sig = r.sig := by
  have : r.sig ∈ l'.map Req.sig := List.mem_map_of_mem hr
  rw [h] at this
  exact List.mem_map.1 this
theorem Wf.map {S : Srv} (h : Wf S) (f : Req → Req) (hf : ∀ r, r ∈ S.reqs → WfReq S.pages.length S.m.vocab r → WfReq S.pages.length S.m.vocab (f r)) : Wf { S with reqs := S.reqs.map f } :=
  ⟨h.n0, h.n1, h.size0, h.size1, h.ptok, fun r hr => by
    obtain ⟨q, hq, rfl⟩ := List.mem_map.1 hr
    exact hf q hq (h.req q hq), h.mdl⟩
theorem WfReq.settled {n : Nat} {v : Int} {r : Req} (h : WfReq n v r) (k : Int) : WfReq n v (settled k r) := by
  unfold Go.Proofs.YtllpoaoboieijaaGreat.settled
  split
  · exact ⟨h.id0, h.id1, h.dl0, h.dl1, h.p0, h.p1, h.m0, h.m1, h.s0, h.s1, h.made0, h.made1, h.toks, h.hold, h.hlen, h.elen, h.hold0, h.tokv, h.openm⟩
  · exact h
theorem settled_sig (n : Int) (r : Req) : (settled n r).sig = r.sig := by unfold settled; split <;> rfl
theorem settled_ended (n : Int) (r : Req) : (settled n r).ended = r.ended := by unfold settled; split <;> rfl
theorem settled_kept (n : Int) (r : Req) (h : r.kept ≤ n) : (settled n r).kept ≤ n := by
  unfold settled; split
  · exact Int.le_refl _
  · exact h

/-- What a tick gives. -/
structure TickInv (S T : Srv) : Prop where
  inv : SInv T
  now : T.now = S.now + 1
  rcs : T.records = S.records + 1
  sig : T.reqs.map Req.sig = S.reqs.map Req.sig
  alive : ∀ r, r ∈ T.reqs → r.ended = false → T.now ≤ r.deadline
theorem tick_inv {S : Srv} (h : SInv S) (hnow : 0 ≤ S.now ∧ S.now ≤ 1000000) (hrec : S.records ≤ 1000000) {ys zs : List Req} (hy : Opens S ys) (hz : Opens (S.later.lates ys ys.length) zs) : TickInv S (S.ticked tokF ys zs) := by
  have hwl : Wf S.later := ⟨h.wf.n0, h.wf.n1, h.wf.size0, h.wf.size1, h.wf.ptok, h.wf.req, h.wf.mdl⟩
  have hyn : (ys.map Req.id).Nodup := (hy.1.map Req.id).nodup_iff.2 ((List.filter_sublist.map Req.id).nodup h.uniq)
  have hym : ∀ r, r ∈ ys → r ∈ S.reqs ∧ (!r.ended) = true := fun r hr => List.mem_filter.1 (hy.1.mem_iff.1 hr)
  have hya : ∀ r, r ∈ S.reqs → r.ended = false → r ∈ ys := fun r hr ho => hy.1.mem_iff.2 (List.mem_filter.2 ⟨hr, by rw [ho]; rfl⟩)
  obtain ⟨m1, fr⟩ := lates_free (S := S.later) hwl h.uniq hyn (fun r hr => (hym r hr).1) hya ys.length (Nat.le_refl _)
  have hk := lates_ok (S := S.later) hwl hyn (fun r hr => (hym r hr).1) ys.length (Nat.le_refl _)
  unfold Srv.ticked
  have hk1 := hk.wf
  have hk2 := hk.ids
  have hk4 := hk.rest
  clear hk
  generalize S.later.lates ys ys.length = S1 at m1 fr hk1 hk2 hk4 hz ⊢
  have hu1 : (S1.reqs.map Req.id).Nodup := by rw [hk2]; exact h.uniq
  have hzn : (zs.map Req.id).Nodup := (hz.1.map Req.id).nodup_iff.2 ((List.filter_sublist.map Req.id).nodup hu1)
  have hzm : ∀ r, r ∈ zs → r ∈ S1.reqs ∧ (!r.ended) = true := fun r hr => List.mem_filter.1 (hz.1.mem_iff.1 hr)
  have hto : TurnsOk S1 (zs.map Req.id) := ⟨hk1, fun i hi => by
    obtain ⟨r, hr, rfl⟩ := List.mem_map.1 hi
    have := hzm r hr
    exact ⟨r, get_of_mem hu1 this.1, this.1, rfl, by simpa using this.2⟩⟩
  have hg := turns_got tokOk (zs.map Req.id) S1 0 hto hu1 hzn
  have hrest : (Srv.turns tokF (zs.map Req.id) S1 0).rest = S.later.rest := hg.rest.trans hk4
  have hmid : Mid 0 S.later (Srv.turns tokF (zs.map Req.id) S1 0) := m1.trans hg.mid
  have hg1 := hg.wf
  have hgo := hg.mid.opn
  clear hg hto m1
  generalize Srv.turns tokF (zs.map Req.id) S1 0 = T1 at hrest hmid hg1 hgo ⊢
  obtain ⟨r1, r2, r3, r4, r5⟩ := rest_all hrest
  have hn1 : T1.now = S.now + 1 := by
    rw [rest_now hrest]
    show wrap64 (S.now + 1) = S.now + 1
    exact wrap64_in (by omega)
  have hl1 : T1.log = S.log := r1
  have hc1 : T1.records = S.records := r2
  have hrc := h.rec0
  have hw1 : wrap64 (T1.records + 1) = S.records + 1 := by rw [hc1]; exact wrap64_in (by omega)
  have hlen : ((T1.record 4 []).log.length : Int) = S.log.length + 11 := by
    show ((T1.log ++ recL T1.records 4 []).length : Int) = _
    rw [List.length_append, recL_length, hl1]; simp
  have hsig : ((T1.record 4 []).settle).reqs.map Req.sig = S.reqs.map Req.sig := by
    refine Eq.trans ?_ hmid.sig
    show (T1.reqs.map (settled _)).map Req.sig = _
    rw [List.map_map]
    apply List.map_congr_left
    intro q _
    exact settled_sig _ _
  have hids := sig_ids hsig
  have hkept := hmid.kp (S.log.length : Int) (by omega) h.kept
  have hri := hmid.ri h.ri
  refine ⟨⟨?_, by rw [hids]; exact h.uniq, ?_, ?_, ?_, ?_, r3.trans h.rep, ?_, ?_, r4.trans h.voc, by rw [show ((T1.record 4 []).settle).pagesN = S.pagesN from r5]; exact h.pn⟩, hn1, hw1, hsig, ?_⟩
  · have hwr : Wf (T1.record 4 []) := ⟨hg1.n0, hg1.n1, hg1.size0, hg1.size1, hg1.ptok, hg1.req, hg1.mdl⟩
    exact hwr.map _ (fun r _ hr => hr.settled _)
  · intro r hr
    obtain ⟨q, hq, e⟩ := sig_mem hsig hr
    rw [← sig_id e]; exact h.ids q hq
  · intro r hr
    obtain ⟨q, hq, e⟩ := sig_mem hsig hr
    rw [← sig_dl e]; exact h.dls q hq
  · intro r hr
    obtain ⟨q, hq, rfl⟩ := List.mem_map.1 (show r ∈ T1.reqs.map (settled (T1.record 4 []).log.length) from hr)
    exact (hri q hq).settled _
  · intro r hr
    obtain ⟨q, hq, rfl⟩ := List.mem_map.1 (show r ∈ T1.reqs.map (settled (T1.record 4 []).log.length) from hr)
    exact settled_kept _ _ (by have := hkept q hq; omega)
  · show 0 ≤ wrap64 (T1.records + 1); rw [hw1]; omega
  · show ((T1.record 4 []).log.length : Int) ≤ 28 + 200 * wrap64 (T1.records + 1)
    rw [hlen, hw1]; have := h.log; omega
  · intro r hr ho
    obtain ⟨q, hq, rfl⟩ := List.mem_map.1 (show r ∈ T1.reqs.map (settled (T1.record 4 []).log.length) from hr)
    rw [settled_ended] at ho
    obtain ⟨q1, hq1, ho1, e⟩ := hgo q hq ho
    have hd : (settled (T1.record 4 []).log.length q).deadline = q1.deadline := by rw [sig_dl (settled_sig _ q), sig_dl e]
    rw [hd]
    show T1.now ≤ _
    have hnl : S.later.now = S.now + 1 := wrap64_in (x := S.now + 1) (by omega)
    rcases fr q1 hq1 ho1 with a | ⟨j, hj, hij, -⟩
    · rw [hn1]; rw [hnl] at a; exact a
    · omega

theorem bad_none {v : Int} : ∀ (l : List Int) (i : Int), 0 ≤ i → ¬ 0 ≤ badAt v l i → ∀ t, t ∈ l → 0 ≤ t ∧ t ≤ v - 1
  | [], _, _, _, t, h => by cases h
  | a :: l, i, hi, hb, t, h => by
    rw [badAt] at hb
    split at hb
    · rename_i e
      rcases List.mem_cons.1 h with rfl | h'
      · simpa [withinB] using e
      · exact bad_none l (i + 1) (by omega) hb t h'
    · exact absurd hi hb
/-- What an accepted request fulfils. -/
structure AskOk (S : Srv) (q : Ask) : Prop where
  id0 : 1 ≤ q.id
  id1 : q.id ≤ 1000000
  dl0 : 0 ≤ q.deadline
  dl1 : q.deadline ≤ 1000000
  m0 : 1 ≤ q.most
  m1 : q.most ≤ 32
  s0 : -2147483648 ≤ q.seed
  s1 : q.seed ≤ 2147483647
  p0 : 1 ≤ q.prompt.length
  p1 : q.prompt.length ≤ 32
  tok : ∀ t, t ∈ q.prompt → 0 ≤ t ∧ t ≤ S.vocab - 1
  new : S.get q.id = none
theorem askOk {S : Srv} {q : Ask} (h : accAll S q = 0) : AskOk S q := by
  unfold accAll at h
  split at h
  · cases h
  · rename_i h1
    split at h
    · cases h
    · rename_i h2
      split at h
      · cases h
      · rename_i h3
        unfold accF at h
        split at h
        · cases h
        · rename_i h4
          simp only [Bool.not_eq_false] at h1 h2
          simp only [Ask.plain, withinB, Bool.and_eq_true, decide_eq_true_eq] at h1 h2
          simp only [Bool.not_eq_true, decide_eq_false_iff_not] at h3
          obtain ⟨⟨⟨a, b⟩, c⟩, d⟩ := h1
          refine ⟨a.1, a.2, b.1, b.2, c.1, c.2, d.1, d.2, by omega, by omega, bad_none _ 0 (by omega) h3, ?_⟩
          simpa using h4
def newReq (q : Ask) : Req := ⟨q.id, q.deadline, q.prompt, q.most, q.seed, q.prompt, 0, [], 0, false, 0, 0, false, false⟩
def Srv.took (S : Srv) (q : Ask) : Srv := ({ S with reqs := S.reqs ++ [newReq q] } : Srv).record 1 (q.id :: q.deadline :: q.most :: q.seed :: (q.prompt.length : Int) :: q.prompt)
theorem took_inv {S : Srv} (h : SInv S) (hrec : S.records ≤ 1000000) {q : Ask} (hq : AskOk S q) (h9 : q.id ≤ 9) (hd : q.deadline ≤ 100) : SInv (S.took q) ∧ (S.took q).now = S.now ∧ (S.took q).records = S.records + 1 ∧ (S.took q).reqs = S.reqs ++ [newReq q] := by
  have hrc := h.rec0
  have hw1 : wrap64 (S.records + 1) = S.records + 1 := wrap64_in (by omega)
  have hlen : ((S.took q).log.length : Int) = S.log.length + (11 + 4 * (5 + q.prompt.length)) := by
    show ((S.log ++ recL S.records 1 (q.id :: q.deadline :: q.most :: q.seed :: (q.prompt.length : Int) :: q.prompt)).length : Int) = _
    rw [List.length_append, recL_length]; simp; omega
  have hmem : ∀ r, r ∈ (S.took q).reqs → r ∈ S.reqs ∨ r = newReq q := fun r hr => by
    rcases List.mem_append.1 (show r ∈ S.reqs ++ [newReq q] from hr) with a | a
    · exact .inl a
    · exact .inr (List.mem_singleton.1 a)
  have hwn : WfReq S.pages.length S.m.vocab (newReq q) := by
    have hv : S.m.vocab = 8 := by rw [h.wf.mdl]; rfl
    have hp0 := hq.p0
    exact ⟨hq.id0, hq.id1, hq.dl0, hq.dl1, hq.p0, hq.p1, hq.m0, hq.m1, hq.s0, hq.s1, Int.le_refl _, by have := hq.m0; show (0 : Int) ≤ q.most; omega, by show (q.prompt.length : Int) = q.prompt.length + 0; omega, fun k hk => (by cases (show k ∈ ([] : List Int) from hk)), by show ((0 : Nat) : Int) ≤ 0; omega, by show (0 : Int) ≤ q.prompt.length; omega, fun _ => rfl, fun t ht => (by
      have := hq.tok t ht
      have := h.voc
      rw [hv]; omega), fun _ => by have := hq.m0; show (0 : Int) < q.most; omega⟩
  refine ⟨⟨⟨h.wf.n0, h.wf.n1, h.wf.size0, h.wf.size1, h.wf.ptok, fun r hr => ?_, h.wf.mdl⟩, ?_, fun r hr => ?_, fun r hr => ?_, fun r hr => ?_, fun r hr => ?_, h.rep, ?_, ?_, h.voc, h.pn⟩, rfl, hw1, rfl⟩
  · rcases hmem r hr with a | rfl
    · exact h.wf.req r a
    · exact hwn
  · show ((S.reqs ++ [newReq q]).map Req.id).Nodup
    rw [List.map_append, List.nodup_append]
    refine ⟨h.uniq, by simp, fun a ha b hb e => ?_⟩
    have : b = q.id := by simpa [newReq] using hb
    exact get_none hq.new (by rw [← this, ← e]; exact ha)
  · rcases hmem r hr with a | rfl
    · exact h.ids r a
    · exact h9
  · rcases hmem r hr with a | rfl
    · exact h.dls r a
    · exact hd
  · rcases hmem r hr with a | rfl
    · exact h.ri r a
    · exact ⟨rfl, fun _ j hj => absurd hj (by show ¬ j < (0 : Int).toNat; simp), fun e => by cases e⟩
  · rcases hmem r hr with a | rfl
    · have := h.kept r a; omega
    · show (0 : Int) ≤ _; omega
  · show 0 ≤ wrap64 (S.records + 1); rw [hw1]; omega
  · show ((S.took q).log.length : Int) ≤ 28 + 200 * wrap64 (S.records + 1)
    rw [hlen, hw1]; have := h.log; have := hq.p1; omega
theorem srv0_inv {cf : Cnf} (h : cf.ok = true) : SInv (srv0 cf) := by
  simp only [Cnf.ok, withinB, Bool.and_eq_true, decide_eq_true_eq] at h
  obtain ⟨⟨⟨a, b⟩, c⟩, d⟩ := h
  refine ⟨⟨?_, ?_, b.1, b.2, ?_, fun r hr => (by cases hr), rfl⟩, List.nodup_nil, fun r hr => (by cases hr), fun r hr => (by cases hr), fun r hr => (by cases hr), fun r hr => (by cases hr), rfl, Int.le_refl _, ?_, rfl, by show 0 ≤ cf.pages ∧ cf.pages ≤ 1000; omega⟩
  · show 1 ≤ (List.replicate cf.pages.toNat Pg.zero).length
    rw [List.length_replicate]; omega
  · show (List.replicate cf.pages.toNat Pg.zero).length ≤ 64
    rw [List.length_replicate]; omega
  · intro p hp
    rw [List.eq_of_mem_replicate (show p ∈ List.replicate cf.pages.toNat Pg.zero from hp)]
    show ([] : List Int).length ≤ 8
    simp
  · show ((headB cf).length : Int) ≤ 28 + 200 * 0
    rw [headB_len]; omega
end Go.Proofs.YtllpoaoboieijaaGreat
/-
  served: models and serve work.
-/
namespace Go.Proofs.YtllpoaoboieijaaGreat
open Go.RowKit

theorem Below.of_ext {own own' : Nat → Lb} {w w' : World} {T : Lb → Prop} {n : Nat} (x : Ext own w own' w' T) (hn : n ≤ w.heap.size) (h : ∀ b, b < n → ¬ T (own b)) : Below n w w' :=
  ⟨x.os, x.tape, x.output, x.size, fun b hb => x.keep b (by omega) (h b hb)⟩
theorem demoM_voc : demoM.vocab = 8 := rfl
theorem get_nil {S : Srv} (h : S.reqs = []) (id : Int) : S.get id = none := by unfold Srv.get; rw [h]; rfl

theorem ticked_nil {S T : Srv} (h : TickInv S T) (h0 : S.reqs = []) (id : Int) : T.get id = none := get_nil (by
  have := h.sig
  rw [h0] at this
  simpa using this) id

set_option maxRecDepth 100000 in
set_option maxHeartbeats 1600000 in
theorem served_any (w : World) : Calls Tryz.prog 8 #[] w fun e w' => e = .returned (.bool true) ∧ Hid (Below w.heap.size w w') := by
  have hcf : (⟨1, 4, 1, 1⟩ : Cnf).ok = true := by decide
  have HD := Lib.hid (demo_any w)
  have HN := Lib.hid (fun (wx : World) (p : MPl) (hp : DemoAt wx p) => new_ok (fun _ => .other) p ⟨1, 4, 1, 1⟩ hcf wx hp)
  have HI := Lib.hid (srv0_inv hcf)
  simp only [Cnf.val] at HN
  simp only [demoCells] at HD HN
  go_enter Tryz.func8, Tryz.ntmps8
  go_wp2_with (first
    | (go_at_call 7; refine (HN.out w1 p HP.out).mono ?_; rintro e w2 ⟨sb, own', L, rfl, h2, hsb, hx⟩; have H2 := Lib.hid h2; have X2 := Lib.hid hx; have HT := Lib.hid (tick_any compute_any next_said tokOk own' sb L (srv0 ⟨1, 4, 1, 1⟩) w2 h2 HI.out.wf (by decide) (by rw [show (srv0 ⟨1, 4, 1, 1⟩).log = headB ⟨1, 4, 1, 1⟩ from rfl, headB_len]; decide) (by decide)); clear h2 hsb hx)
    | (go_at_call 5; refine HD.out.mono ?_; rintro e w1 ⟨p, rfl, HB, HP, -⟩)
    | (go_at_call 14; refine HT.out.mono ?_; rintro e w3 ⟨ys, zs, hys, hzs, rfl, own3, L3, h3, -, x3⟩; have HTI := Lib.hid (tick_inv HI.out ⟨by decide, by decide⟩ (by decide) hys hzs); have H3 := Lib.hid h3; have X3 := Lib.hid x3; have HNOW := Lib.hid (now_any own3 sb L3 _ w3 h3); have HCN := Lib.hid (cancel_none own3 sb L3 _ 2 w3 h3 (ticked_nil HTI.out rfl 2)); clear hys hzs h3 x3)
    | (go_at_call 12; refine HNOW.out.mono ?_; rintro e w4 ⟨rfl, rfl⟩; rw [HTI.out.now]; dsimp only [srv0])
    | (go_at_call 21; refine HCN.out.mono ?_; rintro e w5 ⟨rfl, k, rfl⟩))
  go_ret
  refine ⟨rfl, Lib.hid ?_⟩
  have hb := HB.out
  have b2 : Below w.heap.size w1 w2 := Below.of_ext X2.out hb.size (fun _ _ f => f)
  have b3 := Below.of_ext X3.out (Nat.le_trans hb.size X2.out.size) (fun b hb' => by
    rw [X2.out.lab b (by have := hb.size; omega)]; exact Tin_other)
  have b4 := hb.trans (b2.trans b3)
  exact ⟨b4.os, b4.tape, b4.output, b4.size, b4.block⟩
end Go.Proofs.YtllpoaoboieijaaGreat
