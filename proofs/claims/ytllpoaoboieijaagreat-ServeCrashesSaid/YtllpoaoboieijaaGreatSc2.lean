/-
  ServeCrashes: what holds of every server; what a call leaves of the answers.
  ServeCrashes: the calls that are recorded, and what came of them.
-/
import Derived.Test.YtllpoaoboieijaaGreatSc1
/-
  ServeCrashes: what holds of every server; what a call leaves of the answers.
-/
namespace Go.Proofs.YtllpoaoboieijaaGreat
open Go.RowKit

/-- What holds of every server of ServeCrashes. -/
structure CInv (S : Srv) : Prop where
  wf : Wf S
  uniq : (S.reqs.map Req.id).Nodup
  ids : ∀ r, r ∈ S.reqs → r.id ≤ 9
  dls : ∀ r, r ∈ S.reqs → r.deadline ≤ 200
  kept0 : ∀ r, r ∈ S.reqs → 0 ≤ r.kept
  kept : ∀ r, r ∈ S.reqs → r.kept ≤ (S.log.length : Int)
  fin : ∀ r, r ∈ S.reqs → r.ended = true → r.err = 0 → 1 ≤ r.made
  rec0 : 0 ≤ S.records
  log : (S.log.length : Int) ≤ 28 + 200 * S.records
  log0 : 28 ≤ S.log.length
  voc : S.vocab = 8
  pn : 0 ≤ S.pagesN ∧ S.pagesN ≤ 1000
theorem CInv.few {S : Srv} (h : CInv S) : S.reqs.length ≤ 9 := by
  have := ids_bound 9 (S.reqs.map Req.id) h.uniq (fun i hi => by
    obtain ⟨r, hr, rfl⟩ := List.mem_map.1 hi
    have := (h.wf.req r hr).id0
    have := h.ids r hr
    omega)
  simpa using this
theorem CInv.fl {S : Srv} (h : CInv S) (a : Int) (b : Bool) : CInv (S.fl a b) :=
  ⟨⟨h.wf.n0, h.wf.n1, h.wf.size0, h.wf.size1, h.wf.ptok, h.wf.req, h.wf.mdl⟩, h.uniq, h.ids, h.dls, h.kept0, h.kept, h.fin, h.rec0, h.log, h.log0, h.voc, h.pn⟩
theorem CInv.of_fl {S : Srv} {a : Int} {b : Bool} (h : CInv (S.fl a b)) : CInv S :=
  ⟨⟨h.wf.n0, h.wf.n1, h.wf.size0, h.wf.size1, h.wf.ptok, h.wf.req, h.wf.mdl⟩, h.uniq, h.ids, h.dls, h.kept0, h.kept, h.fin, h.rec0, h.log, h.log0, h.voc, h.pn⟩
/-- What has ended was ended before, with the same answer, or ended in this call. -/
def Fate (S T : Srv) : Prop := ∀ r', r' ∈ T.reqs → r'.ended = true → r'.kept = (T.log.length : Int) ∨ ∃ r, r ∈ S.reqs ∧ r.ended = true ∧ r.sig = r'.sig ∧ r.err = r'.err ∧ r.tokens = r'.tokens ∧ r.kept = r'.kept
/-- A recorded call. -/
structure Rcd (S T : Srv) (k : Int) (l : List Int) : Prop where
  inv : CInv T
  fate : Fate S T
  rcs : T.records = S.records + 1
  log : T.log = S.log ++ recL S.records k l
theorem rcd_settle {S S1 : Srv} (h : CInv S) (hrec : S.records ≤ 1000000) (hw : Wf S1) (hm : Mov S S1) (hr : S1.log = S.log ∧ S1.records = S.records ∧ S1.vocab = S.vocab ∧ S1.pagesN = S.pagesN) (k : Int) (l : List Int) (hl : l.length ≤ 40) :
    Rcd S ((S1.record k l).settle) k l := by
  obtain ⟨r1, r2, r4, r5⟩ := hr
  have hrc := h.rec0
  have hw1 : wrap64 (S1.records + 1) = S.records + 1 := by rw [r2]; exact wrap64_in (by omega)
  have hlog : (S1.record k l).log = S.log ++ recL S.records k l := by
    show S1.log ++ recL S1.records k l = _
    rw [r1, r2]
  have hlen : ((S1.record k l).log.length : Int) = S.log.length + (11 + 4 * l.length) := by
    rw [hlog, List.length_append, recL_length]; omega
  have hsig : ((S1.record k l).settle).reqs.map Req.sig = S.reqs.map Req.sig := by
    refine Eq.trans ?_ hm.sig
    show (S1.reqs.map (settled _)).map Req.sig = _
    rw [List.map_map]
    apply List.map_congr_left
    intro q _
    exact settled_sig _ _
  have hids := sig_ids hsig
  -- each request of before, of between, of behind
  have hback : ∀ r', r' ∈ ((S1.record k l).settle).reqs → ∃ r q, r ∈ S.reqs ∧ To r q ∧ q ∈ S1.reqs ∧ r' = settled ((S1.record k l).log.length) q := fun r' hr' => by
    obtain ⟨q, hq, rfl⟩ := List.mem_map.1 (show r' ∈ S1.reqs.map (settled (S1.record k l).log.length) from hr')
    obtain ⟨r, hr, e⟩ := hm.back q hq
    exact ⟨r, q, hr, e, hq, rfl⟩
  have hkq : ∀ r q, r ∈ S.reqs → To r q → q.kept = -1 ∨ q.kept = r.kept := fun r q hr e => by
    cases eq : q.ended with
    | false => exact .inr (e.opn eq)
    | true =>
      cases er : r.ended with
      | true => exact .inr (e.keep er).2.2.2.2
      | false => exact .inl (e.new er eq).1
  have hset : ∀ n : Int, ∀ q : Req, 0 ≤ q.kept → settled n q = q := fun n q hq => by unfold settled; rw [if_neg (by omega)]
  have hset' : ∀ n : Int, ∀ q : Req, q.kept = -1 → (settled n q).kept = n := fun n q hq => by unfold settled; rw [if_pos (by omega)]
  refine ⟨⟨?_, by rw [hids]; exact h.uniq, ?_, ?_, ?_, ?_, ?_, ?_, ?_, ?_, r4.trans h.voc, by rw [show ((S1.record k l).settle).pagesN = S.pagesN from r5]; exact h.pn⟩, ?_, hw1, hlog⟩
  · have hwr : Wf (S1.record k l) := ⟨hw.n0, hw.n1, hw.size0, hw.size1, hw.ptok, hw.req, hw.mdl⟩
    exact hwr.map _ (fun r _ hr => hr.settled _)
  · intro r hr
    obtain ⟨q, hq, e⟩ := sig_mem hsig hr
    rw [← sig_id e]; exact h.ids q hq
  · intro r hr
    obtain ⟨q, hq, e⟩ := sig_mem hsig hr
    rw [← sig_dl e]; exact h.dls q hq
  · intro r' hr'
    obtain ⟨r, q, hr, e, hq, rfl⟩ := hback r' hr'
    have h0 := h.kept0 r hr
    rcases hkq r q hr e with a | a
    · rw [hset' _ _ a]; omega
    · rw [hset _ _ (by omega)]; omega
  · intro r' hr'
    show r'.kept ≤ ((S1.record k l).log.length : Int)
    obtain ⟨r, q, hr, e, hq, rfl⟩ := hback r' hr'
    have h0 := h.kept0 r hr
    have h1 := h.kept r hr
    rcases hkq r q hr e with a | a
    · rw [hset' _ _ a]; omega
    · rw [hset _ _ (by omega)]; omega
  · intro r' hr' he hz
    obtain ⟨r, q, hr, e, hq, rfl⟩ := hback r' hr'
    rw [settled_ended] at he
    have e1 : (settled ((S1.record k l).log.length) q).err = q.err := by unfold settled; split <;> rfl
    have e2 : (settled ((S1.record k l).log.length) q).made = q.made := by unfold settled; split <;> rfl
    rw [e1] at hz
    rw [e2]
    cases er : r.ended with
    | true =>
      obtain ⟨-, b, -, d, -⟩ := e.keep er
      rw [d]; exact h.fin r hr er (b ▸ hz)
    | false => exact (e.new er he).2 hz
  · show 0 ≤ wrap64 (S1.records + 1); rw [hw1]; omega
  · show ((S1.record k l).log.length : Int) ≤ 28 + 200 * wrap64 (S1.records + 1)
    rw [hlen, hw1]; have := h.log; omega
  · show 28 ≤ (S1.record k l).log.length
    have := h.log0; omega
  · intro r' hr' he
    show r'.kept = ((S1.record k l).log.length : Int) ∨ _
    obtain ⟨r, q, hr, e, hq, rfl⟩ := hback r' hr'
    rw [settled_ended] at he
    cases er : r.ended with
    | false => exact .inl (hset' _ _ (e.new er he).1)
    | true =>
      obtain ⟨a, b, c, d, f⟩ := e.keep er
      have h0 := h.kept0 r hr
      rw [hset _ _ (by omega)]
      exact .inr ⟨r, hr, er, e.sig.symm, b.symm, c.symm, f.symm⟩

theorem tick_rcd {S : Srv} (h : CInv S) (hnow : 0 ≤ S.now ∧ S.now ≤ 1000000) (hrec : S.records ≤ 1000000) {ys zs : List Req} (hy : Opens S ys) (hz : Opens (S.later.lates ys ys.length) zs) :
    Rcd S (S.ticked tokF ys zs) 4 [] ∧ (S.ticked tokF ys zs).now = S.now + 1 := by
  have hwl : Wf S.later := ⟨h.wf.n0, h.wf.n1, h.wf.size0, h.wf.size1, h.wf.ptok, h.wf.req, h.wf.mdl⟩
  have hyn : (ys.map Req.id).Nodup := opens_nodup h.uniq hy
  have hym : ∀ r, r ∈ ys → r ∈ S.reqs ∧ (!r.ended) = true := fun r hr => List.mem_filter.1 (hy.1.mem_iff.1 hr)
  have hya : ∀ r, r ∈ ys → r.ended = false := fun r hr => by have := (hym r hr).2; simpa using this
  have m1 : Mov S.later (S.later.lates ys ys.length) := Mov.lates (S := S.later) hwl h.uniq hyn (fun r hr => (hym r hr).1) hya ys.length (Nat.le_refl _)
  have hk := lates_ok (S := S.later) hwl hyn (fun r hr => (hym r hr).1) ys.length (Nat.le_refl _)
  unfold Srv.ticked
  have hk1 := hk.wf
  have hk2 := hk.ids
  have hk4 := hk.rest
  clear hk
  generalize S.later.lates ys ys.length = S1 at m1 hk1 hk2 hk4 hz ⊢
  have hu1 : (S1.reqs.map Req.id).Nodup := by rw [hk2]; exact h.uniq
  have hzn : (zs.map Req.id).Nodup := opens_nodup hu1 hz
  have hzm : ∀ r, r ∈ zs → r ∈ S1.reqs ∧ (!r.ended) = true := fun r hr => List.mem_filter.1 (hz.1.mem_iff.1 hr)
  have hto : TurnsOk S1 (zs.map Req.id) := ⟨hk1, fun i hi => by
    obtain ⟨r, hr, rfl⟩ := List.mem_map.1 hi
    have := hzm r hr
    exact ⟨r, get_of_mem hu1 this.1, this.1, rfl, by simpa using this.2⟩⟩
  have hg := turns_got tokOk (zs.map Req.id) S1 0 hto hu1 hzn
  have hrest : (Srv.turns tokF (zs.map Req.id) S1 0).rest = S.later.rest := hg.rest.trans hk4
  have hmov : Mov S.later (Srv.turns tokF (zs.map Req.id) S1 0) := m1.trans (Mov.turns tokOk _ S1 0 hto hu1 hzn)
  have hwf := hg.wf
  generalize Srv.turns tokF (zs.map Req.id) S1 0 = T1 at hrest hmov hwf ⊢
  obtain ⟨r1, r2, r3, r4, r5⟩ := rest_all hrest
  refine ⟨rcd_settle h hrec hwf ⟨hmov.sig, hmov.back⟩ ⟨r1, r2, r4, r5⟩ 4 [] (by simp), ?_⟩
  show T1.now = S.now + 1
  rw [rest_now hrest]
  show wrap64 (S.now + 1) = S.now + 1
  exact wrap64_in (by omega)
theorem cancel_rcd {S : Srv} (h : CInv S) (hrec : S.records ≤ 1000000) {r : Req} (hr : r ∈ S.reqs) (ho : r.ended = false) : Rcd S (S.cancelled r) 2 [r.id] ∧ (S.cancelled r).now = S.now :=
  ⟨rcd_settle h hrec (h.wf.endReq hr 19) (Mov.ends h.uniq hr ho (by decide)) ⟨rfl, rfl, rfl, rfl⟩ 2 [r.id] (by simp), rfl⟩
def Ask.args (q : Ask) : List Int := q.id :: q.deadline :: q.most :: q.seed :: (q.prompt.length : Int) :: q.prompt
theorem took_rcd {S : Srv} (h : CInv S) (hrec : S.records ≤ 1000000) {q : Ask} (hq : AskOk S q) (h9 : q.id ≤ 9) (hd : q.deadline ≤ 200) : Rcd S (S.took q) 1 q.args ∧ (S.took q).now = S.now := by
  have hrc := h.rec0
  have hw1 : wrap64 (S.records + 1) = S.records + 1 := wrap64_in (by omega)
  have hlen : ((S.took q).log.length : Int) = S.log.length + (11 + 4 * (5 + q.prompt.length)) := by
    show ((S.log ++ recL S.records 1 (q.id :: q.deadline :: q.most :: q.seed :: (q.prompt.length : Int) :: q.prompt)).length : Int) = _
    rw [List.length_append, recL_length]; simp; omega
  have hmem : ∀ r, r ∈ (S.took q).reqs → r ∈ S.reqs ∨ r = newReq q := fun r hr => by
    rcases List.mem_append.1 (show r ∈ S.reqs ++ [newReq q] from hr) with a | a
    · exact .inl a
    · exact .inr (List.mem_singleton.1 a)
  have hwn : WfReq S.pages.length S.m.vocab (newReq q) := by
    have hv : S.m.vocab = 8 := by rw [h.wf.mdl]; rfl
    have hp0 := hq.p0
    exact ⟨hq.id0, hq.id1, hq.dl0, hq.dl1, hq.p0, hq.p1, hq.m0, hq.m1, hq.s0, hq.s1, Int.le_refl _, by have := hq.m0; show (0 : Int) ≤ q.most; omega, by show (q.prompt.length : Int) = q.prompt.length + 0; omega, fun k hk => (by cases (show k ∈ ([] : List Int) from hk)), by show ((0 : Nat) : Int) ≤ 0; omega, by show (0 : Int) ≤ q.prompt.length; omega, fun _ => rfl, fun t ht => (by
      have := hq.tok t ht
      have := h.voc
      rw [hv]; omega), fun _ => by have := hq.m0; show (0 : Int) < q.most; omega⟩
  refine ⟨⟨⟨⟨h.wf.n0, h.wf.n1, h.wf.size0, h.wf.size1, h.wf.ptok, fun r hr => ?_, h.wf.mdl⟩, ?_, fun r hr => ?_, fun r hr => ?_, fun r hr => ?_, fun r hr => ?_, fun r hr => ?_, ?_, ?_, ?_, h.voc, h.pn⟩, fun r hr he => ?_, hw1, rfl⟩, rfl⟩
  · rcases hmem r hr with a | rfl
    · exact h.wf.req r a
    · exact hwn
  · show ((S.reqs ++ [newReq q]).map Req.id).Nodup
    rw [List.map_append, List.nodup_append]
    refine ⟨h.uniq, by simp, fun a ha b hb e => ?_⟩
    have : b = q.id := by simpa [newReq] using hb
    exact get_none hq.new (by rw [← this, ← e]; exact ha)
  · rcases hmem r hr with a | rfl
    · exact h.ids r a
    · exact h9
  · rcases hmem r hr with a | rfl
    · exact h.dls r a
    · exact hd
  · rcases hmem r hr with a | rfl
    · exact h.kept0 r a
    · exact Int.le_refl _
  · rcases hmem r hr with a | rfl
    · have := h.kept r a; omega
    · show (0 : Int) ≤ _; omega
  · rcases hmem r hr with a | rfl
    · exact h.fin r a
    · intro he; cases he
  · show 0 ≤ wrap64 (S.records + 1); rw [hw1]; omega
  · show ((S.took q).log.length : Int) ≤ 28 + 200 * wrap64 (S.records + 1)
    rw [hlen, hw1]; have := h.log; have := hq.p1; omega
  · have := h.log0; omega
  · rcases hmem r hr with a | rfl
    · exact .inr ⟨r, a, he, rfl, rfl, rfl, rfl⟩
    · cases he
theorem srv0_cinv {cf : Cnf} (h : cf.ok = true) : CInv (srv0 cf) := by
  have k := srv0_inv h
  exact ⟨k.wf, k.uniq, k.ids, fun r hr => (by cases hr), fun r hr => (by cases hr), k.kept, fun r hr => (by cases hr), k.rec0, k.log, by show 28 ≤ (headB cf).length; rw [headB_len]; omega, k.voc, k.pn⟩
end Go.Proofs.YtllpoaoboieijaaGreat
/-
  ServeCrashes: the calls that are recorded, and what came of them.
-/
namespace Go.Proofs.YtllpoaoboieijaaGreat
open Go.RowKit

inductive Cmd where
  | tick
  | sub (q : Ask)
  | can (id : Int)
def Cmd.kind : Cmd → Int
  | .tick => 4
  | .sub _ => 1
  | .can _ => 2
def Cmd.args : Cmd → List Int
  | .tick => []
  | .sub q => q.args
  | .can id => [id]
/-- A call that succeeds. -/
def Did : Cmd → Srv → Srv → Prop
  | .tick, S, T => ∃ ys zs, Opens S ys ∧ Opens (S.later.lates ys ys.length) zs ∧ T = S.ticked tokF ys zs
  | .sub q, S, T => accAll S q = 0 ∧ q.id ≤ 9 ∧ q.deadline ≤ 200 ∧ T = S.took q
  | .can id, S, T => ∃ r, S.get id = some r ∧ r.ended = false ∧ T = S.cancelled r
theorem did_fl (a : Int) (b : Bool) {c : Cmd} {S T : Srv} (h : Did c S T) : Did c (S.fl a b) (T.fl a b) := by
  cases c with
  | tick =>
    obtain ⟨ys, zs, hy, hz, rfl⟩ := h
    refine ⟨ys, zs, hy, ?_, (fl_ticked a b tokF S ys zs).symm⟩
    rw [show (S.fl a b).later = S.later.fl a b from rfl, fl_lates]
    exact hz
  | sub q =>
    obtain ⟨h1, h2, h3, rfl⟩ := h
    exact ⟨h1, h2, h3, rfl⟩
  | can id =>
    obtain ⟨r, h1, h2, rfl⟩ := h
    exact ⟨r, h1, h2, rfl⟩
theorem did_uniq {c : Cmd} {S T U : Srv} (hi : CInv S) (h : Did c S T) (k : Did c S U) : T = U := by
  cases c with
  | tick =>
    obtain ⟨ys, zs, hy, hz, rfl⟩ := h
    obtain ⟨ys', zs', hy', hz', rfl⟩ := k
    obtain rfl := opens_uniq hi.uniq hy hy'
    have hwl : Wf S.later := ⟨hi.wf.n0, hi.wf.n1, hi.wf.size0, hi.wf.size1, hi.wf.ptok, hi.wf.req, hi.wf.mdl⟩
    have hym : ∀ r, r ∈ ys → r ∈ S.reqs ∧ (!r.ended) = true := fun r hr => List.mem_filter.1 (hy.1.mem_iff.1 hr)
    have hk := lates_ok (S := S.later) hwl (opens_nodup hi.uniq hy) (fun r hr => (hym r hr).1) ys.length (Nat.le_refl _)
    rw [opens_uniq (by rw [hk.ids]; exact hi.uniq) hz hz']
  | sub q =>
    obtain ⟨h1, h2, h3, rfl⟩ := h
    obtain ⟨k1, k2, k3, rfl⟩ := k
    rfl
  | can id =>
    obtain ⟨r, h1, h2, rfl⟩ := h
    obtain ⟨r', k1, k2, rfl⟩ := k
    rw [h1] at k1
    injection k1 with e
    rw [e]
theorem did_rcd {c : Cmd} {S T : Srv} (hi : CInv S) (hnow : 0 ≤ S.now ∧ S.now ≤ 1000000) (hrec : S.records ≤ 1000000) (h : Did c S T) : Rcd S T c.kind c.args ∧ S.now ≤ T.now ∧ T.now ≤ S.now + 1 := by
  cases c with
  | tick =>
    obtain ⟨ys, zs, hy, hz, rfl⟩ := h
    have := tick_rcd hi hnow hrec hy hz
    exact ⟨this.1, by omega, by omega⟩
  | sub q =>
    obtain ⟨h1, h2, h3, rfl⟩ := h
    have := took_rcd hi hrec (askOk h1) h2 h3
    exact ⟨this.1, by omega, by omega⟩
  | can id =>
    obtain ⟨r, h1, h2, rfl⟩ := h
    have hm := get_mem h1
    have := cancel_rcd hi hrec hm.1 h2
    rw [hm.2] at this
    exact ⟨this.1, by omega, by omega⟩

/-- n calls, from a server without requests on. -/
structure Hist (cf : Cnf) (n : Nat) (c : Nat → Cmd) (f : Nat → Srv) : Prop where
  zero : f 0 = (srv0 cf).fl 0 false
  step : ∀ i, i < n → Did (c i) (f i) (f (i + 1))
  flat : ∀ i, i ≤ n → (f i).fl 0 false = f i
section
variable {cf : Cnf} {n : Nat} {c : Nat → Cmd} {f : Nat → Srv}
structure HAt (i : Nat) (S : Srv) : Prop where
  inv : CInv S
  now0 : 0 ≤ S.now
  now1 : S.now ≤ (i : Int)
  rcs : S.records = (i : Int)
theorem Hist.at' (h : Hist cf n c f) (hok : cf.ok = true) (hn : n ≤ 1000) : ∀ i, i ≤ n → HAt i (f i)
  | 0, _ => by
    rw [h.zero]
    exact ⟨(srv0_cinv hok).fl 0 false, Int.le_refl _, Int.le_refl _, rfl⟩
  | i + 1, hi => by
    have k := h.at' hok hn i (by omega)
    have k0 := k.now0; have k1 := k.now1; have k2 := k.rcs
    obtain ⟨a, b, d⟩ := did_rcd k.inv ⟨k.now0, by omega⟩ (by omega) (h.step i (by omega))
    have := a.rcs
    exact ⟨a.inv, by omega, by omega, by omega⟩
theorem Hist.rcd (h : Hist cf n c f) (hok : cf.ok = true) (hn : n ≤ 1000) {i : Nat} (hi : i < n) : Rcd (f i) (f (i + 1)) (c i).kind (c i).args := by
  have k := h.at' hok hn i (by omega)
  have k0 := k.now0; have k1 := k.now1; have k2 := k.rcs
  exact (did_rcd k.inv ⟨k.now0, by omega⟩ (by omega) (h.step i hi)).1
theorem Hist.logs (h : Hist cf n c f) (hok : cf.ok = true) (hn : n ≤ 1000) {i : Nat} (hi : i < n) : (f (i + 1)).log = (f i).log ++ recL i (c i).kind (c i).args := by
  rw [(h.rcd hok hn hi).log, (h.at' hok hn i (by omega)).rcs]
theorem Hist.loglt (h : Hist cf n c f) (hok : cf.ok = true) (hn : n ≤ 1000) {i : Nat} (hi : i < n) : (f i).log.length < (f (i + 1)).log.length := by
  rw [h.logs hok hn hi, List.length_append, recL_length]; omega
theorem Hist.logmono (h : Hist cf n c f) (hok : cf.ok = true) (hn : n ≤ 1000) {i : Nat} : ∀ d, i + d ≤ n → (f i).log.length ≤ (f (i + d)).log.length
  | 0, _ => Nat.le_refl _
  | d + 1, hd => Nat.le_trans (h.logmono hok hn d (by omega)) (Nat.le_of_lt (h.loglt hok hn (i := i + d) (by omega)))
theorem Hist.cut (h : Hist cf n c f) {m : Nat} (hm : m ≤ n) : Hist cf m c f := ⟨h.zero, fun i hi => h.step i (by omega), fun i hi => h.flat i (by omega)⟩
theorem Hist.more (h : Hist cf n c f) {S T : Srv} (hS : S.fl 0 false = f n) {d : Cmd} (hd : Did d S T) :
    Hist cf (n + 1) (fun i => if i = n then d else c i) (fun i => if i = n + 1 then T.fl 0 false else f i) := by
  refine ⟨?_, fun i hi => ?_, fun i hi => ?_⟩
  · simp only [show ¬ (0 = n + 1) by omega, if_false]; exact h.zero
  · by_cases e : i = n
    · subst e
      simp only [if_true, show ¬ (i = i + 1) by omega, if_false]
      rw [← hS]
      exact did_fl 0 false hd
    · simp only [show ¬ (i + 1 = n + 1) by omega, show ¬ (i = n + 1) by omega, e, if_false]
      exact h.step i (by omega)
  · by_cases e : i = n + 1
    · simp only [e, if_true]; rfl
    · simp only [e, if_false]; exact h.flat i (by omega)
/-- The rest of the log behind the first j calls. -/
def Hist.rest (c : Nat → Cmd) : Nat → Nat → List Int
  | _, 0 => []
  | j, d + 1 => recL j (c j).kind (c j).args ++ Hist.rest c (j + 1) d
theorem Hist.tail (h : Hist cf n c f) (hok : cf.ok = true) (hn : n ≤ 1000) : ∀ (d j : Nat), j + d = n → (f n).log = (f j).log ++ Hist.rest c j d
  | 0, j, e => by
    have : j = n := by omega
    subst this; simp [Hist.rest]
  | d + 1, j, e => by
    rw [h.tail hok hn d (j + 1) (by omega), h.logs hok hn (by omega : j < n), Hist.rest, List.append_assoc]

/-- What was told of a request lies in the log, if the log is as long as that. -/
theorem Hist.back (h : Hist cf n c f) (hok : cf.ok = true) (hn : n ≤ 1000) {m k : Nat} (hk : m < n → k < (f (m + 1)).log.length) : ∀ d, m + d ≤ n → ∀ r, r ∈ (f (m + d)).reqs → r.ended = true → r.kept ≤ (k : Int) →
    ∃ q, q ∈ (f m).reqs ∧ q.ended = true ∧ q.sig = r.sig ∧ q.err = r.err ∧ q.tokens = r.tokens ∧ q.kept = r.kept
  | 0, _, r, hr, he, _ => ⟨r, hr, he, rfl, rfl, rfl, rfl⟩
  | d + 1, hd, r, hr, he, hkr => by
    rcases (h.rcd hok hn (i := m + d) (by omega)).fate r hr he with e | ⟨q, hq, e1, e2, e3, e4, e5⟩
    · have h1 := hk (by omega)
      have h2 := h.logmono hok hn (i := m + 1) d (by omega)
      rw [show m + 1 + d = m + d + 1 by omega] at h2
      omega
    · obtain ⟨q', hq', f1, f2, f3, f4, f5⟩ := h.back hok hn hk d (by omega) q hq e1 (by omega)
      exact ⟨q', hq', f1, f2.trans e2, f3.trans e3, f4.trans e4, f5.trans e5⟩
end
/-- What Answer says. -/
def ansOf (S : Srv) (id : Int) : List Int × Int × Bool :=
  match S.get id with
  | none => ([], 13, false)
  | some r => if (r.ended && (S.replay || decide (r.kept ≤ S.synced))) = true then (if r.err = 0 then (r.tokens.drop r.prompt.length, 0, true) else ([], r.err, true)) else ([], 17, false)
theorem sig_prompt {q r : Req} (h : q.sig = r.sig) : q.prompt = r.prompt := congrArg (fun x => x.2.2.1) h
/-- What was told before the crash is told behind it. -/
theorem told_again {cf : Cnf} {n : Nat} {c : Nat → Cmd} {f : Nat → Srv} (h : Hist cf n c f) (hok : cf.ok = true) (hn : n ≤ 1000) {S R : Srv} {m k : Nat} (hm : m ≤ n) (hk : m < n → k < (f (m + 1)).log.length)
    (hS : S.fl 0 false = f n) (hrep : S.replay = false) (hsy : S.synced ≤ (k : Int)) (hR : R.fl 0 false = f m) (hRs : R.synced = (R.log.length : Int)) (id : Int) (ht : (ansOf S id).2.2 = true) : ansOf R id = ansOf S id := by
  have hR2 : R.reqs = (f m).reqs := by rw [← hR]; rfl
  have hS2 : S.reqs = (f n).reqs := by rw [← hS]; rfl
  have hRl : R.log = (f m).log := by rw [← hR]; rfl
  unfold ansOf at ht ⊢
  cases hg : S.get id with
  | none => rw [hg] at ht; cases ht
  | some r =>
    rw [hg] at ht
    simp only at ht ⊢
    by_cases hto : (r.ended && (S.replay || decide (r.kept ≤ S.synced))) = true
    · rw [if_pos hto]
      have hgm := get_mem hg
      simp only [hrep, Bool.false_or, Bool.and_eq_true, decide_eq_true_eq] at hto
      obtain ⟨d, rfl⟩ : ∃ d, n = m + d := ⟨n - m, by omega⟩
      obtain ⟨q, hq, e1, e2, e3, e4, e5⟩ := h.back hok hn hk d (Nat.le_refl _) r (by rw [← hS2]; exact hgm.1) hto.1 (by omega)
      have hi := (h.at' hok hn m hm).inv
      have hgq : R.get id = some q := by
        rw [← hgm.2, ← sig_id e2]
        exact get_of_mem (by rw [hR2]; exact hi.uniq) (by rw [hR2]; exact hq)
      rw [hgq]
      simp only
      have hkq := hi.kept q hq
      have : (q.ended && (R.replay || decide (q.kept ≤ R.synced))) = true := by
        rw [e1, hRs, hRl]; simp [hkq]
      rw [if_pos this, e3, e4, sig_prompt e2]
    · rw [if_neg hto] at ht; cases ht
end Go.Proofs.YtllpoaoboieijaaGreat
