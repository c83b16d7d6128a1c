/-
  Sharing and the next token: the plain side.
  Tick: the plain side.
  A look-up among the requests.
  Sync, Cancel of one that is not there, Answer.
-/
import Derived.Lib.SliceRun
import Derived.Maps.OwnOps
import Derived.OwnWalk
import Derived.Test.YtllpoaoboieijaaGreatSa9
import Derived.Test.YtllpoaoboieijaaGreatSa11
import Derived.Test.YtllpoaoboieijaaGreatSa12
/-
  Sharing and the next token: the plain side.
-/
namespace Go.Proofs.YtllpoaoboieijaaGreat
open Go.RowKit

theorem same_shareStep {S : Srv} (hw : Wf S) (hu : (S.reqs.map Req.id).Nodup) {r : Req} (hr : r ∈ S.reqs) (hs : (S.shared r).2 = true) {p : Pg} (hp : S.pages[(S.shared r).1.toNat]? = some p) : Same S (S.shareStep r (S.shared r).1 p) := by
  have hsl := shared_lt hs
  exact Same.put (r' := { r with holds := r.holds ++ [(S.shared r).1], entries := r.entries + S.pageSize }) hw hu hr _ (by simp) (mem_set_len hw.ptok (hw.ptok p (List.mem_of_getElem? hp))) rfl
    ((hw.req r hr).share ⟨hsl.1, hsl.2.1⟩ hw.size0 hsl.2.2.1)
theorem same_shareF : ∀ n (S : Srv) (r : Req), Wf S → (S.reqs.map Req.id).Nodup → r ∈ S.reqs → Same S (shareF n S r).1 ∧ (shareF n S r).2.bare = r.bare ∧ (shareF n S r).2 ∈ (shareF n S r).1.reqs
  | 0, _, _, hw, _, hr => ⟨Same.refl hw, rfl, hr⟩
  | n + 1, S, r, hw, hu, hr => by
    rw [shareF]
    split
    · rename_i hs
      split
      · rename_i p hp
        have h1 := same_shareStep hw hu hr hs hp
        obtain ⟨a, b, c⟩ := same_shareF n _ _ h1.wf (h1.uniq hu) (shareStep_mem hr _ p)
        exact ⟨h1.trans a, b, c⟩
      · exact ⟨Same.refl hw, rfl, hr⟩
    · exact ⟨Same.refl hw, rfl, hr⟩

/-- A request behind its next token. -/
def Req.next (r : Req) (t : Int) : Req :=
  if t = 0 ∨ r.made + 1 = r.most then { r with tokens := r.tokens ++ [t], made := r.made + 1, ended := true, err := 0, kept := -1 } else { r with tokens := r.tokens ++ [t], made := r.made + 1 }
theorem next_id (r : Req) (t : Int) : (r.next t).id = r.id := by unfold Req.next; split <;> rfl
theorem bare_core {q r : Req} (h : q.bare = r.bare) : q.id = r.id ∧ q.deadline = r.deadline ∧ q.prompt = r.prompt ∧ q.most = r.most ∧ q.seed = r.seed ∧ q.tokens = r.tokens ∧ q.made = r.made ∧ q.ended = r.ended ∧ q.err = r.err ∧ q.kept = r.kept := by
  cases q; cases r
  simp only [Req.bare, Req.mk.injEq] at h
  simp only
  obtain ⟨a, b, c, d, e, f, g, _, _, i, j, k, _, _⟩ := h
  exact ⟨a, b, c, d, e, f, g, i, j, k⟩
theorem rest_m {S S' : Srv} (h : S'.rest = S.rest) : S'.m = S.m := by
  have e : S'.rest.m = S.rest.m := by rw [h]
  exact e
theorem next_bare {q r : Req} (h : q.bare = r.bare) (t : Int) : (q.next t).bare = (r.next t).bare := by
  obtain ⟨a, b, c, d, e, f, g, i, j, k⟩ := bare_core h
  unfold Req.next
  rw [g, d]
  split
  · simp only [Req.bare, a, b, c, e, f]
  · simp only [Req.bare, a, b, c, e, f, i, j, k]
/-- One request alone has changed. -/
structure Step (S S' : Srv) (r : Req) (r' : Req) : Prop where
  wf : Wf S'
  bare : S'.reqs.map Req.bare = S.reqs.map fun q => if q.id = r.id then r'.bare else q.bare
  np : S'.pages.length = S.pages.length
  rest : S'.rest = S.rest
theorem next_step {S : Srv} (hw : Wf S) {r : Req} (hr : r ∈ S.reqs) (ho : r.ended = false) (t : Int) (ht : 0 ≤ t ∧ t < S.m.vocab) : Step S (S.nextTok r t) r (r.next t) := by
  have hwr := hw.req r hr
  have hm := hwr.openm ho
  have htok : ∀ x, x ∈ r.tokens ++ [t] → 0 ≤ x ∧ x < S.m.vocab := fun x hx => by
    rcases List.mem_append.1 hx with h1 | h1
    · exact hwr.tokv x h1
    · rw [List.mem_singleton.1 h1]; exact ht
  unfold Srv.nextTok Srv.endOrNot Req.next
  by_cases e : t = 0 ∨ r.made + 1 = r.most
  · rw [if_pos e, if_pos e]
    unfold Srv.endReq
    have e1 := put_put ({ S with pages := relAll S.pageSize S.pages r.holds } : Srv) { r with tokens := r.tokens ++ [t], made := r.made + 1, worked := true } { r with tokens := r.tokens ++ [t], made := r.made + 1, worked := true, holds := [], entries := 0, ended := true, err := 0, kept := -1 } rfl
    have e2 : ({ (S.put { r with tokens := r.tokens ++ [t], made := r.made + 1, worked := true }) with pages := relAll S.pageSize S.pages r.holds } : Srv) = ({ S with pages := relAll S.pageSize S.pages r.holds } : Srv).put { r with tokens := r.tokens ++ [t], made := r.made + 1, worked := true } := rfl
    show Step S ((({ (S.put { r with tokens := r.tokens ++ [t], made := r.made + 1, worked := true }) with pages := relAll S.pageSize S.pages r.holds } : Srv)).put { r with tokens := r.tokens ++ [t], made := r.made + 1, worked := true, holds := [], entries := 0, ended := true, err := 0, kept := -1 }) r _
    rw [e2, e1]
    refine ⟨hw.put _ (relAll_length _ _ _) (relAll_toks _ _ _ hw.ptok) _ ?_, ?_, relAll_length _ _ _, rfl⟩
    · exact ⟨hwr.id0, hwr.id1, hwr.dl0, hwr.dl1, hwr.p0, hwr.p1, hwr.m0, hwr.m1, hwr.s0, hwr.s1, by have := hwr.made0; simp only; omega, by simp only; omega, by have := hwr.toks; simp; omega, fun k hk => by simp at hk, by simp, by simp; omega, fun _ => rfl, htok, fun h => by simp at h⟩
    · simp only [Srv.put, List.map_map]
      apply List.map_congr_left
      intro q hq
      simp only [Function.comp]
      split <;> rfl
  · rw [if_neg e, if_neg e]
    have e3 : r.made + 1 ≠ r.most := fun c => e (.inr c)
    refine ⟨hw.put S.pages rfl hw.ptok _ ?_, ?_, rfl, rfl⟩
    · exact ⟨hwr.id0, hwr.id1, hwr.dl0, hwr.dl1, hwr.p0, hwr.p1, hwr.m0, hwr.m1, hwr.s0, hwr.s1, by have := hwr.made0; simp only; omega, by simp only; omega, by have := hwr.toks; simp; omega, hwr.hold, hwr.hlen, by have := hwr.elen; simp; omega, hwr.hold0, htok, fun _ => by simp only; omega⟩
    · simp only [Srv.put, List.map_map]
      apply List.map_congr_left
      intro q hq
      simp only [Function.comp]
      split <;> rfl

/-- What holds of the next token. -/
def TokOk (tokOf : Mdl → List Int → Int → Int → Int) : Prop := ∀ (S : Srv) (r : Req), Wf S → r ∈ S.reqs → r.ended = false → 0 ≤ tokOf S.m r.tokens r.seed r.made ∧ tokOf S.m r.tokens r.seed r.made < S.m.vocab
/-- A piece of work leaves all requests as they were, or one token is made. -/
theorem work_step {tokOf : Mdl → List Int → Int → Int → Int} (hto : TokOk tokOf) {S : Srv} (hw : Wf S) (hu : (S.reqs.map Req.id).Nodup) {r : Req} (hr : r ∈ S.reqs) (ho : r.ended = false) {beh : List Int} (hnb : r.id ∉ beh) :
    Same S (S.work tokOf r beh) ∨ Step S (S.work tokOf r beh) r (r.next (tokOf S.m r.tokens r.seed r.made)) := by
  obtain ⟨a, b, c⟩ := same_shareF (r.tokens.length + 1) S r hw hu hr
  rw [show shareF (r.tokens.length + 1) S r = S.share r from rfl] at a b c
  unfold Srv.work
  obtain ⟨hid, -, -, hmo, hsd, htk, hmd, hen, -, -⟩ := bare_core b
  split
  · rename_i he
    exact .inl (a.trans (same_compute a.wf (a.uniq hu) c (by rw [hid]; exact hnb) he))
  · right
    have hm : (S.share r).1.m = S.m := rest_m a.rest
    have ht := hto S r hw hr ho
    have h2 := next_step a.wf c (hen.trans ho) (tokOf S.m r.tokens r.seed r.made) (by rw [hm]; exact ht)
    rw [htk, hsd, hmd, hm]
    refine ⟨h2.wf, ?_, h2.np.trans a.np, h2.rest.trans a.rest⟩
    rw [h2.bare, hid, next_bare b]
    have e := congrArg (List.map fun q : Req => if q.id = r.id then (r.next (tokOf S.m r.tokens r.seed r.made)).bare else q) a.bare
    simp only [List.map_map] at e
    exact e
end Go.Proofs.YtllpoaoboieijaaGreat
/-
  Tick: the plain side.
-/
namespace Go.Proofs.YtllpoaoboieijaaGreat
open Go.RowKit

def Req.fresh (r : Req) : Req := { r with worked := false, lost := false }
/-- A request at the beginning of a tick: it ends where it is late. -/
def Srv.lateOne (S : Srv) (r : Req) : Srv := if r.deadline < S.now then (S.put r.fresh).endReq r.fresh 18 else S.put r.fresh
def Srv.lates (S : Srv) (ys : List Req) : Nat → Srv
  | 0 => S
  | i + 1 => match ys[i]? with
    | some r => (S.lates ys i).lateOne r
    | none => S.lates ys i
theorem fresh_id (r : Req) : r.fresh.id = r.id := rfl
theorem WfReq.fresh {n : Nat} {v : Int} {r : Req} (h : WfReq n v r) : WfReq n v r.fresh := ⟨h.id0, h.id1, h.dl0, h.dl1, h.p0, h.p1, h.m0, h.m1, h.s0, h.s1, h.made0, h.made1, h.toks, h.hold, h.hlen, h.elen, h.hold0, h.tokv, h.openm⟩
structure LateOk (S S' : Srv) (r : Req) : Prop where
  wf : Wf S'
  ids : S'.reqs.map Req.id = S.reqs.map Req.id
  np : S'.pages.length = S.pages.length
  rest : S'.rest = S.rest
  oth : ∀ q, q ∈ S.reqs → q.id ≠ r.id → q ∈ S'.reqs
theorem put_oth {S : Srv} {r' q : Req} (hq : q ∈ S.reqs) (hne : q.id ≠ r'.id) : q ∈ (S.put r').reqs := by
  simp only [Srv.put, List.mem_map]
  exact ⟨q, hq, by rw [if_neg hne]⟩
theorem put_fresh_wf {S : Srv} (hw : Wf S) {r : Req} (hr : r ∈ S.reqs) : Wf (S.put r.fresh) := hw.put S.pages rfl hw.ptok r.fresh (hw.req r hr).fresh
theorem late_ok {S : Srv} (hw : Wf S) {r : Req} (hr : r ∈ S.reqs) : LateOk S (S.lateOne r) r := by
  have h1 := put_fresh_wf hw hr
  have hm : r.fresh ∈ (S.put r.fresh).reqs := mem_put_self hr rfl
  unfold Srv.lateOne
  split
  · refine ⟨h1.endReq hm 18, ?_, relAll_length _ _ _, rfl, fun q hq hne => ?_⟩
    · exact (put_ids _ _).trans (put_ids _ _)
    · exact put_oth (S := { (S.put r.fresh) with pages := _ }) (put_oth hq hne) hne
  · exact ⟨h1, put_ids _ _, rfl, rfl, fun q hq hne => put_oth hq hne⟩
/-- What holds while the late ones are ended. -/
structure LatesOk (S : Srv) (ys : List Req) (i : Nat) : Prop where
  wf : Wf (S.lates ys i)
  ids : (S.lates ys i).reqs.map Req.id = S.reqs.map Req.id
  np : (S.lates ys i).pages.length = S.pages.length
  rest : (S.lates ys i).rest = S.rest
  oth : ∀ j (h : j < ys.length), i ≤ j → ys[j] ∈ (S.lates ys i).reqs
theorem lates_ok {S : Srv} (hw : Wf S) {ys : List Req} (hn : (ys.map Req.id).Nodup) (hm : ∀ r, r ∈ ys → r ∈ S.reqs) : ∀ i, i ≤ ys.length → LatesOk S ys i
  | 0, _ => ⟨hw, rfl, rfl, rfl, fun j h _ => hm _ (List.getElem_mem h)⟩
  | i + 1, hi => by
    have h := lates_ok hw hn hm i (by omega)
    have hlt : i < ys.length := by omega
    have h2 := late_ok h.wf (h.oth i hlt (Nat.le_refl _))
    have e : S.lates ys (i + 1) = (S.lates ys i).lateOne ys[i] := by
      rw [Srv.lates, List.getElem?_eq_getElem hlt]
    refine ⟨by rw [e]; exact h2.wf, by rw [e, h2.ids, h.ids], by rw [e, h2.np, h.np], by rw [e, h2.rest, h.rest], fun j hj hij => ?_⟩
    rw [e]
    refine h2.oth _ (h.oth j hj (by omega)) (fun c => ?_)
    exact (List.pairwise_iff_getElem.1 (List.pairwise_map.1 hn)) i j hlt hj (by omega) c.symm

/-- One turn of a request: n were worked on. -/
def Srv.turnOne (tokOf : Mdl → List Int → Int → Int → Int) (S : Srv) (n : Int) (id : Int) (rest : List Int) : Srv × Int :=
  match S.get id with
  | none => (S, n)
  | some r => if r.lost = true then (S, n) else (S.work tokOf r rest, if ((S.work tokOf r rest).get id).any Req.worked = true then n + 1 else n)
def Srv.turns (tokOf : Mdl → List Int → Int → Int → Int) : List Int → Srv → Int → Srv
  | [], S, _ => S
  | id :: rest, S, n => if S.batch ≤ n then S else Srv.turns tokOf rest (S.turnOne tokOf n id rest).1 (S.turnOne tokOf n id rest).2
/-- What holds while the turns go on. -/
structure TurnsOk (S : Srv) (ids : List Int) : Prop where
  wf : Wf S
  opn : ∀ i, i ∈ ids → ∃ r, S.get i = some r ∧ r ∈ S.reqs ∧ r.id = i ∧ r.ended = false
theorem Step.ids {S S' : Srv} {r r' : Req} (h : Step S S' r r') (hid : r'.id = r.id) : S'.reqs.map Req.id = S.reqs.map Req.id := by
  have e := congrArg (List.map Req.id) h.bare
  simp only [List.map_map] at e
  refine Eq.trans ?_ (e.trans ?_)
  · rfl
  · apply List.map_congr_left
    intro q _
    simp only [Function.comp]
    split
    · rename_i c; rw [bare_id, hid, c]
    · rfl
theorem Step.mem {S S' : Srv} {r r' q : Req} (h : Step S S' r r') (hq : q ∈ S.reqs) (hne : q.id ≠ r.id) : ∃ q1, q1 ∈ S'.reqs ∧ q1.bare = q.bare := by
  have : (if q.id = r.id then r'.bare else q.bare) ∈ S'.reqs.map Req.bare := by
    rw [h.bare]; exact List.mem_map.2 ⟨q, hq, rfl⟩
  rw [if_neg hne] at this
  exact List.mem_map.1 this
theorem turn_ok {tokOf : Mdl → List Int → Int → Int → Int} (hto : TokOk tokOf) {S : Srv} {i : Int} {ids : List Int} (h : TurnsOk S (i :: ids)) (hu : (S.reqs.map Req.id).Nodup) (hn : i ∉ ids) (n : Int) :
    TurnsOk (S.turnOne tokOf n i ids).1 ids ∧ (S.turnOne tokOf n i ids).1.reqs.map Req.id = S.reqs.map Req.id ∧ (S.turnOne tokOf n i ids).1.rest = S.rest := by
  obtain ⟨r, hg, hr, hid, ho⟩ := h.opn i (List.mem_cons_self ..)
  unfold Srv.turnOne
  rw [hg]
  simp only
  split
  · exact ⟨⟨h.wf, fun j hj => h.opn j (List.mem_cons_of_mem _ hj)⟩, rfl, rfl⟩
  · rcases work_step hto h.wf hu hr ho (beh := ids) (by rw [hid]; exact hn) with hs | hs
    · refine ⟨⟨hs.wf, fun j hj => ?_⟩, hs.ids, hs.rest⟩
      obtain ⟨q, hq, hqm, hqi, hqo⟩ := h.opn j (List.mem_cons_of_mem _ hj)
      obtain ⟨q1, hq1, hb⟩ := hs.symm_mem hqm
      have hc := bare_core hb
      refine ⟨q1, ?_, hq1, hc.1.trans hqi, hc.2.2.2.2.2.2.2.1.trans hqo⟩
      rw [← hqi, ← hc.1]
      exact get_of_mem (hs.uniq hu) hq1
    · have hids := hs.ids (next_id _ _)
      refine ⟨⟨hs.wf, fun j hj => ?_⟩, hids, hs.rest⟩
      obtain ⟨q, hq, hqm, hqi, hqo⟩ := h.opn j (List.mem_cons_of_mem _ hj)
      obtain ⟨q1, hq1, hb⟩ := hs.mem hqm (by rw [hqi, hid]; intro c; exact hn (c ▸ hj))
      have hc := bare_core hb
      refine ⟨q1, ?_, hq1, hc.1.trans hqi, hc.2.2.2.2.2.2.2.1.trans hqo⟩
      rw [← hqi, ← hc.1]
      exact get_of_mem (by rw [hids]; exact hu) hq1
end Go.Proofs.YtllpoaoboieijaaGreat
/-
  A look-up among the requests.
-/
namespace Go.Proofs.YtllpoaoboieijaaGreat
open Go.RowKit

def entOf (L : Lay) (r : Req) : MapEntry := { key := .int .i64 r.id, val := .pointer (some ⟨L.rb r.id, 0, none⟩), born := L.born r.id }
def ptrOf (L : Lay) : Option Req → Value
  | some r => .pointer (some ⟨L.rb r.id, 0, none⟩)
  | none => .pointer none
theorem findNow_reqs (L : Lay) (id : Int) : ∀ (l : List Req) (n : Nat), ∃ o : Option (Nat × Value), Instr.findNow (.int .i64) (.int .i64 id) (l.map (entOf L)) n = some o ∧ o.map Prod.snd = (l.find? fun r => decide (r.id = id)).map fun r => Value.pointer (some ⟨L.rb r.id, 0, none⟩)
  | [], n => ⟨none, rfl, rfl⟩
  | r :: l, n => by
    simp only [List.map_cons, Instr.findNow, entOf, Instr.sameNow, if_true]
    by_cases e : r.id = id
    · refine ⟨some (n, .pointer (some ⟨L.rb r.id, 0, none⟩)), by simp [e], by simp [e]⟩
    · obtain ⟨o, h1, h2⟩ := findNow_reqs L id l (n + 1)
      refine ⟨o, ?_, ?_⟩
      · have : (id == r.id) = false := by simp; exact fun h => e h.symm
        simp only [this]
        exact h1
      · rw [h2]; simp [e]
theorem lookup_run {own : Nat → Lb} {w : World} {sb : Nat} {L : Lay} {S : Srv} (h : SrvAt own w sb L S) (id : Int) :
    (Instr.lookup 67 (.map (some L.mb)) (.int .i64 id) false).run Tryz.prog w = .ok (ptrOf L (S.get id)) w := by
  obtain ⟨o, h1, h2⟩ := findNow_reqs L id S.reqs 0
  have hz : (zeroValue 73).run Tryz.prog w = .ok (.pointer none) w := by simp [go_sem]
  have hm := MapKept.run_getObj_map (P := Tryz.prog) h.mmap
  have hu : Tryz.prog.underlying 3 = some (.int .i64) := Tryz.underlying3
  have hc : ∀ b, (Instr.checkKey b 10000 3 (.int .i64 id)).run Tryz.prog w = .ok () w := fun b => by
    have := MapKept.run_checkKey (w := w) (P := Tryz.prog) (k := .int .i64 id) hu (show MapKept.IsKey (.int .i64) (.int .i64 id) from rfl) b 9999
    exact this
  have hf : (Instr.findKey 3 (.int .i64 id) (S.reqs.map fun r => ({ key := .int .i64 r.id, val := .pointer (some ⟨L.rb r.id, 0, none⟩), born := L.born r.id } : MapEntry))).run Tryz.prog w = .ok o w := MapKept.run_findKey hu h1
  have he : ((S.reqs.map fun r => ({ key := .int .i64 r.id, val := .pointer (some ⟨L.rb r.id, 0, none⟩), born := L.born r.id } : MapEntry)).toArray).toList = S.reqs.map (entOf L) := rfl
  cases hg : S.get id with
  | none =>
    have ho : o = none := by
      rw [show S.reqs.find? (fun r => decide (r.id = id)) = none from hg] at h2
      cases o with
      | none => rfl
      | some x => simp at h2
    subst ho
    simp [Instr.lookup, run_underlying Tryz.underlying67, hm, hc, hf, hz, Result.andThen, ptrOf]
  | some r =>
    rw [show S.reqs.find? (fun r => decide (r.id = id)) = some r from hg] at h2
    cases o with
    | none => simp at h2
    | some x =>
      have hx : x.2 = .pointer (some ⟨L.rb r.id, 0, none⟩) := by simpa using h2
      simp [Instr.lookup, run_underlying Tryz.underlying67, hm, hc, hf, Result.andThen, ptrOf, hx]
end Go.Proofs.YtllpoaoboieijaaGreat
/-
  Sync, Cancel of one that is not there, Answer.
-/
namespace Go.Proofs.YtllpoaoboieijaaGreat
open Go.RowKit

theorem drew_two (w : World) (a b : Nat) : ∃ k, (w.drewN a).drewN b = w.drewN k := ⟨a + b, by simp [World.drewN, Nat.add_assoc]⟩

section
variable {ops : Array Oper} {rest : List Oper} {o : Oper} {a : Act} {Q : Exit → Act → World → Prop}
theorem wl_lookup {own : Nat → Lb} {w : World} {sb : Nat} {L : Lay} {S : Srv} (h : SrvAt own w sb L S) (hg : o.guard = none) (m x : Operand) (hop : o.op = Op.lookup 67 m x false) (hm : a.eval m = .map (some L.mb)) (id : Int) (hx : a.eval x = .int .i64 id)
    (hK : wpList Tryz.prog ops Q rest (a.put o.dst (ptrOf L (S.get id))) w) : wpList Tryz.prog ops Q (o :: rest) a w := by
  refine wpList_plain hg fun K' hK' => ?_
  have hrun := lookup_run h id
  unfold Oper.wp
  simp [execOp, hop, hm, hx, hrun, Result.andThen]
  exact hK' _ _ hK
end

set_option maxRecDepth 100000 in
set_option maxHeartbeats 800000 in
theorem sync_any (own : Nat → Lb) (sb : Nat) (L : Lay) (S : Srv) (w : World) (h : SrvAt own w sb L S) :
    Calls Tryz.prog 16 #[.pointer (some ⟨sb, 0, none⟩)] w fun e w' => e = .returned (.tuple #[]) ∧ Goes own sb L Tin { S with synced := (S.log.length : Int) } w w' := by
  obtain ⟨LA, lc, hlv, -, -⟩ := h.log.shape
  have c2 := h.blk.cell
  have f2 := h.blk.frozen
  simp only [srvCells] at c2
  rw [hlv] at c2
  have x0 : Ext own w own (w.setCell ⟨sb, 21, none⟩ (.int .i64 S.log.length)) (fun l => l = .srv) := Ext.setCell _ _ h.lab
  have hne0 : ∀ k, L.logv.ownBlock = some k → k ≠ sb := fun k hk e => by
    have := h.log.2 k hk
    rw [e, h.lab] at this; cases this
  have h0 := h.srv_upd x0 (fun l t => .inl t) { S with synced := (S.log.length : Int) } L.logv rfl rfl rfl (h.blk.set 21 _) (h.log.same (fun k hk => Below.heap_setCell _ _ _ _ (hne0 k hk)) (fun _ _ => rfl))
  have H0 := Lib.hid h0
  have X0 := Lib.hid (x0.mono (T' := Tin) (fun l t => by rw [show l = Lb.srv from t]; intro f; cases f))
  clear h0 x0 hne0 h hlv
  go_enter Tryz.func16, Tryz.ntmps16
  go_wp2
  go_end0
  exact ⟨rfl, own, _, H0.out, rfl, X0.out⟩

set_option maxRecDepth 100000 in
set_option maxHeartbeats 800000 in
theorem cancel_none (own : Nat → Lb) (sb : Nat) (L : Lay) (S : Srv) (id : Int) (w : World) (h : SrvAt own w sb L S) (hg : S.get id = none) :
    Calls Tryz.prog 21 #[.pointer (some ⟨sb, 0, none⟩), .int .i64 id] w fun e w' => e = .returned (.int .i64 13) ∧ ∃ k, w' = w.drewN k := by
  have c2 := h.blk.cell
  simp only [srvCells] at c2
  have H := Lib.hid h
  have HG := Lib.hid hg
  clear h hg
  go_enter Tryz.func21, Tryz.ntmps21
  go_wp2_with (at_lookup; refine wl_lookup H.out rfl _ _ rfl rfl id rfl ?_; rw [HG.out]; unfold ptrOf)
  go_ret
  exact ⟨rfl, ⟨0, rfl⟩⟩

set_option maxRecDepth 100000 in
set_option maxHeartbeats 800000 in
theorem answer_none (own : Nat → Lb) (sb : Nat) (L : Lay) (S : Srv) (id : Int) (w : World) (h : SrvAt own w sb L S) (hg : S.get id = none) :
    Calls Tryz.prog 17 #[.pointer (some ⟨sb, 0, none⟩), .int .i64 id] w fun e w' => e = .returned (.tuple #[.slice none 0 0, .int .i64 13, .bool false]) ∧ ∃ k, w' = w.drewN k := by
  have c2 := h.blk.cell
  simp only [srvCells] at c2
  have H := Lib.hid h
  have HG := Lib.hid hg
  clear h hg
  go_enter Tryz.func17, Tryz.ntmps17
  go_wp2_with (at_lookup; refine wl_lookup H.out rfl _ _ rfl rfl id rfl ?_; rw [HG.out]; unfold ptrOf)
  go_ret3
  exact ⟨rfl, ⟨0, rfl⟩⟩

set_option maxRecDepth 100000 in
set_option maxHeartbeats 800000 in
theorem answer_untold (own : Nat → Lb) (sb : Nat) (L : Lay) (S : Srv) (r : Req) (w : World) (h : SrvAt own w sb L S) (hg : S.get r.id = some r) (ht : (r.ended && (S.replay || decide (r.kept ≤ S.synced))) = false) :
    Calls Tryz.prog 17 #[.pointer (some ⟨sb, 0, none⟩), .int .i64 r.id] w fun e w' => e = .returned (.tuple #[.slice none 0 0, .int .i64 17, .bool false]) ∧ ∃ k, w' = w.drewN k := by
  have c2 := h.blk.cell
  simp only [srvCells] at c2
  have H := Lib.hid h
  have HG := Lib.hid hg
  have HTD := Lib.hid (told_any own sb L S r w h (get_mem hg).1)
  rw [ht] at HTD
  clear h hg ht
  go_enter Tryz.func17, Tryz.ntmps17
  go_wp2_with (first | (at_lookup; refine wl_lookup H.out rfl _ _ rfl rfl r.id rfl ?_; rw [HG.out]; unfold ptrOf) | (go_at_call 39; refine HTD.out.mono ?_; rintro e w1 ⟨rfl, k, rfl⟩))
  go_ret3
  exact ⟨rfl, ⟨_, rfl⟩⟩

set_option maxRecDepth 100000 in
set_option maxHeartbeats 800000 in
theorem answer_err (own : Nat → Lb) (sb : Nat) (L : Lay) (S : Srv) (r : Req) (w : World) (h : SrvAt own w sb L S) (hg : S.get r.id = some r) (ht : (r.ended && (S.replay || decide (r.kept ≤ S.synced))) = true) (he : r.err ≠ 0) :
    Calls Tryz.prog 17 #[.pointer (some ⟨sb, 0, none⟩), .int .i64 r.id] w fun e w' => e = .returned (.tuple #[.slice none 0 0, .int .i64 r.err, .bool true]) ∧ ∃ k, w' = w.drewN k := by
  have c2 := h.blk.cell
  simp only [srvCells] at c2
  have d2 := (h.req r (get_mem hg).1).blk.cell
  simp only [reqCells] at d2
  have H := Lib.hid h
  have HG := Lib.hid hg
  have HTD := Lib.hid (told_any own sb L S r w h (get_mem hg).1)
  rw [ht] at HTD
  have he1 : (r.err != 0) = true := by simpa using he
  have he2 : (r.err == 0) = false := by simpa using he
  clear h hg ht
  go_enter Tryz.func17, Tryz.ntmps17
  go_wp2_with (first | (at_lookup; refine wl_lookup H.out rfl _ _ rfl rfl r.id rfl ?_; rw [HG.out]; unfold ptrOf) | (go_at_call 39; refine HTD.out.mono ?_; rintro e w1 ⟨rfl, k, rfl⟩))
  go_quiet (fail)
  go_wp2
  go_ret3
  exact ⟨rfl, drew_two _ _ _⟩

theorem add_plain (b o j : Nat) : (⟨b, o, none⟩ : Addr).add j = ⟨b, o + j, none⟩ := by
  by_cases h : j = 0 <;> simp [Addr.add, h]

/-- A fresh list of whole numbers. -/
def NewInts (w w' : World) (e : Ending) (l : List Int) : Prop := ∃ v, e = .returned v ∧ Below w.heap.size w w' ∧ w'.ownsRow w.heap.size 3 1 v l.length (ints l)
theorem one_cells (l : List Int) : ∀ u ∈ ints l, u.oneCell' = true := by
  intro u hu
  obtain ⟨x, -, rfl⟩ := List.mem_map.1 hu
  rfl

set_option maxRecDepth 100000 in
set_option maxHeartbeats 800000 in
theorem clone_any (xs : List Int) (b o c : Nat) (w : World) (h : RdV w (.slice (some ⟨b, o, none⟩) xs.length c) (ints xs)) (h0 : 0 < xs.length) (h1 : xs.length ≤ 1000) :
    Calls Tryz.prog 29 #[.slice (some ⟨b, o, none⟩) xs.length c] w fun e w' => NewInts w w' e xs := by
  have hil : (ints xs).length = xs.length := by simp [ints]
  have hnews : ∀ (j : Nat) u, (ints xs)[j]? = some u → (w.alloc (.cells #[] 3)).cell? ((⟨b, o, none⟩ : Addr).add j) = some u := fun j u hj => by
    have hjl : j < xs.length := by
      have := (List.getElem?_eq_some_iff.1 hj).1
      omega
    obtain ⟨b', o', c', hv, hc⟩ := h.get (i := j) (by omega)
    have hbb : b' = b ∧ o' = o := by injection hv with e1; injection e1 with e1; injection e1 with e2 e3; exact ⟨e2.symm, e3.symm⟩
    obtain ⟨rfl, rfl⟩ := hbb
    have hlt := World.block_lt_of_cell? w _ hc
    rw [show ((⟨b', o', none⟩ : Addr).add j) = ⟨b', o' + j, none⟩ from add_plain _ _ _, World.cell?_of_block (a := ⟨b', o' + j, none⟩) (w := w) (Below.heap_alloc _ _ _ hlt), hc]
    rw [← hj, List.getElem?_eq_getElem (by omega)]
  have hown : (w.alloc (.cells #[] 3)).ownsRow w.heap.size 3 1 (.slice (some ⟨w.heap.size, 0, none⟩) 0 0) 0 [] :=
    ⟨rfl, .inr ⟨w.heap.size, 0, #[], rfl, Nat.le_refl _, heap_alloc_new w _, Nat.le_refl _, Nat.zero_le _, rfl, rfl⟩⟩
  have HNEWS := Lib.hid hnews
  have HOWN := Lib.hid hown
  have HIL := Lib.hid hil
  have H01 := Lib.hid (And.intro h0 h1)
  clear h hnews hown hil h0 h1
  obtain ⟨i0, hi, hz0, hz1, hz2⟩ := info_parts info3
  have heq : (binOp .eql 22 (.slice (some ⟨b, o, none⟩) xs.length c) (.slice none 0 0)).run Tryz.prog w = .ok (.bool false) w := Lib.run_eql_slice_nil w 22 3 (some ⟨b, o, none⟩) xs.length c 0 0 Tryz.underlying22
  go_enter Tryz.func29, Tryz.ntmps29
  go_wp2_with (at_builtin; refine wpList_append_lies _ rfl _ _ 22 rfl w.heap.size 3 i0 (.int .i64 0) 1 8 Tryz.underlying22 hi hz0 hz1 hz2 rfl (by decide) _ 0 [] rfl HOWN.out ⟨b, o, none⟩ xs.length c (ints xs) rfl (by simp [ints]) HNEWS.out (one_cells _) H01.out.1 (by have := H01.out.2; unfold maxLen; omega) (by have := H01.out.2; omega) (alloc_le _ _) _ rfl ?_; intro g cap w3 hown3 hgrow hat hlt3; have HO := Lib.hid hown3; have HG := Lib.hid hgrow; clear hown3 hgrow hat hlt3)
  go_ret
  refine ⟨_, rfl, ((Below.refl _ _).alloc (Nat.le_refl _) _).trans (Below.ofGrown HG.out (alloc_le _ _) (ownsRow_base HOWN.out)), ?_⟩
  have := HO.out
  simp only [List.nil_append, Nat.zero_add] at this ⊢
  exact this
end Go.Proofs.YtllpoaoboieijaaGreat
