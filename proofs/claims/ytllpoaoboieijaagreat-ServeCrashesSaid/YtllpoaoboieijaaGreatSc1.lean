/-
  What a server does does not depend on what is synced, nor on whether calls are made again.
  ServeCrashes: the open requests have one order; what a call makes of each request.
-/
import Derived.Test.YtllpoaoboieijaaGreatSa41
/-
  What a server does does not depend on what is synced, nor on whether calls are made again.
-/
namespace Go.Proofs.YtllpoaoboieijaaGreat
open Go.RowKit

def Srv.fl (S : Srv) (a : Int) (b : Bool) : Srv := { S with synced := a, replay := b }
section
variable (a : Int) (b : Bool)
theorem fl_victim (S : Srv) (beh : List Int) : ∀ n, victimTo (S.fl a b) beh n = victimTo S beh n
  | 0 => rfl
  | n + 1 => by
    rw [victimTo, victimTo]
    rw [show ((beh[n]?).bind (S.fl a b).get) = (beh[n]?).bind S.get from rfl]
    split
    · rw [fl_victim S beh n]
    · rfl
theorem fl_page : ∀ (n : Nat) (S : Srv) (beh : List Int), pageF n (S.fl a b) beh = ((pageF n S beh).1.fl a b, (pageF n S beh).2)
  | 0, _, _ => rfl
  | n + 1, S, beh => by
    rw [pageF, pageF]
    rw [show (S.fl a b).spare = S.spare from rfl, fl_victim]
    split
    · rfl
    · split
      · rename_i r _
        rw [show (S.fl a b).takeFrom r = (S.takeFrom r).fl a b from rfl, fl_page n]
      · rfl
theorem fl_page' (S : Srv) (beh : List Int) : (S.fl a b).page beh = ((S.page beh).1.fl a b, (S.page beh).2) := fl_page a b _ S beh
theorem fl_take (S : Srv) (r : Req) (beh : List Int) : (S.fl a b).take r beh = ((S.take r beh).1.fl a b, (S.take r beh).2) := by
  unfold Srv.take
  rw [fl_page', show (S.fl a b).pageSize = S.pageSize from rfl]
  simp only
  split
  · split
    · rfl
    · rfl
  · rfl
theorem fl_compute (S : Srv) (r : Req) (beh : List Int) : (S.fl a b).compute r beh = (S.compute r beh).fl a b := by
  unfold Srv.compute
  rw [fl_take]
  generalize S.take r beh = t
  obtain ⟨S1, o⟩ := t
  cases o with
  | none => rfl
  | some r1 =>
    simp only
    rw [show (S1.fl a b).pages = S1.pages from rfl]
    split <;> rfl
theorem fl_shareF : ∀ (n : Nat) (S : Srv) (r : Req), shareF n (S.fl a b) r = ((shareF n S r).1.fl a b, (shareF n S r).2)
  | 0, _, _ => rfl
  | n + 1, S, r => by
    rw [shareF, shareF]
    rw [show (S.fl a b).shared r = S.shared r from rfl, show (S.fl a b).pages = S.pages from rfl, show (S.fl a b).pageSize = S.pageSize from rfl]
    split
    · split
      · rename_i p _
        rw [show (S.fl a b).shareStep r (S.shared r).1 p = (S.shareStep r (S.shared r).1 p).fl a b from rfl, fl_shareF n]
      · rfl
    · rfl
theorem fl_share (S : Srv) (r : Req) : (S.fl a b).share r = ((S.share r).1.fl a b, (S.share r).2) := fl_shareF a b _ S r
theorem fl_nextTok (S : Srv) (r : Req) (t : Int) : (S.fl a b).nextTok r t = (S.nextTok r t).fl a b := by
  unfold Srv.nextTok Srv.endOrNot
  simp only
  split <;> rfl
theorem fl_work (tok : Mdl → List Int → Int → Int → Int) (S : Srv) (r : Req) (beh : List Int) : (S.fl a b).work tok r beh = (S.work tok r beh).fl a b := by
  unfold Srv.work
  rw [fl_share]
  simp only
  split
  · exact fl_compute a b _ _ _
  · rw [fl_nextTok]; rfl
theorem fl_turnOne (tok : Mdl → List Int → Int → Int → Int) (S : Srv) (n id : Int) (beh : List Int) : (S.fl a b).turnOne tok n id beh = ((S.turnOne tok n id beh).1.fl a b, (S.turnOne tok n id beh).2) := by
  unfold Srv.turnOne
  rw [show (S.fl a b).get id = S.get id from rfl]
  split
  · rfl
  · split
    · rfl
    · rw [fl_work]; rfl
theorem fl_turns (tok : Mdl → List Int → Int → Int → Int) : ∀ (ids : List Int) (S : Srv) (n : Int), Srv.turns tok ids (S.fl a b) n = (Srv.turns tok ids S n).fl a b
  | [], _, _ => rfl
  | id :: ids, S, n => by
    rw [Srv.turns, Srv.turns, show (S.fl a b).batch = S.batch from rfl]
    split
    · rfl
    · rw [fl_turnOne]; exact fl_turns tok ids _ _
theorem fl_lateOne (S : Srv) (r : Req) : (S.fl a b).lateOne r = (S.lateOne r).fl a b := by
  unfold Srv.lateOne
  rw [show (S.fl a b).now = S.now from rfl]
  split <;> rfl
theorem fl_lates (S : Srv) (ys : List Req) : ∀ n, (S.fl a b).lates ys n = (S.lates ys n).fl a b
  | 0 => rfl
  | n + 1 => by
    rw [Srv.lates, Srv.lates, fl_lates S ys n]
    split
    · exact fl_lateOne a b _ _
    · rfl
theorem fl_ticked (tok : Mdl → List Int → Int → Int → Int) (S : Srv) (ys zs : List Req) : (S.fl a b).ticked tok ys zs = (S.ticked tok ys zs).fl a b := by
  unfold Srv.ticked
  rw [show (S.fl a b).later = S.later.fl a b from rfl, fl_lates, fl_turns]
  rfl
theorem fl_acc (S : Srv) (q : Ask) : accAll (S.fl a b) q = accAll S q := rfl
theorem fl_took (S : Srv) (q : Ask) : (S.fl a b).took q = (S.took q).fl a b := rfl
theorem fl_fl (S : Srv) (c : Int) (d : Bool) : (S.fl c d).fl a b = S.fl a b := rfl
end
/-- A request is cancelled. -/
def Srv.cancelled (S : Srv) (r : Req) : Srv := ((S.endReq r 19).record 2 [r.id]).settle
theorem fl_cancelled (a : Int) (b : Bool) (S : Srv) (r : Req) : (S.fl a b).cancelled r = (S.cancelled r).fl a b := rfl
end Go.Proofs.YtllpoaoboieijaaGreat
/-
  ServeCrashes: the open requests have one order; what a call makes of each request.
-/
namespace Go.Proofs.YtllpoaoboieijaaGreat
open Go.RowKit

theorem sorted_uniq : ∀ (xs ys : List Req), xs.Perm ys → (xs.map Req.id).Nodup → xs.Pairwise (fun a b => ¬ ltReq b a) → ys.Pairwise (fun a b => ¬ ltReq b a) → xs = ys
  | [], ys, hp, _, _, _ => (List.nil_perm.1 hp).symm
  | x :: xs, ys, hp, hn, hx, hy => by
    cases ys with
    | nil => exact absurd hp.symm (by simp)
    | cons y ys =>
      have hxy : x = y := by
        by_cases e : x = y
        · exact e
        · have h1 : x ∈ ys := by
            rcases List.mem_cons.1 (hp.mem_iff.1 (List.mem_cons_self ..)) with h | h
            · exact absurd h e
            · exact h
          have h2 : y ∈ xs := by
            rcases List.mem_cons.1 (hp.mem_iff.2 (List.mem_cons_self ..)) with h | h
            · exact absurd h.symm e
            · exact h
          have a := (List.pairwise_cons.1 hx).1 y h2
          have b := (List.pairwise_cons.1 hy).1 x h1
          have hid : x.id = y.id := by unfold ltReq at a b; omega
          have := (List.nodup_cons.1 hn).1
          exact absurd (show x.id ∈ xs.map Req.id from hid ▸ List.mem_map_of_mem h2) this
      subst hxy
      rw [sorted_uniq xs ys ((List.perm_cons x).1 hp) (List.nodup_cons.1 hn).2 (List.pairwise_cons.1 hx).2 (List.pairwise_cons.1 hy).2]
theorem upto_pairwise {ys : List Req} (h : Upto ys ys.length) : ys.Pairwise (fun a b => ¬ ltReq b a) :=
  List.pairwise_iff_getElem.2 fun i j hi hj hij => h i j hi hj hij hj
theorem opens_nodup {S : Srv} (hu : (S.reqs.map Req.id).Nodup) {ys : List Req} (h : Opens S ys) : (ys.map Req.id).Nodup :=
  (h.1.map Req.id).nodup_iff.2 ((List.filter_sublist.map Req.id).nodup hu)
theorem opens_uniq {S : Srv} (hu : (S.reqs.map Req.id).Nodup) {ys zs : List Req} (h : Opens S ys) (k : Opens S zs) : ys = zs :=
  sorted_uniq ys zs (h.1.trans k.1.symm) (opens_nodup hu h) (upto_pairwise h.2) (upto_pairwise k.2)

/-- One request, ahead of a piece of a call and behind it. -/
structure To (r r' : Req) : Prop where
  sig : r'.sig = r.sig
  keep : r.ended = true → r'.ended = true ∧ r'.err = r.err ∧ r'.tokens = r.tokens ∧ r'.made = r.made ∧ r'.kept = r.kept
  new : r.ended = false → r'.ended = true → r'.kept = -1 ∧ (r'.err = 0 → 1 ≤ r'.made)
  opn : r'.ended = false → r'.kept = r.kept
theorem To.refl (r : Req) : To r r := ⟨rfl, fun h => ⟨h, rfl, rfl, rfl, rfl⟩, (fun h k => by rw [h] at k; cases k), fun _ => rfl⟩
theorem To.opn' {a b : Req} (h : To a b) (ho : b.ended = false) : a.ended = false := by
  cases e : a.ended with
  | false => rfl
  | true => have := (h.keep e).1; rw [ho] at this; cases this
theorem To.trans {a b c : Req} (h : To a b) (k : To b c) : To a c := by
  refine ⟨k.sig.trans h.sig, fun e => ?_, fun e e' => ?_, fun e => ?_⟩
  · obtain ⟨a1, a2, a3, a4, a5⟩ := h.keep e
    obtain ⟨b1, b2, b3, b4, b5⟩ := k.keep a1
    exact ⟨b1, b2.trans a2, b3.trans a3, b4.trans a4, b5.trans a5⟩
  · cases eb : b.ended with
    | false => exact k.new eb e'
    | true =>
      obtain ⟨b1, b2, b3, b4, b5⟩ := k.keep eb
      obtain ⟨a1, a2⟩ := h.new e eb
      exact ⟨by rw [b5, a1], fun z => by rw [b4]; exact a2 (by rw [← b2]; exact z)⟩
  · exact (k.opn e).trans (h.opn (k.opn' e))
theorem To.bare {q r : Req} (h : q.bare = r.bare) : To r q := by
  obtain ⟨-, -, -, -, -, f, g, i, j, k⟩ := bare_core h
  exact ⟨sig_bare h, fun e => ⟨i.trans e, j, f, g, k⟩, (fun e e' => by rw [i, e] at e'; cases e'), fun _ => k⟩
theorem To.next {r : Req} (ho : r.ended = false) (h0 : 0 ≤ r.made) (t : Int) : To r (r.next t) := by
  refine ⟨sig_next r t, (fun e => by rw [ho] at e; cases e), fun _ e' => ?_, fun e => ?_⟩
  · unfold Req.next at e' ⊢
    split
    · exact ⟨rfl, fun _ => by show (1 : Int) ≤ r.made + 1; omega⟩
    · rename_i c
      rw [if_neg c] at e'
      rw [show ({ r with tokens := r.tokens ++ [t], made := r.made + 1 } : Req).ended = r.ended from rfl, ho] at e'
      cases e'
  · unfold Req.next at e ⊢
    split
    · rename_i c
      rw [if_pos c] at e
      cases e
    · rfl
structure Mov (S S' : Srv) : Prop where
  sig : S'.reqs.map Req.sig = S.reqs.map Req.sig
  back : ∀ r', r' ∈ S'.reqs → ∃ r, r ∈ S.reqs ∧ To r r'
theorem Mov.refl (S : Srv) : Mov S S := ⟨rfl, fun r hr => ⟨r, hr, To.refl r⟩⟩
theorem Mov.trans {S S1 S2 : Srv} (h : Mov S S1) (k : Mov S1 S2) : Mov S S2 := ⟨k.sig.trans h.sig, fun r hr => by
  obtain ⟨q, hq, e⟩ := k.back r hr
  obtain ⟨p, hp, e'⟩ := h.back q hq
  exact ⟨p, hp, e'.trans e⟩⟩
theorem Mov.same {S S' : Srv} (h : Same S S') : Mov S S' := by
  refine ⟨?_, fun r hr => ?_⟩
  · have e := congrArg (List.map fun r : Req => r.sig) h.bare
    simp only [List.map_map] at e
    exact e
  · obtain ⟨q, hq, e⟩ := h.mem hr
    exact ⟨q, hq, To.bare e.symm⟩
theorem Mov.step {S S' : Srv} {r : Req} (hu : (S.reqs.map Req.id).Nodup) (hr : r ∈ S.reqs) (ho : r.ended = false) (h0 : 0 ≤ r.made) {t : Int} (h : Step S S' r (r.next t)) : Mov S S' := by
  refine ⟨?_, fun q hq => ?_⟩
  · have e := congrArg (List.map fun r : Req => r.sig) h.bare
    simp only [List.map_map] at e
    refine Eq.trans ?_ (e.trans ?_)
    · rfl
    · apply List.map_congr_left
      intro q hq
      simp only [Function.comp]
      split
      · rename_i c
        rw [inj_id' hu hq hr c, bare_sig, sig_next]
      · rfl
  · obtain ⟨q0, hq0, e⟩ := h.pre hq
    split at e
    · exact ⟨r, hr, (To.next ho h0 t).trans (To.bare e)⟩
    · exact ⟨q0, hq0, To.bare e⟩
theorem Mov.put {S : Srv} (hu : (S.reqs.map Req.id).Nodup) {r r' : Req} (hr : r ∈ S.reqs) (e : To r r') : Mov S (S.put r') := by
  refine ⟨?_, fun q hq => ?_⟩
  · simp only [Srv.put, List.map_map]
    apply List.map_congr_left
    intro q hq
    simp only [Function.comp]
    split
    · rename_i c
      rw [inj_id' hu hq hr (c.trans (sig_id e.sig))]; exact e.sig
    · rfl
  · rcases mem_put hq with rfl | ⟨h, _⟩
    · exact ⟨r, hr, e⟩
    · exact ⟨q, h, To.refl q⟩
theorem Mov.pages (S : Srv) (ps : List Pg) : Mov S { S with pages := ps } := ⟨rfl, fun r hr => ⟨r, hr, To.refl r⟩⟩
theorem To.fresh (r : Req) : To r r.fresh := ⟨rfl, fun h => ⟨h, rfl, rfl, rfl, rfl⟩, (fun h k => by rw [show r.fresh.ended = r.ended from rfl, h] at k; cases k), fun _ => rfl⟩
theorem To.ends {r : Req} (ho : r.ended = false) {e : Int} (he : e ≠ 0) : To r { r with holds := [], entries := 0, ended := true, err := e, kept := -1 } :=
  ⟨rfl, (fun h => by rw [ho] at h; cases h), fun _ _ => ⟨rfl, fun z => absurd z he⟩, fun h => by cases h⟩
theorem Mov.ends {S : Srv} (hu : (S.reqs.map Req.id).Nodup) {r : Req} (hr : r ∈ S.reqs) (ho : r.ended = false) {e : Int} (he : e ≠ 0) : Mov S (S.endReq r e) :=
  (Mov.pages S (relAll S.pageSize S.pages r.holds)).trans (Mov.put (S := { S with pages := relAll S.pageSize S.pages r.holds }) hu hr (To.ends ho he))
theorem Mov.late {S : Srv} (hu : (S.reqs.map Req.id).Nodup) {r : Req} (hr : r ∈ S.reqs) (ho : r.ended = false) : Mov S (S.lateOne r) := by
  have h1 : Mov S (S.put r.fresh) := Mov.put hu hr (To.fresh r)
  unfold Srv.lateOne
  split
  · have hm : r.fresh ∈ (S.put r.fresh).reqs := mem_put_self hr rfl
    exact h1.trans (Mov.ends (by rw [put_ids]; exact hu) hm ho (by decide))
  · exact h1
theorem Mov.lates {S : Srv} (hw : Wf S) (hu : (S.reqs.map Req.id).Nodup) {ys : List Req} (hn : (ys.map Req.id).Nodup) (hm : ∀ r, r ∈ ys → r ∈ S.reqs) (ho : ∀ r, r ∈ ys → r.ended = false) : ∀ i, i ≤ ys.length → Mov S (S.lates ys i)
  | 0, _ => Mov.refl _
  | i + 1, hi => by
    have h1 := Mov.lates hw hu hn hm ho i (by omega)
    have hlt : i < ys.length := by omega
    have hk := lates_ok hw hn hm i (by omega)
    have e : S.lates ys (i + 1) = (S.lates ys i).lateOne ys[i] := by
      rw [Srv.lates, List.getElem?_eq_getElem hlt]
    rw [e]
    exact h1.trans (Mov.late (by rw [hk.ids]; exact hu) (hk.oth i hlt (Nat.le_refl _)) (ho _ (List.getElem_mem _)))
theorem Mov.turn {S : Srv} (hto : TokOk tokF) {i : Int} {ids : List Int} (h : TurnsOk S (i :: ids)) (hu : (S.reqs.map Req.id).Nodup) (hn : i ∉ ids) (n : Int) : Mov S (S.turnOne tokF n i ids).1 := by
  obtain ⟨r, hg, hr, hid, ho⟩ := h.opn i (List.mem_cons_self ..)
  unfold Srv.turnOne
  rw [hg]
  simp only
  split
  · exact Mov.refl _
  · rcases work_step hto h.wf hu hr ho (beh := ids) (by rw [hid]; exact hn) with hs | hs
    · exact Mov.same hs
    · exact Mov.step hu hr ho (h.wf.req r hr).made0 hs
theorem Mov.turns (hto : TokOk tokF) : ∀ (ids : List Int) (S : Srv) (n : Int), TurnsOk S ids → (S.reqs.map Req.id).Nodup → ids.Nodup → Mov S (Srv.turns tokF ids S n)
  | [], S, _, _, _, _ => Mov.refl _
  | i :: ids, S, n, h, hu, hn => by
    rw [Srv.turns]
    split
    · exact Mov.refl _
    · have hn' := List.nodup_cons.1 hn
      obtain ⟨a, b, c⟩ := turn_ok hto h hu hn'.1 n
      exact (Mov.turn hto h hu hn'.1 n).trans (Mov.turns hto ids _ _ a (by rw [b]; exact hu) hn'.2)
end Go.Proofs.YtllpoaoboieijaaGreat
