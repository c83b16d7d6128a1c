/-
  ServeAlone: the answers at the end.
-/
import Derived.Test.YtllpoaoboieijaaGreatSa40
/-
  ServeAlone: the answers at the end.
-/
namespace Go.Proofs.YtllpoaoboieijaaGreat
open Go.RowKit

section
variable {w0 : World} {V : Value} {Ls : List Int} {p : MPl} {xb mb : Nat} {own own' : Nat → Lb} {w w' : World} {sb : Nat} {L L' : Lay} {S S' : Srv} {K : Nat} {qs : List AQ} {v : Value}
/-- All have ended, and all is synced. -/
def Fin (S : Srv) : Prop := (∀ r, r ∈ S.reqs → r.ended = true) ∧ S.synced = (S.log.length : Int)
theorem opens_nil {S : Srv} {ys : List Req} (h : Opens S ys) (h0 : ys.length = 0) : ∀ r, r ∈ S.reqs → r.ended = true := fun r hr => by
  cases ho : r.ended with
  | true => rfl
  | false =>
    have : r ∈ ys := h.1.mem_iff.2 (List.mem_filter.2 ⟨hr, by rw [ho]; rfl⟩)
    rw [List.length_eq_zero_iff.1 h0] at this
    cases this
theorem opens_some {S : Srv} {ys : List Req} (h : Opens S ys) (h0 : 0 < ys.length) : ∃ r, r ∈ S.reqs ∧ r.ended = false := by
  obtain ⟨r, hr⟩ : ∃ r, r ∈ ys := ⟨ys[0], List.getElem_mem _⟩
  have := List.mem_filter.1 (h.1.mem_iff.1 hr)
  exact ⟨r, this.1, by simpa using this.2⟩
theorem law_sync (h : LS w0 V Ls p xb mb own w sb L S K qs v) (hd : ∀ r, r ∈ S.reqs → r.ended = true) :
    Calls Tryz.prog 16 #[.pointer (some ⟨sb, 0, none⟩)] w fun e w' => e = .returned (.tuple #[]) ∧ ∃ own' L' S', Hid (LS w0 V Ls p xb mb own' w' sb L' S' K qs v) ∧ Hid (Fin S') := by
  refine (sync_any own sb L S w h.srv).mono ?_
  rintro e w' ⟨rfl, own', L', h', -, x⟩
  have hi := h.inv
  exact ⟨rfl, own', L', _, Lib.hid (h.go x Tin_other h' ⟨⟨hi.wf.n0, hi.wf.n1, hi.wf.size0, hi.wf.size1, hi.wf.ptok, hi.wf.req, hi.wf.mdl⟩, hi.uniq, hi.ids, hi.dls, hi.ri, hi.kept, hi.rep, hi.rec0, hi.log, hi.voc, hi.pn⟩ fun r hr => ⟨r, hr, rfl⟩), Lib.hid ⟨hd, rfl⟩⟩
/-- What is right to answer. -/
def AnsOk (q : Ask) (xs : List Int) : Prop := ∃ K, StopsAt q.prompt q.seed q.most K ∧ xs = (genTo q.prompt q.seed K).drop q.prompt.length
theorem AnsOk.uniq {q : Ask} {xs ys : List Int} (h : AnsOk q xs) (k : AnsOk q ys) : xs = ys := by
  obtain ⟨K, a, rfl⟩ := h
  obtain ⟨J, b, rfl⟩ := k
  rw [StopsAt.uniq a b]
theorem rd_owned {base : Nat} {xs : List Int} {n : Nat} (h : w.ownsRow base 3 1 v n (ints xs)) : Rd w v xs := by
  have hl : (ints xs).length = n := by have := h.1; omega
  rw [ints_length] at hl
  rcases h.2 with ⟨hv, hn⟩ | ⟨g, cap, cur, hv, a3, a4, a5, a6, a7, a8⟩
  · exact ⟨none, 0, by rw [hv, hl, hn], by omega, Nat.zero_le _, fun h0 => by omega⟩
  · refine ⟨_, cap, by rw [hv, hl], by omega, a6, fun _ => ⟨g, 0, rfl, fun i hi => ?_⟩⟩
    unfold World.cell?
    simp only [a4, Nat.zero_add]
    simp only [Nat.mul_one] at a8
    have : (ints xs)[i]? = cur.toList[i]? := by rw [← a8, List.getElem?_take]; simp; omega
    rw [show (ints xs)[i]? = some (.int .i64 xs[i]) by simp [ints, hi]] at this
    simpa using this.symm
theorem law_answer (h : LS w0 V Ls p xb mb own w sb L S K qs v) (hf : Fin S) (a : AQ) (ha : a ∈ qs) :
    Calls Tryz.prog 17 #[.pointer (some ⟨sb, 0, none⟩), .int .i64 a.q.id] w fun e w' => Hid (Below w.heap.size w w') ∧
      ((e = .returned (.tuple #[.slice none 0 0, .int .i64 18, .bool true])) ∨ ∃ (A : Option Addr) (c : Nat) (xs : List Int), e = .returned (.tuple #[.slice A xs.length c, .int .i64 0, .bool true]) ∧ Hid (Rd w' (.slice A xs.length c) xs) ∧ Hid (AnsOk a.q xs)) := by
  obtain ⟨r, hr, hsig⟩ := h.sig a ha
  have hid : r.id = a.q.id := congrArg Prod.fst hsig
  have hpr : r.prompt = a.q.prompt := congrArg (fun x => x.2.2.1) hsig
  have hmo : r.most = a.q.most := congrArg (fun x => x.2.2.2.1) hsig
  have hse : r.seed = a.q.seed := congrArg (fun x => x.2.2.2.2) hsig
  have hg := get_of_mem h.inv.uniq hr
  have he := hf.1 r hr
  have hk := h.inv.kept r hr
  have ht : (r.ended && (S.replay || decide (r.kept ≤ S.synced))) = true := by
    rw [he, hf.2]; simp [hk]
  have hri := h.inv.ri r hr
  have hwf := h.inv.wf.req r hr
  rw [← hid]
  rcases hri.fin he with e18 | ⟨e0, hst⟩
  · refine (answer_err own sb L S r w h.srv hg ht (by rw [e18]; decide)).mono ?_
    rintro e w' ⟨rfl, k, rfl⟩
    exact ⟨Lib.hid ⟨rfl, rfl, rfl, Nat.le_refl _, fun _ _ => rfl⟩, .inl (by rw [e18])⟩
  · have hlen := hwf.toks
    have hK := hst.1
    have hent := hwf.ent
    refine (answer_ok own sb L S r w h.srv hg ht e0 (by omega) (by omega)).mono ?_
    rintro e w' ⟨v, rfl, hb, ho⟩
    obtain ⟨A, c, rfl⟩ := ownsRow_shape ho
    exact ⟨Lib.hid hb, .inr ⟨A, c, _, rfl, Lib.hid (rd_owned ho), Lib.hid ⟨_, by rw [← hpr, ← hmo, ← hse]; exact hst, by rw [hri.gen, hpr, hse]⟩⟩⟩
theorem law_alone (h : LS w0 V Ls p xb mb own w sb L S K qs v) (a : AQ) (ha : a ∈ qs) :
    Calls Tryz.prog 18 #[.agg (demoCells p).toArray, a.q.val a.A a.c] w fun e w' => ∃ (A : Option Addr) (c : Nat) (xs : List Int), e = .returned (.tuple #[.slice A xs.length c, .int .i64 0]) ∧ Hid (Below w.heap.size w w') ∧ Hid (Rd w' (.slice A xs.length c) xs) ∧ Hid (AnsOk a.q xs) := by
  obtain ⟨r, hr, hsig⟩ := h.sig a ha
  have hpr : r.prompt = a.q.prompt := congrArg (fun x => x.2.2.1) hsig
  have hmo : r.most = a.q.most := congrArg (fun x => x.2.2.2.1) hsig
  have hse : r.seed = a.q.seed := congrArg (fun x => x.2.2.2.2) hsig
  have hwf := h.inv.wf.req r hr
  have hv8 : S.m.vocab = 8 := by rw [h.inv.wf.mdl]; rfl
  obtain ⟨hrd, h0, -⟩ := h.row.prm a ha
  obtain ⟨A0, c0, hv, h1, h2, h3⟩ := hrd
  obtain ⟨b, o, hA, hc⟩ := h3 (by rw [ints_length]; exact h0)
  unfold AQ.sl at hv
  have hA' : a.A = some ⟨b, o, none⟩ := by injection hv with e1; rw [e1, hA]
  have hc' : a.c = c0 := by injection hv
  rw [hA']
  rw [← hpr] at h0
  refine (alone_any p a.q b o a.c (by rw [← hpr]; exact h0) (by rw [← hpr]; exact hwf.p1) (by rw [← hmo]; exact ⟨hwf.m0, hwf.m1⟩) (by rw [← hse]; exact ⟨hwf.s0, hwf.s1⟩) (fun t ht => ?_) w h.dem.at' ⟨by rw [hc']; rw [ints_length] at h1; exact h1, by rw [hc']; exact h2, fun i hi => ?_⟩).mono ?_
  · have hg := (h.inv.ri r hr).gen
    have := hwf.tokv t (by
      rw [hg, hpr]
      have : ∀ n, t ∈ genTo a.q.prompt r.seed n := fun n => by
        induction n with
        | zero => exact ht
        | succ n ih => rw [genTo_succ]; exact List.mem_append_left _ ih
      exact this _)
    omega
  · rw [hc i (by rw [ints_length]; exact hi)]
    simp [ints, List.getD, hi]
  · rintro e w' ⟨K, v, rfl, hb, hst, ho⟩
    have hl := ho.out.1
    obtain ⟨A, c, rfl⟩ := ownsRow_shape ho.out
    have hl' : ((genTo a.q.prompt a.q.seed K).drop a.q.prompt.length).length = K := by rw [ints_length] at hl; omega
    exact ⟨A, c, (genTo a.q.prompt a.q.seed K).drop a.q.prompt.length, by rw [hl'], hb, Lib.hid (by rw [hl']; exact rd_owned ho.out), Lib.hid ⟨K, hst.out, rfl⟩⟩
end
end Go.Proofs.YtllpoaoboieijaaGreat
