/-
  The plain law: what holds of every server of ServeAlone.
-/
import Derived.Test.YtllpoaoboieijaaGreatSa24
import Derived.Test.YtllpoaoboieijaaGreatSa28
import Derived.Test.YtllpoaoboieijaaGreatSa37
/-
  The plain law: what holds of every server of ServeAlone.
-/
namespace Go.Proofs.YtllpoaoboieijaaGreat
open Go.RowKit

/-- A request has the tokens that it would have alone. -/
structure RInv (r : Req) : Prop where
  gen : r.tokens = genTo r.prompt r.seed r.made.toNat
  opn : r.ended = false → ∀ j, j < r.made.toNat → genTok r.prompt r.seed j ≠ 0
  fin : r.ended = true → r.err = 18 ∨ (r.err = 0 ∧ StopsAt r.prompt r.seed r.most r.made.toNat)
theorem RInv.of_bare {q r : Req} (h : q.bare = r.bare) (k : RInv r) : RInv q := by
  obtain ⟨-, -, c, d, e, f, g, i, j, -⟩ := bare_core h
  exact ⟨by rw [f, c, e, g]; exact k.gen, by rw [i, c, e, g]; exact k.opn, by rw [i, j, c, e, g, d]; exact k.fin⟩
theorem RInv.next {r : Req} (k : RInv r) (ho : r.ended = false) (h0 : 0 ≤ r.made) (hm : r.made < r.most) (m : Mdl) : RInv (r.next (tokF m r.tokens r.seed r.made)) := by
  obtain ⟨n, hn⟩ : ∃ n : Nat, r.made = (n : Int) := ⟨r.made.toNat, (Int.toNat_of_nonneg h0).symm⟩
  have hg := k.gen
  have hop := k.opn ho
  rw [hn, Int.toNat_natCast] at hg hop
  have ht : tokF m r.tokens r.seed r.made = genTok r.prompt r.seed n := by unfold genTok; rw [hg, hn]; rfl
  rw [ht]
  have h1 : (r.made + 1).toNat = n + 1 := by omega
  have hgen : r.tokens ++ [genTok r.prompt r.seed n] = genTo r.prompt r.seed (n + 1) := by rw [genTo_succ, hg]
  unfold Req.next
  split
  · rename_i e
    refine ⟨by simp only; rw [h1]; exact hgen, fun h => by simp at h, fun _ => .inr ⟨rfl, ?_⟩⟩
    show StopsAt r.prompt r.seed r.most (r.made + 1).toNat
    rw [h1]
    refine ⟨by omega, by omega, fun j hj => hop j (by omega), ?_⟩
    rcases e with e | e
    · exact .inl (by simpa using e)
    · exact .inr (by omega)
  · rename_i e
    refine ⟨by simp only; rw [h1]; exact hgen, fun _ j hj => ?_, fun h => ?_⟩
    · simp only at hj ⊢
      rw [h1] at hj
      by_cases c : j = n
      · subst c; exact fun z => e (.inl z)
      · exact hop j (by omega)
    · have h' : r.ended = true := h
      rw [ho] at h'; cases h'
theorem RInv.fresh {r : Req} (k : RInv r) : RInv r.fresh := ⟨k.gen, k.opn, k.fin⟩
theorem RInv.late {r : Req} (k : RInv r) : RInv { r with holds := [], entries := 0, ended := true, err := 18, kept := -1 } := ⟨k.gen, fun h => (by cases h), fun _ => .inl rfl⟩
theorem RInv.settled {r : Req} (k : RInv r) (n : Int) : RInv (settled n r) := by
  unfold Go.Proofs.YtllpoaoboieijaaGreat.settled
  split
  · exact ⟨k.gen, k.opn, k.fin⟩
  · exact k

/-- What a request was asked with. -/
def Req.sig (r : Req) : Int × Int × List Int × Int × Int := (r.id, r.deadline, r.prompt, r.most, r.seed)
theorem sig_bare {q r : Req} (h : q.bare = r.bare) : q.sig = r.sig := by
  obtain ⟨a, b, c, d, e, -⟩ := bare_core h
  unfold Req.sig; rw [a, b, c, d, e]
theorem sig_next (r : Req) (t : Int) : (r.next t).sig = r.sig := by unfold Req.next; split <;> rfl
theorem sig_id {q r : Req} (h : q.sig = r.sig) : q.id = r.id := congrArg Prod.fst h
theorem sig_dl {q r : Req} (h : q.sig = r.sig) : q.deadline = r.deadline := congrArg (fun x => x.2.1) h

/-- What a turn or a late end keeps: each request is one of before, of the same kind. -/
structure Mid (now : Int) (S S' : Srv) : Prop where
  sig : S'.reqs.map Req.sig = S.reqs.map Req.sig
  kp : ∀ B : Int, 0 ≤ B → (∀ r, r ∈ S.reqs → r.kept ≤ B) → ∀ r, r ∈ S'.reqs → r.kept ≤ B
  ri : (∀ r, r ∈ S.reqs → RInv r) → ∀ r, r ∈ S'.reqs → RInv r
  opn : ∀ r, r ∈ S'.reqs → r.ended = false → ∃ q, q ∈ S.reqs ∧ q.ended = false ∧ q.sig = r.sig
theorem Mid.refl (now : Int) (S : Srv) : Mid now S S := ⟨rfl, fun _ _ h => h, fun h => h, fun r hr ho => ⟨r, hr, ho, rfl⟩⟩
theorem Mid.trans {now : Int} {S S1 S2 : Srv} (h : Mid now S S1) (k : Mid now S1 S2) : Mid now S S2 := ⟨k.sig.trans h.sig, fun B hB x => k.kp B hB (h.kp B hB x), fun x => k.ri (h.ri x), fun r hr ho => by
  obtain ⟨q, hq, hqo, e⟩ := k.opn r hr ho
  obtain ⟨p, hp, hpo, e'⟩ := h.opn q hq hqo
  exact ⟨p, hp, hpo, e'.trans e⟩⟩
theorem Mid.same {S S' : Srv} (h : Same S S') : Mid 0 S S' := by
  refine ⟨?_, fun B _ k r hr => ?_, fun k r hr => ?_, fun r hr ho => ?_⟩
  · have e := congrArg (List.map fun r : Req => r.sig) h.bare
    simp only [List.map_map] at e
    exact e
  · obtain ⟨q, hq, e⟩ := h.mem hr
    rw [← (bare_core e).2.2.2.2.2.2.2.2.2]; exact k q hq
  · obtain ⟨q, hq, e⟩ := h.mem hr
    exact RInv.of_bare e.symm (k q hq)
  · obtain ⟨q, hq, e⟩ := h.mem hr
    have hc := bare_core e
    exact ⟨q, hq, hc.2.2.2.2.2.2.2.1.trans ho, sig_bare e⟩
theorem Step.pre {S S' : Srv} {r r' q : Req} (h : Step S S' r r') (hq : q ∈ S'.reqs) : ∃ q0, q0 ∈ S.reqs ∧ q.bare = if q0.id = r.id then r'.bare else q0.bare := by
  have : q.bare ∈ S'.reqs.map Req.bare := List.mem_map_of_mem hq
  rw [h.bare] at this
  obtain ⟨q0, h0, e⟩ := List.mem_map.1 this
  exact ⟨q0, h0, e.symm⟩
theorem next_kept (r : Req) (t : Int) {B : Int} (h : r.kept ≤ B) (hB : 0 ≤ B) : (r.next t).kept ≤ B := by
  unfold Req.next
  split
  · show (-1 : Int) ≤ B; omega
  · exact h
theorem bare_sig (r : Req) : r.bare.sig = r.sig := rfl
theorem Mid.step {S S' : Srv} {r : Req} (hu : (S.reqs.map Req.id).Nodup) (hr : r ∈ S.reqs) (ho : r.ended = false) {t : Int} (hri : RInv r → RInv (r.next t)) (h : Step S S' r (r.next t)) : Mid 0 S S' := by
  refine ⟨?_, fun B hB k q hq => ?_, fun k q hq => ?_, fun q hq hqo => ?_⟩
  · have e := congrArg (List.map fun r : Req => r.sig) h.bare
    simp only [List.map_map] at e
    refine Eq.trans ?_ (e.trans ?_)
    · rfl
    · apply List.map_congr_left
      intro q hq
      simp only [Function.comp]
      split
      · rename_i c
        rw [inj_id' hu hq hr c, bare_sig, sig_next]
      · rfl
  · obtain ⟨q0, hq0, e⟩ := h.pre hq
    split at e
    · rw [(bare_core e).2.2.2.2.2.2.2.2.2]; exact next_kept r t (k r hr) hB
    · rw [(bare_core e).2.2.2.2.2.2.2.2.2]; exact k q0 hq0
  · obtain ⟨q0, hq0, e⟩ := h.pre hq
    split at e
    · exact RInv.of_bare e (hri (k r hr))
    · exact RInv.of_bare e (k q0 hq0)
  · obtain ⟨q0, hq0, e⟩ := h.pre hq
    split at e
    · exact ⟨r, hr, ho, by rw [sig_bare e, sig_next]⟩
    · have hc := bare_core e
      exact ⟨q0, hq0, by rw [← hc.2.2.2.2.2.2.2.1]; exact hqo, (sig_bare e).symm⟩
theorem Mid.turn {S : Srv} (hto : TokOk tokF) {i : Int} {ids : List Int} (h : TurnsOk S (i :: ids)) (hu : (S.reqs.map Req.id).Nodup) (hn : i ∉ ids) (n : Int) : Mid 0 S (S.turnOne tokF n i ids).1 := by
  obtain ⟨r, hg, hr, hid, ho⟩ := h.opn i (List.mem_cons_self ..)
  unfold Srv.turnOne
  rw [hg]
  simp only
  split
  · exact Mid.refl _ _
  · have hwr := h.wf.req r hr
    rcases work_step hto h.wf hu hr ho (beh := ids) (by rw [hid]; exact hn) with hs | hs
    · exact Mid.same hs
    · exact Mid.step hu hr ho (fun k => k.next ho hwr.made0 (hwr.openm ho) _) hs
structure TurnsGot (S S' : Srv) : Prop where
  wf : Wf S'
  mid : Mid 0 S S'
  rest : S'.rest = S.rest
theorem turns_got (hto : TokOk tokF) : ∀ (ids : List Int) (S : Srv) (n : Int), TurnsOk S ids → (S.reqs.map Req.id).Nodup → ids.Nodup → TurnsGot S (Srv.turns tokF ids S n)
  | [], S, _, h, _, _ => ⟨h.wf, Mid.refl _ _, rfl⟩
  | i :: ids, S, n, h, hu, hn => by
    rw [Srv.turns]
    split
    · exact ⟨h.wf, Mid.refl _ _, rfl⟩
    · have hn' := List.nodup_cons.1 hn
      obtain ⟨a, b, c⟩ := turn_ok hto h hu hn'.1 n
      have hm := Mid.turn hto h hu hn'.1 n
      have := turns_got hto ids _ (S.turnOne tokF n i ids).2 a (by rw [b]; exact hu) hn'.2
      exact ⟨this.wf, hm.trans this.mid, this.rest.trans c⟩
end Go.Proofs.YtllpoaoboieijaaGreat
