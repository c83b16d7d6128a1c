/-
  One more request: the map, and the server behind it.
-/
import Derived.Test.YtllpoaoboieijaaGreatSa14
/-
  One more request: the map, and the server behind it.
-/
namespace Go.Proofs.YtllpoaoboieijaaGreat
open Go.RowKit
open Go.ChangeMaps (setBlock)

theorem get_none {S : Srv} {id : Int} (h : S.get id = none) : id ∉ S.reqs.map Req.id := by
  intro c
  obtain ⟨r, hr, e⟩ := List.mem_map.1 c
  unfold Srv.get at h
  have := List.find?_eq_none.1 h r hr
  simp [e] at this
theorem update_run {own : Nat → Lb} {w : World} {sb : Nat} {L : Lay} {S : Srv} (h : SrvAt own w sb L S) {id : Int} (hg : S.get id = none) (v : Value) :
    (Instr.mapUpdate 67 (.map (some L.mb)) (.int .i64 id) v).run Tryz.prog w =
      .ok () (setBlock w L.mb (.map (((S.reqs.map fun r => ({ key := .int .i64 r.id, val := .pointer (some ⟨L.rb r.id, 0, none⟩), born := L.born r.id } : MapEntry)).toArray).push { key := .int .i64 id, val := v, born := L.clock }) (L.clock + 1))) := by
  obtain ⟨o, h1, h2⟩ := findNow_reqs L id S.reqs 0
  have hu : Tryz.prog.underlying 3 = some (.int .i64) := Tryz.underlying3
  have hm := MapKept.run_getObj_map (P := Tryz.prog) h.mmap
  have hc : (Instr.checkKey false 10000 3 (.int .i64 id)).run Tryz.prog w = .ok () w := by
    have := MapKept.run_checkKey (w := w) (P := Tryz.prog) (k := .int .i64 id) hu (show MapKept.IsKey (.int .i64) (.int .i64 id) from rfl) false 9999
    exact this
  have ho : o = none := by
    rw [show S.reqs.find? (fun r => decide (r.id = id)) = none from hg] at h2
    cases o with
    | none => rfl
    | some x => simp at h2
  subst ho
  have hf : (Instr.findKey 3 (.int .i64 id) (S.reqs.map fun r => ({ key := .int .i64 r.id, val := .pointer (some ⟨L.rb r.id, 0, none⟩), born := L.born r.id } : MapEntry))).run Tryz.prog w = .ok none w := MapKept.run_findKey hu h1
  simp [Instr.mapUpdate, run_underlying Tryz.underlying67, hm, hc, hf, MapKept.run_setObj_map _ h.mmap, Result.andThen, setBlock]

def updn (f : Int → Nat) (i : Int) (v : Nat) : Int → Nat := fun j => if j = i then v else f j
theorem updn_same (f : Int → Nat) (i : Int) (v : Nat) : updn f i v i = v := by simp [updn]
theorem updn_other (f : Int → Nat) {i j : Int} (v : Nat) (h : j ≠ i) : updn f i v j = f j := by simp [updn, h]
def Lay.add (L : Lay) (id : Int) (nb : Nat) (pv tv hv : Value) : Lay :=
  { L with rb := updn L.rb id nb, rp := updv L.rp id pv, rt := updv L.rt id tv, rh := updv L.rh id hv, born := updn L.born id L.clock, clock := L.clock + 1 }
/-- A request more. -/
theorem SrvAt.add {own own' : Nat → Lb} {w w' : World} {sb : Nat} {L : Lay} {S : Srv} {T : Lb → Prop} (h : SrvAt own w sb L S) (x : Ext own w own' w' T) (hT : ∀ l, T l → l = .mp ∨ l = .other ∨ l = .loc) (r : Req) (hr : r.id ∉ S.reqs.map Req.id) (nb : Nat) (pv tv hv : Value)
    (hm : w'.heap[L.mb]? = some (.map (((S.reqs.map fun r => ({ key := .int .i64 r.id, val := .pointer (some ⟨L.rb r.id, 0, none⟩), born := L.born r.id } : MapEntry)).toArray).push { key := .int .i64 r.id, val := .pointer (some ⟨nb, 0, none⟩), born := L.clock }) (L.clock + 1)))
    (hb : Blk w' nb (reqCells r pv tv hv) 75) (hl : own' nb = .req r.id) (hp : Owns own' (.prm r.id) w' 3 1 pv r.prompt.length (ints r.prompt)) (ht : Owns own' (.tok r.id) w' 3 1 tv r.tokens.length (ints r.tokens)) (hh : Owns own' (.hold r.id) w' 3 1 hv r.holds.length (ints r.holds)) :
    SrvAt own' w' sb (L.add r.id nb pv tv hv) { S with reqs := S.reqs ++ [r] } := by
  have n : ∀ l, l ≠ .mp → l ≠ .other → l ≠ .loc → ¬ T l := fun l a b c t => by
    rcases hT l t with e | e | e
    · exact a e
    · exact b e
    · exact c e
  have hne : ∀ q, q ∈ S.reqs → q.id ≠ r.id := fun q hq e => hr (by rw [← e]; exact List.mem_map_of_mem hq)
  refine ⟨h.blk.ext x (by rw [h.lab]; exact n _ (by intro e; cases e) (by intro e; cases e) (by intro e; cases e)), by rw [x.lab _ h.blk.lt]; exact h.lab, h.mdl.ext x (n _ (by intro e; cases e) (by intro e; cases e) (by intro e; cases e)), ?_, by rw [show (L.add r.id nb pv tv hv).mb = L.mb from rfl, x.lab _ (lt_of_heap h.mmap)]; exact h.mlab,
    h.pgs.ext x (by rw [h.plab]; exact n _ (by intro e; cases e) (by intro e; cases e) (by intro e; cases e)), by rw [show (L.add r.id nb pv tv hv).pb = L.pb from rfl, x.lab _ h.pgs.lt]; exact h.plab, fun k p hk => (h.ptok k p hk).ext x (n _ (by intro e; cases e) (by intro e; cases e) (by intro e; cases e)), h.log.ext x (n _ (by intro e; cases e) (by intro e; cases e) (by intro e; cases e)), fun q hq => ?_, ?_, ?_, ?_⟩
  · rw [show (L.add r.id nb pv tv hv).mb = L.mb from rfl, hm]
    congr 2
    apply Array.toList_inj.1
    simp only [Array.toList_push, List.map_append, List.map_cons, List.map_nil, Lay.add, updn_same]
    congr 1
    apply List.map_congr_left
    intro q hq
    rw [updn_other _ _ (hne q hq), updn_other _ _ (hne q hq)]
  · rcases List.mem_append.1 hq with h1 | h1
    · obtain ⟨a1, a2, a3, a4, a5⟩ := (h.req q h1).ext x (n _ (by intro e; cases e) (by intro e; cases e) (by intro e; cases e)) (n _ (by intro e; cases e) (by intro e; cases e) (by intro e; cases e)) (n _ (by intro e; cases e) (by intro e; cases e) (by intro e; cases e)) (n _ (by intro e; cases e) (by intro e; cases e) (by intro e; cases e))
      have e := hne q h1
      refine ⟨?_, ?_, ?_, ?_, ?_⟩ <;> simp only [Lay.add, updn_other _ _ e, updv_other _ _ e]
      · exact a1
      · exact a2
      · exact a3
      · exact a4
      · exact a5
    · rw [List.mem_singleton.1 h1]
      refine ⟨?_, ?_, ?_, ?_, ?_⟩ <;> simp only [Lay.add, updn_same, updv_same]
      · exact hb
      · exact hl
      · exact hp
      · exact ht
      · exact hh
  · simp only [List.map_append, List.map_cons, List.map_nil]
    rw [List.nodup_append]
    refine ⟨h.uniq, by simp, fun a ha b hb e => ?_⟩
    rw [List.mem_singleton.1 hb] at e
    exact hr (e ▸ ha)
  · simp only [List.map_append, List.map_cons, List.map_nil, Lay.add, updn_same]
    have e : (S.reqs.map Req.id).map (updn L.born r.id L.clock) = (S.reqs.map Req.id).map L.born := by
      apply List.map_congr_left
      intro i hi
      exact updn_other _ _ (fun c => hr (c ▸ hi))
    rw [e, List.nodup_append]
    refine ⟨h.bnd, by simp, fun a ha b hb c => ?_⟩
    obtain ⟨i, hi, rfl⟩ := List.mem_map.1 ha
    have := h.blt i hi
    rw [List.mem_singleton.1 hb] at c
    omega
  · intro i hi
    simp only [List.map_append, List.map_cons, List.map_nil, List.mem_append, List.mem_singleton] at hi
    show updn L.born r.id L.clock i < L.clock + 1
    rcases hi with h1 | h1
    · rw [updn_other (i := r.id) (j := i) _ _ (fun c => hr (by rw [← c]; exact h1))]
      have := h.blt i h1
      omega
    · rw [h1, updn_same]; omega
end Go.Proofs.YtllpoaoboieijaaGreat
