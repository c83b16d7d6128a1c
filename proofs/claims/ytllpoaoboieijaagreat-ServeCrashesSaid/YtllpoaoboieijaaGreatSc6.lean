/-
  ServeCrashes: the law's state, and what each call makes of it.
  ServeCrashes: Resume in the law.
-/
import Derived.Test.YtllpoaoboieijaaGreatSc5
/-
  ServeCrashes: the law's state, and what each call makes of it.
-/
namespace Go.Proofs.YtllpoaoboieijaaGreat
open Go.RowKit

theorem below_drawn (w : World) (k : Nat) : Below w.heap.size w (w.drewN k) := ⟨rfl, rfl, rfl, Nat.le_refl _, fun _ _ => rfl⟩
theorem ans_any (own : Nat → Lb) (sb : Nat) (L : Lay) (S : Srv) (w : World) (h : SrvAt own w sb L S) (hi : CInv S) (id : Int) :
    Calls Tryz.prog 17 #[.pointer (some ⟨sb, 0, none⟩), .int .i64 id] w fun e w' => Hid (Below w.heap.size w w') ∧ ∃ (A : Option Addr) (c : Nat), e = .returned (.tuple #[.slice A (ansOf S id).1.length c, .int .i64 (ansOf S id).2.1, .bool (ansOf S id).2.2]) ∧ Hid (Rd w' (.slice A (ansOf S id).1.length c) (ansOf S id).1) := by
  unfold ansOf
  cases hg : S.get id with
  | none =>
    refine (answer_none own sb L S id w h hg).mono ?_
    rintro e w' ⟨rfl, k, rfl⟩
    exact ⟨Lib.hid (below_drawn w k), none, 0, rfl, Lib.hid (Rd.nil _)⟩
  | some r =>
    simp only
    have hm := get_mem hg
    obtain rfl := hm.2
    by_cases ht : (r.ended && (S.replay || decide (r.kept ≤ S.synced))) = true
    · rw [if_pos ht]
      by_cases he : r.err = 0
      · rw [if_pos he]
        have hw := hi.wf.req r hm.1
        have hen : r.ended = true := by
          rw [Bool.and_eq_true] at ht; exact ht.1
        have hf := hi.fin r hm.1 hen he
        have hl := hw.toks
        have hent := hw.ent
        refine (answer_ok own sb L S r w h hg ht he (by omega) (by omega)).mono ?_
        rintro e w' ⟨v, rfl, hb, ho⟩
        obtain ⟨A, c, rfl⟩ := ownsRow_shape ho
        exact ⟨Lib.hid hb, A, c, rfl, Lib.hid (rd_owned ho)⟩
      · rw [if_neg he]
        refine (answer_err own sb L S r w h hg ht he).mono ?_
        rintro e w' ⟨rfl, k, rfl⟩
        exact ⟨Lib.hid (below_drawn w k), none, 0, rfl, Lib.hid (Rd.nil _)⟩
    · rw [if_neg ht]
      refine (answer_untold own sb L S r w h hg (by simpa using ht)).mono ?_
      rintro e w' ⟨rfl, k, rfl⟩
      exact ⟨Lib.hid (below_drawn w k), none, 0, rfl, Lib.hid (Rd.nil _)⟩

def cnfCells (cf : Cnf) : List Value := [.int .i64 cf.pages, .int .i64 cf.size, .int .i64 cf.batch, .int .i64 cf.queue]
/-- The past of a server: at most N calls. -/
def Past (cf : Cnf) (N : Nat) (S : Srv) : Prop := ∃ n c f, Hist cf n c f ∧ n ≤ N ∧ S.fl 0 false = f n
structure LC (w0 : World) (V : Value) (Ls : List Int) (p : MPl) (xb mb : Nat) (cf : Cnf) (own : Nat → Lb) (w : World) (sb : Nat) (L : Lay) (S : Srv) (K N : Nat) : Prop where
  srv : SrvAt own w sb L S
  ok : cf.ok = true
  past : Past cf N S
  rep : S.replay = false
  syn : 28 ≤ S.synced ∧ S.synced ≤ (S.log.length : Int)
  st : St w xb V Ls K
  stl : own xb = .other
  vl : 0 < Ls.length → ∀ b, V.ownBlock = some b → own b = .other
  mdl : BlkO xb own w mb (demoCells p) 27
  cnf : BlkO xb own w (mb + 1) (cnfCells cf) 30
  dem : DemO xb own w p
  low : ∀ b, b < w0.heap.size → Oth xb own b
  bel : Below w0.heap.size w0 w
section
variable {w0 : World} {V : Value} {Ls : List Int} {p : MPl} {xb mb : Nat} {cf : Cnf} {own own' : Nat → Lb} {w w' : World} {sb : Nat} {L L' : Lay} {S S' : Srv} {K N : Nat}
theorem LC.at' (h : LC w0 V Ls p xb mb cf own w sb L S K N) (hN : N ≤ 1000) : CInv S ∧ 0 ≤ S.now ∧ S.now ≤ (N : Int) ∧ 0 ≤ S.records ∧ S.records ≤ (N : Int) := by
  obtain ⟨n, c, f, hh, hn, e⟩ := h.past
  have k := hh.at' h.ok (by omega) n (Nat.le_refl _)
  rw [← e] at k
  have k1 := k.now0; have k2 := k.now1; have k3 := k.rcs
  exact ⟨k.inv.of_fl, k1, by show (S.fl 0 false).now ≤ _; omega, by show 0 ≤ (S.fl 0 false).records; omega, by show (S.fl 0 false).records ≤ _; omega⟩
theorem LC.asks (h : LC w0 V Ls p xb mb cf own w sb L S K N) {K' : Nat} (ha : Asks xb V Ls K' w w') : LC w0 V Ls p xb mb cf (relab own w.heap.size .other) w' sb L S K' N := by
  have hm : Mv xb own w (relab own w.heap.size .other) w' := Mv.of_keep ha.1
  have hx := h.st.lt
  refine ⟨h.srv.other (Ext.of_keep ha.1 h.stl) (fun _ e => e), h.ok, h.past, h.rep, h.syn, ha.2, by rw [relab_old _ hx]; exact h.stl, fun h0 b hb => ?_, h.mdl.mv hm, h.cnf.mv hm, h.dem.mv hm, fun b hb => (h.low b hb).relab _, ?_⟩
  · by_cases c : b < w.heap.size
    · rw [relab_old _ c]; exact h.vl h0 b hb
    · exact relab_new _ (by omega)
  · exact h.bel.trans ⟨ha.1.os, ha.1.tape, ha.1.output, ha.1.size, fun b hb => ha.1.block b (by have := h.bel.size; omega) (h.low b hb).2⟩
theorem LC.below (h : LC w0 V Ls p xb mb cf own w sb L S K N) (hb : Below w.heap.size w w') : LC w0 V Ls p xb mb cf (relab own w.heap.size .other) w' sb L S K N :=
  h.asks ⟨Keep.of_below hb, h.st.below hb⟩
theorem LC.mono (h : LC w0 V Ls p xb mb cf own w sb L S K N) {K' N' : Nat} (hk : K ≤ K') (hn : N ≤ N') : LC w0 V Ls p xb mb cf own w sb L S K' N' :=
  { h with st := h.st.mono hk, past := (by obtain ⟨n, c, f, hh, h1, e⟩ := h.past; exact ⟨n, c, f, hh, by omega, e⟩) }
/-- Another server, at another place, which does not write what is ours. -/
theorem LC.swap (h : LC w0 V Ls p xb mb cf own w sb L S K N) {sb' : Nat} {N' : Nat} (hl : ∀ b, b < w.heap.size → own' b = own b ∨ own' b = .other) (hk : ∀ b, b < w.heap.size → Oth xb own b → w'.heap[b]? = w.heap[b]?) (hx : w'.heap[xb]? = w.heap[xb]?) (hs : w.heap.size ≤ w'.heap.size) (hos : w'.os = w.os ∧ w'.tape = w.tape ∧ w'.output = w.output)
    (h' : SrvAt own' w' sb' L' S') (hp : Past cf N' S') (hr : S'.replay = false) (hy : 28 ≤ S'.synced ∧ S'.synced ≤ (S'.log.length : Int)) : LC w0 V Ls p xb mb cf own' w' sb' L' S' K N' := by
  have hlt := h.st.lt
  have hoth : ∀ b, b < w.heap.size → own b = .other → own' b = .other := fun b hb e => by
    rcases hl b hb with a | a
    · rw [a]; exact e
    · exact a
  -- labels as in 'own', but for what is no more the server's
  have hm : Mv xb own w (fun b => if b < w.heap.size then own b else own' b) w' := ⟨hs, fun b hb => by simp [hb], fun b hb ho => hk b hb ho⟩
  have ho : ∀ b, b < w.heap.size → Oth xb own b → Oth xb own' b := fun b hb e => ⟨hoth b hb e.1, e.2⟩
  refine ⟨h', h.ok, hp, hr, hy, ?_, hoth xb hlt h.stl, fun h0 b hb => ?_, ⟨(h.mdl.mv hm).1, ho _ h.mdl.1.lt h.mdl.2⟩, ⟨(h.cnf.mv hm).1, ho _ h.cnf.1.lt h.cnf.2⟩, ?_, fun b hb => ho b (by have := h.bel.size; omega) (h.low b hb), ?_⟩
  · obtain ⟨a, h1, h2, h3, h4⟩ := h.st
    refine ⟨a, h1, ?_, h3.block fun b hb hvb h0 => ?_, h4⟩
    · unfold Blk at h2 ⊢; rw [hx]; exact h2
    · by_cases e : b = xb
      · exact absurd (e ▸ hvb) (h4 h0)
      · exact hk b hb ⟨h.vl h0 b hvb, e⟩
  · have hlt' : b < w.heap.size := by
      obtain ⟨_, _, _, h3, _⟩ := h.st
      exact h3.lt h0 b hb
    exact hoth b hlt' (h.vl h0 b hb)
  · have hd := h.dem
    obtain ⟨d1, d2, d3, d4, d5, d6, d7⟩ := demo_pos
    exact ⟨⟨(hd.cuts.mv hm d1).1, ho _ (hd.cuts.1.lt d1) hd.cuts.2⟩, ⟨(hd.embed.mv hm d2).1, ho _ (hd.embed.1.lt d2) hd.embed.2⟩, ⟨(hd.place.mv hm d3).1, ho _ (hd.place.1.lt d3) hd.place.2⟩, ⟨(hd.mix.mv hm d4).1, ho _ (hd.mix.1.lt d4) hd.mix.2⟩, ⟨(hd.out.mv hm d5).1, ho _ (hd.out.1.lt d5) hd.out.2⟩, ⟨(hd.soft.mv hm d6).1, ho _ (hd.soft.1.lt d6) hd.soft.2⟩, ⟨(hd.odds.mv hm d7).1, ho _ (hd.odds.1.lt d7) hd.odds.2⟩⟩
  · exact h.bel.trans ⟨hos.1, hos.2.1, hos.2.2, hs, fun b hb => hk b (by have := h.bel.size; omega) (h.low b hb)⟩
/-- The server goes on. -/
theorem LC.go (h : LC w0 V Ls p xb mb cf own w sb L S K N) {N' : Nat} {T : Lb → Prop} (x : Ext own w own' w' T) (hT : ¬ T .other) (h' : SrvAt own' w' sb L' S') (hp : Past cf N' S') (hr : S'.replay = false) (hy : 28 ≤ S'.synced ∧ S'.synced ≤ (S'.log.length : Int)) : LC w0 V Ls p xb mb cf own' w' sb L' S' K N' :=
  h.swap (fun b hb => .inl (x.lab b hb)) (fun b hb ho => x.keep b hb (by rw [ho.1]; exact hT)) (x.keep xb h.st.lt (by rw [h.stl]; exact hT)) x.size ⟨x.os, x.tape, x.output⟩ h' hp hr hy
theorem Past.more (h : Past cf N S) {T : Srv} {d : Cmd} (hd : Did d S T) : Past cf (N + 1) T := by
  obtain ⟨n, c, f, hh, hn, e⟩ := h
  refine ⟨n + 1, _, _, hh.more e hd, by omega, ?_⟩
  simp
theorem Past.same (h : Past cf N S) {T : Srv} (e : T.fl 0 false = S.fl 0 false) : Past cf N T := by
  obtain ⟨n, c, f, hh, hn, e'⟩ := h
  exact ⟨n, c, f, hh, hn, e.trans e'⟩
theorem Past.weak (h : Past cf N S) {N' : Nat} (hn : N ≤ N') : Past cf N' S := by
  obtain ⟨n, c, f, hh, h1, e⟩ := h
  exact ⟨n, c, f, hh, by omega, e⟩
theorem LC.did (h : LC w0 V Ls p xb mb cf own w sb L S K N) (hN : N ≤ 900) {T : Srv} {d : Cmd} (hd : Did d S T) (hfl : T.replay = S.replay ∧ T.synced = S.synced) {P : Lb → Prop} (x : Ext own w own' w' P) (hP : ¬ P .other) (h' : SrvAt own' w' sb L' T) : LC w0 V Ls p xb mb cf own' w' sb L' T K (N + 1) := by
  have hc := h.at' (by omega)
  have hr := (did_rcd hc.1 ⟨hc.2.1, by omega⟩ (by omega) hd).1
  have hlog : (S.log.length : Int) ≤ T.log.length := by rw [hr.log, List.length_append]; omega
  exact h.go x hP h' (h.past.more hd) (hfl.1.trans h.rep) (by rw [hfl.2]; have := h.syn; omega)
theorem ticked_fl (S : Srv) (ys zs : List Req) : (S.ticked tokF ys zs).replay = S.replay ∧ (S.ticked tokF ys zs).synced = S.synced := by
  have e := fl_ticked S.synced S.replay tokF S ys zs
  rw [show S.fl S.synced S.replay = S from rfl] at e
  constructor
  · rw [e]; rfl
  · rw [e]; rfl
theorem lc_tick (h : LC w0 V Ls p xb mb cf own w sb L S K N) (hN : N ≤ 900) :
    Calls Tryz.prog 14 #[.pointer (some ⟨sb, 0, none⟩)] w fun e w' => e = .returned (.int .i64 0) ∧ ∃ own' L' S', Hid (LC w0 V Ls p xb mb cf own' w' sb L' S' K (N + 1)) := by
  have hc := h.at' (by omega)
  refine (tick_any compute_any next_said tokOk own sb L S w h.srv hc.1.wf (by have := hc.1.few; omega) (cloglen hc.1 (by omega)) (by omega)).mono ?_
  rintro e w' ⟨ys, zs, hy, hz, rfl, own', L', h', -, x⟩
  exact ⟨rfl, own', L', _, Lib.hid (h.did (d := .tick) hN ⟨ys, zs, hy, hz, rfl⟩ (ticked_fl S ys zs) x Tin_other h')⟩
theorem lc_cancel (h : LC w0 V Ls p xb mb cf own w sb L S K N) (hN : N ≤ 900) (id : Int) :
    Calls Tryz.prog 21 #[.pointer (some ⟨sb, 0, none⟩), .int .i64 id] w fun e w' => ∃ r : Int, e = .returned (.int .i64 r) ∧ ∃ own' L' S', Hid (LC w0 V Ls p xb mb cf own' w' sb L' S' K (N + 1)) := by
  have hc := h.at' (by omega)
  cases hg : S.get id with
  | none =>
    refine (cancel_none own sb L S id w h.srv hg).mono ?_
    rintro e w' ⟨rfl, k, rfl⟩
    exact ⟨_, rfl, _, L, S, Lib.hid ((h.below (below_drawn w k)).mono (Nat.le_refl _) (by omega))⟩
  | some r =>
    have hm := get_mem hg
    obtain rfl := hm.2
    cases he : r.ended with
    | true =>
      refine (cancel_ended own sb L S r w h.srv hg he).mono ?_
      rintro e w' ⟨rfl, k, rfl⟩
      exact ⟨_, rfl, _, L, S, Lib.hid ((h.below (below_drawn w k)).mono (Nat.le_refl _) (by omega))⟩
    | false =>
      refine (cancel_open own sb L S r w h.srv hc.1 (by omega) hg he).mono ?_
      rintro e w' ⟨rfl, own', L', h', -, x⟩
      exact ⟨_, rfl, own', L', _, Lib.hid (h.did (d := .can r.id) hN ⟨r, hg, he, rfl⟩ ⟨rfl, rfl⟩ x Tin_other h')⟩
theorem lc_sync (h : LC w0 V Ls p xb mb cf own w sb L S K N) (hN : N ≤ 900) :
    Calls Tryz.prog 16 #[.pointer (some ⟨sb, 0, none⟩)] w fun e w' => e = .returned (.tuple #[]) ∧ ∃ own' L' S', Hid (LC w0 V Ls p xb mb cf own' w' sb L' S' K (N + 1)) := by
  have hc := h.at' (by omega)
  refine (sync_any own sb L S w h.srv).mono ?_
  rintro e w' ⟨rfl, own', L', h', -, x⟩
  exact ⟨rfl, own', L', _, Lib.hid (h.go x Tin_other h' (Past.weak (h.past.same rfl) (by omega)) h.rep ⟨by have := hc.1.log0; show (28 : Int) ≤ S.log.length; omega, Int.le_refl _⟩)⟩
theorem lc_asked (h : LC w0 V Ls p xb mb cf own w sb L S K N) (hK : K ≤ 400000) (now : Int) (hnow : 0 ≤ now ∧ now ≤ 150) :
    Calls Tryz.prog 11 #[.pointer (some ⟨xb, 0, none⟩), .agg (demoCells p).toArray, .int .i64 now] w fun e w' => ∃ (q : Ask) (A : Option Addr) (c : Nat), e = .returned (q.val A c) ∧ ∃ own', Hid (LC w0 V Ls p xb mb cf own' w' sb L S (K + 40) N) ∧ Hid (q.id ≤ 9 ∧ q.deadline ≤ 200) ∧ Hid (RdO own' w' (.slice A q.prompt.length c) (ints q.prompt)) ∧ Hid (Keep xb w w') := by
  refine (Asked_st xb V Ls (Request_st xb V Ls) p now ⟨hnow.1, by omega⟩ K hK w h.st).mono ?_
  rintro e w' ⟨q, A, c, rfl, h9, hd, h40, hrow, ha⟩
  refine ⟨q, A, c, rfl, _, Lib.hid (h.asks ha.out), Lib.hid ⟨h9.out, by have := hd.out; omega⟩, Lib.hid ⟨rdv_row hrow.out, fun _ k hk => relab_new _ (hrow.out.lt k hk).1⟩, Lib.hid ha.out.1⟩
theorem lc_submit (h : LC w0 V Ls p xb mb cf own w sb L S K N) (hN : N ≤ 900) (q : Ask) (A : Option Addr) (c : Nat) (hq : q.id ≤ 9 ∧ q.deadline ≤ 200) (hr : RdO own w (.slice A q.prompt.length c) (ints q.prompt)) :
    Calls Tryz.prog 13 #[.pointer (some ⟨sb, 0, none⟩), q.val A c] w fun e w' => ∃ r : Int, e = .returned (.int .i64 r) ∧ ∃ own' L' S', Hid (LC w0 V Ls p xb mb cf own' w' sb L' S' K (N + 1)) := by
  have hc := h.at' (by omega)
  refine (csub_any own sb L S q A c w h.srv hc.1 (by omega) hr).mono ?_
  rintro e w' ⟨T, rfl, ⟨own', L', h', x⟩, h0, h1⟩
  by_cases hz : accAll S q = 0
  · have := h0 hz
    subst this
    exact ⟨_, rfl, own', L', _, Lib.hid (h.did (d := .sub q) hN ⟨hz, hq.1, hq.2, rfl⟩ ⟨rfl, rfl⟩ x Tin_other h')⟩
  · have := h1 hz
    subst this
    exact ⟨_, rfl, own', L', _, Lib.hid (h.go x Tin_other h' (h.past.weak (by omega)) h.rep h.syn)⟩
end
end Go.Proofs.YtllpoaoboieijaaGreat
/-
  ServeCrashes: Resume in the law.
-/
namespace Go.Proofs.YtllpoaoboieijaaGreat
open Go.RowKit

/-- The server behind the crash, beside the one ahead of it. -/
structure Two (cf : Cnf) (N : Nat) (S R : Srv) (n0 : Nat) (own2 : Nat → Lb) (w' : World) (sb' : Nat) (L2 : Lay) : Prop where
  srv : SrvAt own2 w' sb' L2 R
  oth : ∀ b, b < n0 → own2 b = .other
  past : Past cf N R
  rep : R.replay = false
  syn : 28 ≤ R.synced ∧ R.synced ≤ (R.log.length : Int)
  inv : CInv R
  ans : ∀ id, (ansOf S id).2.2 = true → ansOf R id = ansOf S id
section
variable {w0 : World} {V : Value} {Ls : List Int} {p : MPl} {xb mb : Nat} {cf : Cnf} {own own' : Nat → Lb} {w w' : World} {sb : Nat} {L L' : Lay} {S S' : Srv} {K N : Nat}
theorem Two.below {R : Srv} {n0 : Nat} {own2 : Nat → Lb} {sb' : Nat} {L2 : Lay} (h : Two cf N S R n0 own2 w sb' L2) (hb : Below w.heap.size w w') (hn : n0 ≤ w.heap.size) : Two cf N S R n0 (relab own2 w.heap.size .other) w' sb' L2 :=
  ⟨h.srv.below hb, fun b hb' => by rw [relab_old _ (by omega)]; exact h.oth b hb', h.past, h.rep, h.syn, h.inv, h.ans⟩
theorem lc_resume (h : LC w0 V Ls p xb mb cf own w sb L S K N) (hN : N ≤ 900) (k : Nat) (hk : S.synced ≤ (k : Int)) (hk1 : k ≤ S.log.length) (g o cp : Nat) (hr : RdV w (.slice (some ⟨g, o, none⟩) k cp) (bys (S.log.take k))) :
    Calls Tryz.prog 22 #[.agg (demoCells p).toArray, cf.val, .slice (some ⟨g, o, none⟩) k cp] w fun e w' => ∃ sb', e = .returned (.tuple #[.pointer (some ⟨sb', 0, none⟩), .int .i64 0]) ∧ Hid (Below w.heap.size w w') ∧ ∃ own2 L2 R, Hid (Two cf N S R w.heap.size own2 w' sb' L2) := by
  obtain ⟨n, c, f, hh, hn, e⟩ := h.past
  have hlog : S.log = (f n).log := by rw [← e]; rfl
  have hsy := h.syn
  refine (resume_any p cf h.ok hh (by omega) k (by omega) (by rw [← hlog]; exact hk1) g o cp w h.dem.at' (by rw [← hlog]; exact hr)).mono ?_
  rintro e' w' ⟨sb', rfl, hb, hg⟩
  obtain ⟨own2, L2, R, m, h1, h2, h3, h4, h5, h6, h7, h8⟩ := hg.out
  have hat := hh.at' h.ok (by omega) m h3
  have hcr : CInv R := by
    have := hat.inv
    rw [← h4] at this; exact this.of_fl
  refine ⟨sb', rfl, hb, own2, L2, R, Lib.hid ⟨h1, h2, ⟨m, c, f, hh.cut h3, by omega, h4⟩, h5, ⟨by rw [h6]; have := hcr.log0; omega, by rw [h6]; exact Int.le_refl _⟩, hcr, fun id ht => ?_⟩⟩
  exact told_again hh h.ok (by omega) h3 h7 e h.rep hk h4 h6 id ht
/-- The server behind the crash takes the place of the one ahead of it. -/
theorem LC.crash (h : LC w0 V Ls p xb mb cf own w sb L S K N) {R : Srv} {own2 : Nat → Lb} {sb' : Nat} {L2 : Lay} (hb : Below w.heap.size w w') (h2 : Two cf N S R w.heap.size own2 w' sb' L2) : LC w0 V Ls p xb mb cf own2 w' sb' L2 R K N :=
  h.swap (fun b hb' => .inr (h2.oth b hb')) (fun b hb' _ => hb.block b hb') (hb.block xb h.st.lt) hb.size ⟨hb.os, hb.tape, hb.output⟩ h2.srv h2.past h2.rep h2.syn
end
end Go.Proofs.YtllpoaoboieijaaGreat
