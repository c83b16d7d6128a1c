/-
  spare: a page that can be taken.
  page: a page for a request; others may lose theirs.
  What holds of every server: bounds.
-/
import Derived.Deep.LoopGhost
import Derived.Test.YtllpoaoboieijaaGreatSa2
import Derived.Test.YtllpoaoboieijaaGreatSa3
/-
  spare: a page that can be taken.
-/
namespace Go.Proofs.YtllpoaoboieijaaGreat
open Go.RowKit

set_option maxRecDepth 100000 in
set_option maxHeartbeats 400000 in
theorem spare_any (own : Nat → Lb) (sb : Nat) (L : Lay) (S : Srv) (w : World) (h : SrvAt own w sb L S) (hn : S.pages.length ≤ 64) :
    Calls Tryz.prog 115 #[.pointer (some ⟨sb, 0, none⟩)] w fun e w' =>
      e = .returned (.tuple #[.int .i64 S.spare.1, .bool S.spare.2]) ∧ Below w.heap.size w w' := by
  have c2 := h.blk.cell
  have l2 := h.blk.lt
  simp only [srvCells] at c2
  by_cases hk : 0 ≤ idxPg spareP S.pages
  · have HE := Lib.hid (show S.spare = (idxPg spareP S.pages, true) by unfold Srv.spare; rw [if_pos hk])
    have H0 := Lib.hid (idxSpare_any own sb L S w h hn)
    generalize idxPg spareP S.pages = k at HE H0 hk
    go_enter Tryz.func115, Tryz.ntmps115
    go_wp2_with fail
    refine H0.out.mono ?_
    rintro e w1 ⟨rfl, hb1⟩
    go_wp2
    go_ret2
    exact ⟨ret_ib HE.out, hb1⟩
  · have HE := Lib.hid (show S.spare = (bestTo S.pages S.pages.length, decide (0 ≤ bestTo S.pages S.pages.length)) by unfold Srv.spare; rw [if_neg hk])
    have H0 := Lib.hid (idxSpare_any own sb L S w h hn)
    generalize idxPg spareP S.pages = k at H0 hk
    go_enter Tryz.func115, Tryz.ntmps115
    go_wp2_with fail
    refine H0.out.mono ?_
    rintro e w1 ⟨rfl, hb1⟩
    have c3 : ∀ o, w1.cell? ⟨sb, o, none⟩ = _ := fun o => (hb1.cell (p := ⟨sb, o, none⟩) l2).trans (c2 o)
    clear c2
    go_wp2
    clear c3
    go_loopw [5, 21] (fun b i wr => ∃ j : Nat, i = .int .i64 j ∧ j ≤ S.pages.length ∧ b = .int .i64 (bestTo S.pages j) ∧ Below w.heap.size w wr) (fun _ i _ => S.pages.length - (intOf i).toNat)
    case atStart => exact ⟨0, rfl, Nat.zero_le _, rfl, hb1⟩
    case round =>
      obtain ⟨j, rfl, hj, rfl, hb⟩ := hrel
      by_cases hlt : j < S.pages.length
      · obtain ⟨p, hp⟩ : ∃ p, S.pages[j]? = some p := ⟨_, List.getElem?_eq_getElem hlt⟩
        have q0 := h.page_below hb hp 0 (by omega)
        have q1 := h.page_below hb hp 1 (by omega)
        have q2 := h.page_below hb hp 2 (by omega)
        have q3 := h.page_below hb hp 3 (by omega)
        obtain ⟨PA, pc, hpt, _, _⟩ := (h.ptok j p hp).shape
        simp [pgCells] at q0 q1 q2 q3
        rw [hpt] at q1
        clear hpt
        have HS := Lib.hid (show bestTo S.pages (j + 1) = if p.owners = 0 ∧ (bestTo S.pages j < 0 ∨ p.used < usedAt S.pages (bestTo S.pages j)) then (j : Int) else bestTo S.pages j by rw [bestTo]; rw [hp])
        have hbl := bestTo_lt S.pages j
        have c4 : ∀ o, wr.cell? ⟨sb, o, none⟩ = _ := fun o => (hb.cell (p := ⟨sb, o, none⟩) l2).trans (h.blk.cell o)
        have lpb := Nat.lt_of_lt_of_le h.pgs.lt hb.size
        have lsb := Nat.lt_of_lt_of_le l2 hb.size
        simp only [srvCells] at c4
        generalize bestTo S.pages j = b at *
        have hz : w.heap.size ≤ wr.heap.size := hb.size
        by_cases e1 : (p.owners == 0) = true
        · have o1 : p.owners = 0 := by simpa using e1
          have O1 := Lib.hid o1
          clear o1
          by_cases e2 : decide (b < 0) = true
          · have B1 : b < 0 := by simpa using e2
            go_wp2
            go_quiet (fail)
            go_wp2
            go_roundw
            case rel => exact ⟨j + 1, by go_num, by omega, by rw [HS.out, if_pos ⟨O1.out, .inl B1⟩], below_drewN (hb.alloc hz _) _⟩
            case measure => simp [intOf]; omega
          · have e2' : decide (b < 0) = false := by simpa using e2
            have B0 : ¬ b < 0 := by simpa using e2
            clear e2
            obtain ⟨bn, rfl⟩ : ∃ bn : Nat, b = (bn : Int) := ⟨b.toNat, by omega⟩
            have hbn : bn < S.pages.length := by omega
            obtain ⟨q, hq⟩ : ∃ q, S.pages[bn]? = some q := ⟨_, List.getElem?_eq_getElem hbn⟩
            have r3 := h.page_below hb hq 3 (by omega)
            simp [pgCells] at r3
            have hu : usedAt S.pages (bn : Int) = q.used := by simp [usedAt, hq]
            have HU := Lib.hid hu
            clear hu
            by_cases e3 : decide (p.used < q.used) = true
            · have B3 : p.used < q.used := by simpa using e3
              go_wp2
              go_quiet (fail)
              go_wp2
              go_roundw
              case rel => exact ⟨j + 1, by go_num, by omega, by rw [HS.out, if_pos ⟨O1.out, .inr (by rw [HU.out]; exact B3)⟩], below_drewN (hb.alloc hz _) _⟩
              case measure => simp [intOf]; omega
            · have e3' : decide (p.used < q.used) = false := by simpa using e3
              have B3 : ¬ p.used < q.used := by simpa using e3
              clear e3
              go_wp2
              go_quiet (fail)
              go_wp2
              go_roundw
              case rel => exact ⟨j + 1, by go_num, by omega, by rw [HS.out, if_neg (fun c => by rcases c.2 with c | c; omega; rw [HU.out] at c; omega)], below_drewN (hb.alloc hz _) _⟩
              case measure => simp [intOf]; omega
        · have e1' : (p.owners == 0) = false := by simpa using e1
          have o1 : ¬ p.owners = 0 := by simpa using e1
          have O1 := Lib.hid o1
          clear o1 e1
          go_wp2
          go_quiet (fail)
          go_wp2
          go_roundw
          case rel => exact ⟨j + 1, by go_num, by omega, by rw [HS.out, if_neg (fun c => O1.out c.1)], below_drewN (hb.alloc hz _) _⟩
          case measure => simp [intOf]; omega
      · obtain rfl : j = S.pages.length := by omega
        generalize bestTo S.pages S.pages.length = b at *
        go_wp2
        go_ret2
        exact ⟨ret_ib HE.out, hb⟩
end Go.Proofs.YtllpoaoboieijaaGreat
/-
  page: a page for a request; others may lose theirs.
-/
namespace Go.Proofs.YtllpoaoboieijaaGreat
open Go.RowKit

/-- A slice of values that can be read. -/
def RdV (w : World) (v : Value) (xs : List Value) : Prop :=
  ∃ A c, v = .slice A xs.length c ∧ xs.length ≤ c ∧ c ≤ maxLen ∧ (0 < xs.length → ∃ b o, A = some ⟨b, o, none⟩ ∧ ∀ i (h : i < xs.length), w.cell? ⟨b, o + i, none⟩ = some xs[i])
/-- .. in a block that is none of the server's. -/
def RdO (own : Nat → Lb) (w : World) (v : Value) (xs : List Value) : Prop := RdV w v xs ∧ (0 < xs.length → ∀ k, v.ownBlock = some k → own k = .other)
theorem RdV.lt {w : World} {v : Value} {xs : List Value} (h : RdV w v xs) (h0 : 0 < xs.length) : ∀ b, v.ownBlock = some b → b < w.heap.size := by
  obtain ⟨A, c, rfl, h1, h2, h3⟩ := h
  obtain ⟨b, o, rfl, hr⟩ := h3 h0
  intro b' hb
  have : b = b' := by simpa [Value.ownBlock] using hb
  subst this
  exact World.block_lt_of_cell? w _ (hr 0 h0)
theorem RdO.ext {o1 o2 : Nat → Lb} {w w' : World} {T : Lb → Prop} (x : Ext o1 w o2 w' T) {v : Value} {xs : List Value} (h : RdO o1 w v xs) (ht : ¬ T .other) : RdO o2 w' v xs := by
  obtain ⟨h1, h2⟩ := h
  by_cases h0 : 0 < xs.length
  · have hlt := h1.lt h0
    obtain ⟨A, c, rfl, a1, a2, a3⟩ := h1
    obtain ⟨b, o, rfl, hr⟩ := a3 h0
    have hb := hlt b rfl
    have hl := h2 h0 b rfl
    refine ⟨⟨_, c, rfl, a1, a2, fun _ => ⟨b, o, rfl, fun i hi => ?_⟩⟩, fun _ k hk => ?_⟩
    · rw [World.cell?_of_block (a := ⟨b, o + i, none⟩) (x.keep b hb (by rw [hl]; exact ht))]; exact hr i hi
    · have : b = k := by simpa [Value.ownBlock] using hk
      subst this
      rw [x.lab b hb]; exact hl
  · obtain ⟨A, c, rfl, a1, a2, a3⟩ := h1
    exact ⟨⟨A, c, rfl, a1, a2, fun h => absurd h h0⟩, fun h => absurd h h0⟩

/-- All that is the server's. -/
def Tin : Lb → Prop := fun l => l ≠ .other
theorem Tin_pg : ∀ l, Tpg l → Tin l := fun l h => by rw [show l = .pgs from h]; intro e; cases e
theorem Tin_gb (i : Int) : ∀ l, Tgb i l → Tin l := fun l h => by rcases h with h | h <;> (rw [h]; intro e; cases e)
theorem Tin_other : ¬ Tin .other := fun h => h rfl
theorem Tin_req (i : Int) : ∀ l, l = Lb.req i → Tin l := fun l h => by rw [h]; intro e; cases e

/-- Four cells of a page are stored. -/
theorem page_store {own : Nat → Lb} {w : World} {sb : Nat} {L : Lay} {S : Srv} (hs : SrvAt own w sb L S) {k : Nat} {p : Pg} (hp : S.pages[k]? = some p) (p' : Pg) (tv : Value)
    (ho : ∀ w', Ext own w own w' Tpg → Owns own (.ptok k) w' 3 1 tv p'.toks.length (ints p'.toks)) :
    let w' := ((((w.setCell ⟨L.pb, k * 4, none⟩ (.int .i64 p'.start)).setCell ⟨L.pb, k * 4 + 1, none⟩ tv).setCell ⟨L.pb, k * 4 + 2, none⟩ (.int .i64 p'.owners)).setCell ⟨L.pb, k * 4 + 3, none⟩ (.int .i64 p'.used))
    Ext own w own w' Tpg ∧ SrvAt own w' sb { L with pt := fun j => if j = k then tv else L.pt j } { S with pages := S.pages.set k p' } := by
  intro w'
  have st : ∀ (w : World) (i : Nat) (v : Value), Ext own w own (w.setCell ⟨L.pb, i, none⟩ v) Tpg := fun w i v => Ext.setCell _ _ hs.plab
  have x : Ext own w own w' Tpg := (((st _ _ _).trans (st _ _ _)).trans (st _ _ _)).trans (st _ _ _)
  have hlen := pgs_len (L := L) hp
  have hb : Blk w' L.pb ((((pgsCells S.pages L.pt).set (k * 4) (.int .i64 p'.start)).set (k * 4 + 1) tv).set (k * 4 + 2) (.int .i64 p'.owners) |>.set (k * 4 + 3) (.int .i64 p'.used)) 106 :=
    (((hs.pgs.set (k * 4) _).set (k * 4 + 1) _).set (k * 4 + 2) _).set (k * 4 + 3) _
  refine ⟨x, hs.page_set x hp p' tv hb (by simp) (fun j hj => ?_) ?_ ?_ ?_ ?_ (ho _ x)⟩
  · rw [List.getElem?_set_ne (by omega), List.getElem?_set_ne (by omega), List.getElem?_set_ne (by omega), List.getElem?_set_ne (by omega)]
  · rw [List.getElem?_set_ne (by omega), List.getElem?_set_ne (by omega), List.getElem?_set_ne (by omega), List.getElem?_set_self (by omega)]
  · rw [List.getElem?_set_ne (by omega), List.getElem?_set_ne (by omega), List.getElem?_set_self (by simp; omega)]
  · rw [List.getElem?_set_ne (by omega), List.getElem?_set_self (by simp; omega)]
  · rw [List.getElem?_set_self (by simp; omega)]

theorem idxPg_lt (f : Pg → Bool) (ps : List Pg) : idxPg f ps = -1 ∨ (0 ≤ idxPg f ps ∧ idxPg f ps < ps.length) := by
  unfold idxPg
  split
  · rename_i k hk
    rw [List.findIdx?_eq_some_iff_getElem] at hk
    obtain ⟨h, _⟩ := hk
    exact .inr ⟨by omega, by omega⟩
  · exact .inl rfl
theorem spare_lt (S : Srv) (h : S.spare.2 = true) : 0 ≤ S.spare.1 ∧ S.spare.1 < S.pages.length := by
  unfold Srv.spare at h ⊢
  simp only at h ⊢
  split at h
  · rename_i hk
    rw [if_pos hk]
    rcases idxPg_lt spareP S.pages with h1 | h1
    · omega
    · exact h1
  · rename_i hk
    rw [if_neg hk]
    have h2 : 0 ≤ bestTo S.pages S.pages.length := by simpa using h
    rcases bestTo_lt S.pages S.pages.length with h1 | ⟨h1, _, h3⟩
    · omega
    · exact ⟨h1, h3⟩

def Srv.get (S : Srv) (id : Int) : Option Req := S.reqs.find? fun r => decide (r.id = id)
/-- The last one of the first n behind that holds pages and was not worked on. -/
def victimTo (S : Srv) (beh : List Int) : Nat → Option Req
  | 0 => none
  | n + 1 =>
    match (beh[n]?).bind S.get with
    | some r => if r.holds.length = 0 ∨ r.worked = true then victimTo S beh n else some r
    | none => none
def Srv.takeFrom (S : Srv) (r : Req) : Srv := ({ S with pages := relAll S.pageSize S.pages r.holds } : Srv).put { r with holds := [], entries := 0, lost := true }
def holders (S : Srv) : Nat := (S.reqs.filter fun r => decide (r.holds.length ≠ 0)).length
def pageF : Nat → Srv → List Int → Srv × Int × Bool
  | 0, S, _ => (S, 0, false)
  | n + 1, S, beh =>
    if S.spare.2 = true then ({ S with pages := S.pages.set S.spare.1.toNat Pg.zero }, S.spare.1, true)
    else
      match victimTo S beh beh.length with
      | some r => pageF n (S.takeFrom r) beh
      | none => (S, 0, false)
def Srv.page (S : Srv) (beh : List Int) : Srv × Int × Bool := pageF (holders S + 1) S beh

theorem get_mem {S : Srv} {id : Int} {r : Req} (h : S.get id = some r) : r ∈ S.reqs ∧ r.id = id := by
  unfold Srv.get at h
  exact ⟨List.mem_of_find?_eq_some h, by simpa using List.find?_some h⟩
theorem get_of_mem {S : Srv} (hu : (S.reqs.map Req.id).Nodup) {r : Req} (hr : r ∈ S.reqs) : S.get r.id = some r := by
  unfold Srv.get
  generalize S.reqs = l at *
  induction l with
  | nil => cases hr
  | cons a l ih =>
    simp only [List.map_cons, List.nodup_cons] at hu
    by_cases e : a.id = r.id
    · rw [List.find?_cons_of_pos (by simpa using e)]
      rcases List.mem_cons.1 hr with rfl | hr
      · rfl
      · exact absurd (e ▸ List.mem_map_of_mem hr) hu.1
    · rw [List.find?_cons_of_neg (by simpa using e)]
      rcases List.mem_cons.1 hr with rfl | hr
      · exact absurd rfl e
      · exact ih hu.2 hr
theorem victimTo_mem {S : Srv} {beh : List Int} {r : Req} : ∀ n, victimTo S beh n = some r → r ∈ S.reqs ∧ r.holds.length ≠ 0
  | 0, h => by cases h
  | n + 1, h => by
    unfold victimTo at h
    split at h
    · rename_i q hq
      split at h
      · exact victimTo_mem n h
      · rename_i hc
        cases h
        cases hb : beh[n]? with
        | none => rw [hb] at hq; cases hq
        | some id =>
          rw [hb] at hq
          exact ⟨(get_mem hq).1, fun e => hc (.inl e)⟩
    · cases h
end Go.Proofs.YtllpoaoboieijaaGreat
/-
  What holds of every server: bounds.
-/
namespace Go.Proofs.YtllpoaoboieijaaGreat
open Go.RowKit

/-- The model of all servers here. -/
def MdlOk (m : Mdl) : Prop := m = demoM

structure WfReq (n : Nat) (v : Int) (r : Req) : Prop where
  id0 : 1 ≤ r.id
  id1 : r.id ≤ 1000000
  dl0 : 0 ≤ r.deadline
  dl1 : r.deadline ≤ 1000000
  p0 : 1 ≤ r.prompt.length
  p1 : r.prompt.length ≤ 32
  m0 : 1 ≤ r.most
  m1 : r.most ≤ 32
  s0 : -2147483648 ≤ r.seed
  s1 : r.seed ≤ 2147483647
  made0 : 0 ≤ r.made
  made1 : r.made ≤ r.most
  toks : (r.tokens.length : Int) = r.prompt.length + r.made
  hold : ∀ k, k ∈ r.holds → 0 ≤ k ∧ k < (n : Int)
  hlen : (r.holds.length : Int) ≤ r.entries
  elen : r.entries ≤ r.tokens.length
  hold0 : r.holds.length = 0 → r.entries = 0
  tokv : ∀ t, t ∈ r.tokens → 0 ≤ t ∧ t < v
  openm : r.ended = false → r.made < r.most

structure Wf (S : Srv) : Prop where
  n0 : 1 ≤ S.pages.length
  n1 : S.pages.length ≤ 64
  size0 : 1 ≤ S.pageSize
  size1 : S.pageSize ≤ 8
  ptok : ∀ p, p ∈ S.pages → p.toks.length ≤ 8
  req : ∀ r, r ∈ S.reqs → WfReq S.pages.length S.m.vocab r
  mdl : MdlOk S.m

theorem WfReq.ent {n : Nat} {v : Int} {r : Req} (h : WfReq n v r) : 0 ≤ r.entries ∧ r.entries ≤ 64 ∧ r.holds.length ≤ 64 ∧ r.tokens.length ≤ 64 := by
  have := h.p1; have := h.m1; have := h.made1; have := h.toks; have := h.hlen; have := h.elen
  omega
theorem release_len (size : Int) (p : Pg) (h : p.toks.length ≤ 8) : (p.release size).toks.length ≤ 8 := by
  unfold Pg.release; split <;> simp [Pg.zero, h]
theorem relAll_toks (size : Int) (ks : List Int) : ∀ ps : List Pg, (∀ p, p ∈ ps → p.toks.length ≤ 8) → ∀ p, p ∈ relAll size ps ks → p.toks.length ≤ 8 := by
  induction ks with
  | nil => intro ps h; exact h
  | cons k ks ih =>
    intro ps h
    refine ih _ (fun p hp => ?_)
    obtain ⟨i, hi, rfl⟩ := List.getElem_of_mem hp
    rw [List.getElem_modify]
    split
    · exact release_len _ _ (h _ (List.getElem_mem _))
    · exact h _ (List.getElem_mem _)
/-- A server whose pages and one request were written anew. -/
theorem Wf.put {S : Srv} (h : Wf S) (ps : List Pg) (hl : ps.length = S.pages.length) (ht : ∀ p, p ∈ ps → p.toks.length ≤ 8) (r' : Req) (hr : WfReq S.pages.length S.m.vocab r') : Wf (({ S with pages := ps } : Srv).put r') := by
  refine ⟨by show 1 ≤ ps.length; rw [hl]; exact h.n0, by show ps.length ≤ 64; rw [hl]; exact h.n1, h.size0, h.size1, ht, fun r hm => ?_, h.mdl⟩
  show WfReq ps.length S.m.vocab r
  rw [hl]
  rcases mem_put hm with rfl | ⟨hm, _⟩
  · exact hr
  · exact h.req r hm
theorem Wf.pages {S : Srv} (h : Wf S) (ps : List Pg) (hl : ps.length = S.pages.length) (ht : ∀ p, p ∈ ps → p.toks.length ≤ 8) : Wf { S with pages := ps } := by
  refine ⟨by show 1 ≤ ps.length; rw [hl]; exact h.n0, by show ps.length ≤ 64; rw [hl]; exact h.n1, h.size0, h.size1, ht, fun r hm => ?_, h.mdl⟩
  show WfReq ps.length S.m.vocab r
  rw [hl]; exact h.req r hm
theorem WfReq.gave {n : Nat} {v : Int} {r : Req} (h : WfReq n v r) {r' : Req} (he : r'.ended = false → r.ended = false) (e : r' = { r with holds := [], entries := 0, ended := r'.ended, err := r'.err, kept := r'.kept, worked := r'.worked, lost := r'.lost }) : WfReq n v r' := by
  rw [e]
  exact ⟨h.id0, h.id1, h.dl0, h.dl1, h.p0, h.p1, h.m0, h.m1, h.s0, h.s1, h.made0, h.made1, h.toks, fun k hk => (by cases hk), by simp, by show (0 : Int) ≤ _; omega, fun _ => rfl, h.tokv, fun hh => h.openm (he hh)⟩
theorem Wf.takeFrom {S : Srv} (h : Wf S) {r : Req} (hr : r ∈ S.reqs) : Wf (S.takeFrom r) :=
  h.put _ (relAll_length _ _ _) (relAll_toks _ _ _ h.ptok) _ ((h.req r hr).gave (fun e => e) rfl)
theorem Wf.endReq {S : Srv} (h : Wf S) {r : Req} (hr : r ∈ S.reqs) (e : Int) : Wf (S.endReq r e) :=
  h.put _ (relAll_length _ _ _) (relAll_toks _ _ _ h.ptok) _ ((h.req r hr).gave (fun e => by cases e) rfl)
theorem holders_takeFrom {S : Srv} {r : Req} (hu : (S.reqs.map Req.id).Nodup) (hr : r ∈ S.reqs) (hh : r.holds.length ≠ 0) : holders (S.takeFrom r) < holders S := by
  unfold holders Srv.takeFrom Srv.put
  simp only
  generalize S.reqs = l at *
  induction l with
  | nil => cases hr
  | cons a l ih =>
    simp only [List.map_cons, List.nodup_cons] at hu
    have mono : ∀ l : List Req, ((l.map fun q => if q.id = r.id then ({ r with holds := [], entries := 0, lost := true } : Req) else q).filter fun r => decide (r.holds.length ≠ 0)).length ≤ (l.filter fun r => decide (r.holds.length ≠ 0)).length := by
      intro l
      induction l with
      | nil => simp
      | cons b l ih =>
        simp only [List.map_cons]
        split
        · rw [List.filter_cons_of_neg (by simp)]
          exact Nat.le_trans ih (by rw [List.filter_cons]; split <;> simp)
        · rw [List.filter_cons, List.filter_cons]; split
          · simpa using ih
          · exact ih
    rcases List.mem_cons.1 hr with rfl | hm
    · simp only [List.map_cons, if_true]
      rw [List.filter_cons_of_neg (by simp), List.filter_cons_of_pos (by simpa using hh)]
      have := mono l
      simp only [List.length_cons]
      omega
    · have hne : a.id ≠ r.id := fun e => hu.1 (e ▸ List.mem_map_of_mem hm)
      simp only [List.map_cons, if_neg hne]
      rw [List.filter_cons, List.filter_cons]
      have := ih hu.2 hm
      split
      · simpa using this
      · exact this
end Go.Proofs.YtllpoaoboieijaaGreat
