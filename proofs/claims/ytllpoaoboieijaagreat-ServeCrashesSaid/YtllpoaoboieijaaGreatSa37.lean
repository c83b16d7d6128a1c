/-
  Tick: the walk.
-/
import Derived.Test.YtllpoaoboieijaaGreatSa11
import Derived.Test.YtllpoaoboieijaaGreatSa13
import Derived.Test.YtllpoaoboieijaaGreatSa36
/-
  Tick: the walk.
-/
namespace Go.Proofs.YtllpoaoboieijaaGreat
open Go.RowKit

def Srv.later (S : Srv) : Srv := { S with now := wrap64 (S.now + 1) }
def Srv.ticked (tokOf : Mdl → List Int → Int → Int → Int) (S : Srv) (ys zs : List Req) : Srv :=
  ((Srv.turns tokOf (zs.map Req.id) (S.later.lates ys ys.length) 0).record 4 []).settle
/-- What Tick does where the log is not full. -/
def TickGot (tokOf : Mdl → List Int → Int → Int → Int) (own : Nat → Lb) (sb : Nat) (L : Lay) (S : Srv) (w : World) (e : Ending) (w' : World) : Prop :=
  ∃ ys zs, Opens S ys ∧ Opens (S.later.lates ys ys.length) zs ∧ e = .returned (.int .i64 0) ∧ Goes own sb L Tin (S.ticked tokOf ys zs) w w'

theorem opens_later {S : Srv} {ys : List Req} (h : Opens S.later ys) : Opens S ys := h

theorem one_rdv (w : World) : RdV (w.alloc (.cells #[.int .i64 4] 3)) (.slice (some ⟨w.heap.size, 0, none⟩) (([] : List Int).length + 1) 1) (ints (4 :: [])) := by
  refine ⟨_, 1, rfl, Nat.le_refl _, by unfold maxLen; omega, fun _ => ⟨w.heap.size, 0, rfl, fun i hi => ?_⟩⟩
  have : i = 0 := by simp [ints] at hi; omega
  subst this
  exact news1' w (.int .i64 4) 3 0 _ rfl
/-- The rest of a list that can be read. -/
theorem sub_rdo {own : Nat → Lb} {w : World} {b o n c : Nat} {L L4 : Lay} {zs : List Req} (h : RdV w (.slice (some ⟨b, o, none⟩) n c) (ptrs L zs)) (hl : 0 < (ptrs L zs).length → ∀ k, (Value.slice (some (⟨b, o, none⟩ : Addr)) n c).ownBlock = some k → own k = .other)
    (hp : (ptrs L zs).length = zs.length) (hrb : L4.rb = L.rb) {j : Nat} (hj : j < zs.length) (A' : Option Addr) (hA : c ≠ j + 1 → A' = some ⟨b, o + (j + 1), none⟩) :
    RdO own w (.slice A' (zs.length - (j + 1)) (c - (j + 1))) (((zs.map Req.id).drop (j + 1)).map fun id => Value.pointer (some ⟨L4.rb id, 0, none⟩)) := by
  obtain ⟨A0, c0, hv, h1, h2, h3⟩ := h
  have hc0 : c = c0 := by injection hv
  subst hc0
  obtain ⟨b0, o0, hA0, hcell⟩ := h3 (by omega)
  rw [hA0] at hv
  have hbb : b0 = b ∧ o0 = o := by injection hv with e1; injection e1 with e1; injection e1 with e2 e3; exact ⟨e2.symm, e3.symm⟩
  obtain ⟨rfl, rfl⟩ := hbb
  have hlen : (((zs.map Req.id).drop (j + 1)).map fun id => Value.pointer (some ⟨L4.rb id, 0, none⟩)).length = zs.length - (j + 1) := by simp
  refine ⟨⟨A', c - (j + 1), by rw [hlen], by rw [hlen]; omega, by omega, fun h0 => ?_⟩, fun h0 k hk => ?_⟩
  · rw [hlen] at h0
    refine ⟨b0, o0 + (j + 1), hA (by omega), fun i hi => ?_⟩
    rw [hlen] at hi
    have := hcell (j + 1 + i) (by omega)
    rw [show o0 + (j + 1) + i = o0 + (j + 1 + i) by omega, this]
    simp [ptrs, hrb]
  · rw [hlen] at h0
    rw [hA (by omega)] at hk
    exact hl (by omega) k (by simpa [Value.ownBlock] using hk)

set_option maxRecDepth 100000 in
set_option maxHeartbeats 1600000 in
theorem tick_any {tokOf : Mdl → List Int → Int → Int → Int} (hcs : ComputeSaid) (hns : NextSaid tokOf) (hto : TokOk tokOf) (own : Nat → Lb) (sb : Nat) (L : Lay) (S : Srv) (w : World) (h : SrvAt own w sb L S) (hw : Wf S)
    (hn : S.reqs.length ≤ 12) (hlog : S.log.length ≤ 10000000) (hrec : S.records < 20000) :
    Calls Tryz.prog 14 #[.pointer (some ⟨sb, 0, none⟩)] w fun e w' => TickGot tokOf own sb L S w e w' := by
  have c2 := h.blk.cell
  have f2 := h.blk.frozen
  simp only [srvCells] at c2
  have hrec' : decide (20000 ≤ S.records) = false := decide_eq_false (by omega)
  have hrec'' : ¬ 20000 ≤ S.records := by omega
  have x0 : Ext own w own (w.setCell ⟨sb, 16, none⟩ (.int .i64 (wrap64 (S.now + 1)))) (fun l => l = .srv) := Ext.setCell _ _ h.lab
  have hne0 : ∀ k, L.logv.ownBlock = some k → k ≠ sb := fun k hk e => by
    have := h.log.2 k hk
    rw [e, h.lab] at this; cases this
  have h0 := h.srv_upd x0 (fun l t => .inl t) S.later L.logv rfl rfl rfl (h.blk.set 16 _) (h.log.same (fun k hk => Below.heap_setCell _ _ _ _ (hne0 k hk)) (fun _ _ => rfl))
  have hw0 : Wf S.later := ⟨hw.n0, hw.n1, hw.size0, hw.size1, hw.ptok, hw.req, hw.mdl⟩
  have HF := Lib.hid (full_any own sb L S w h)
  have H0 := Lib.hid h0
  have X0 := Lib.hid (x0.mono (T' := Tin) (fun l t => by rw [show l = Lb.srv from t]; intro f; cases f))
  have HW0 := Lib.hid hw0
  have HN := Lib.hid hn
  have HLOG := Lib.hid hlog
  have HCS := Lib.hid hcs
  have HNS := Lib.hid hns
  have HTO := Lib.hid hto
  clear h0 x0 hne0 hw0 hlog hrec h hw hcs hns hto hn
  go_enter Tryz.func14, Tryz.ntmps14
  go_wp2_with (first | (go_at_call 34; refine HF.out.mono ?_; rintro e w1 ⟨rfl, rfl⟩) | (go_at_call 35; refine (open_any' own sb L S.later _ H0.out HN.out).mono ?_; rintro e w1 ⟨ys, A, c, own1, rfl, HY⟩))
  have HOP := Lib.hid HY.out.1
  have H1 := Lib.hid HY.out.2.1
  have HR1 := Lib.hid HY.out.2.2.1
  have X1 := Lib.hid (X0.out.trans (HY.out.2.2.2.mono (T' := Tin) (fun l t => by rw [show l = Lb.loc from t]; intro f; cases f)))
  have hyl : ys.length ≤ 12 := by
    have := HOP.out.1.length_eq
    have h2 : (S.later.reqs.filter fun r => !r.ended).length ≤ S.later.reqs.length := List.length_filter_le _ _
    have h3 : S.later.reqs.length = S.reqs.length := rfl
    have := HN.out
    omega
  have HMEM := Lib.hid (fun r hr => (List.mem_filter.1 (HOP.out.1.mem_iff.1 hr)).1 : ∀ r, r ∈ ys → r ∈ S.later.reqs)
  have hyn : (ys.map Req.id).Nodup := (HOP.out.1.map Req.id).nodup_iff.2 ((List.filter_sublist.map Req.id).nodup H1.out.uniq)
  have HYN := Lib.hid hyn
  have HPL := Lib.hid (by simp [ptrs] : (ptrs L ys).length = ys.length)
  clear HY hyn c2 f2 hrec' hrec'' HF
  go_loopg [21] ys.length (fun gk s21 wx => ∃ own2 L2, ∃ i : Nat, s21 = .int .i64 i ∧ i ≤ ys.length ∧ SrvAt own2 wx sb L2 (S.later.lates ys i) ∧ L2.rb = L.rb ∧ RdO own2 wx (.slice A ys.length c) (ptrs L ys) ∧ Ext own w own2 wx Tin ∧ gk = ys.length - i)
  case atStart => exact ⟨own1, L, 0, rfl, Nat.zero_le _, H1.out, rfl, HR1.out, X1.out, rfl⟩
  case round =>
    obtain ⟨own2, L2, i, rfl, hil, h2, hrb2, hr2, x2, rfl⟩ := hrel
    have hlok := lates_ok HW0.out HYN.out HMEM.out i hil
    by_cases hlt : i < ys.length
    · have hr := hlok.oth i hlt (Nat.le_refl _)
      have hlw := hlok.wf
      have hlate : S.later.lates ys (i + 1) = (S.later.lates ys i).lateOne ys[i] := by rw [Srv.lates, List.getElem?_eq_getElem hlt]
      obtain ⟨b, o, c', hv', hcell⟩ := hr2.1.get (i := i) (by rw [HPL.out]; exact hlt)
      have hA : A = some ⟨b, o, none⟩ := by injection hv'
      subst hA
      have hcell2 : wr.cell? ⟨b, o + i, none⟩ = some (.pointer (some ⟨L2.rb ys[i].id, 0, none⟩)) := by rw [hcell, hrb2]; simp [ptrs]
      generalize hri : ys[i] = r at hr hlate hcell2
      generalize hSi : S.later.lates ys i = Si at h2 hlw hr hlate
      have hq := h2.req r hr
      have d1 := hq.blk.cell
      have f1 := hq.blk.frozen
      simp only [reqCells] at d1
      have e1 := h2.blk.cell
      simp only [srvCells] at e1
      have xs : Ext own2 wr own2 ((wr.setCell ⟨L2.rb r.id, 12, none⟩ (.bool false)).setCell ⟨L2.rb r.id, 13, none⟩ (.bool false)) (fun l => l = .req r.id) := (Ext.setCell _ _ hq.lab).trans (Ext.setCell _ _ hq.lab)
      have h3 := h2.req_set hr r.fresh rfl xs _ _ _ ((hq.blk.set 12 _).set 13 _) (hq.prm.ext xs (by simp)) (hq.tok.ext xs (by simp)) (hq.hold.ext xs (by simp))
      rw [updv_self, updv_self, updv_self] at h3
      have hwf := put_fresh_wf hlw hr
      have hm : r.fresh ∈ (Si.put r.fresh).reqs := mem_put_self hr rfl
      have hwr := hwf.req _ hm
      have hent := hwr.ent
      have HE := Lib.hid (fun w' hs => end_any own2 sb L2 (Si.put r.fresh) r.fresh 18 w' hs hm hwr.hold hwf.n1 (by omega))
      have hsb : sb ≠ L2.rb r.id := fun e => by have := hq.lab; rw [← e, h2.lab] at this; cases this
      have HLATE := Lib.hid hlate
      have H3 := Lib.hid h3
      have XS := Lib.hid (xs.mono (T' := Tin) (Tin_req _))
      have X2 := Lib.hid x2
      have HR2 := Lib.hid hr2
      have HRB2 := Lib.hid hrb2
      clear hlok hlw hr hlate hv' hcell hri hSi hq h2 xs h3 hwf hwr hent x2 hr2 hrb2
      have HM := Lib.hid hm
      clear hm
      go_upto_region 8 with (fail)
      obtain ⟨w3, hw3, h3, xs⟩ : ∃ w3 : World, (wr.setCell ⟨L2.rb r.id, 12, none⟩ (.bool false)).setCell ⟨L2.rb r.id, 13, none⟩ (.bool false) = w3 ∧ SrvAt own2 w3 sb L2 (Si.put r.fresh) ∧ Ext own2 wr own2 w3 Tin := ⟨_, rfl, H3.out, XS.out⟩
      rw [hw3]
      clear H3 XS hw3 d1 f1 e1 hcell2
      have d3 := (h3.req _ HM.out).blk.cell
      simp only [reqCells, Req.fresh] at d3
      have e3 := h3.blk.cell
      simp only [srvCells, Srv.put] at e3
      have H3 := Lib.hid h3
      have XS := Lib.hid xs
      clear h3 xs
      by_cases hd : r.deadline < Si.now
      · have HD := Lib.hid (show Si.lateOne r = (Si.put r.fresh).endReq r.fresh 18 by unfold Srv.lateOne; rw [if_pos hd])
        go_quiet (fail)
        go_wp2_with (go_at_call 36; refine (HE.out _ (H3.out.drewN _)).mono ?_; rintro e w4 ⟨rfl, hw4⟩)
        obtain ⟨own4, L4, h4, hrb4, x4⟩ := hw4
        have H4 := Lib.hid h4
        have HRB4 := Lib.hid hrb4
        have X4 := Lib.hid ((XS.out.drewN _).trans (x4.mono (T' := Tin) (Tin_gb _)))
        clear h4 hrb4 x4
        go_wp2
        go_roundg (ys.length - (i + 1))
        case measure => omega
        case rel => exact ⟨own4, L4, i + 1, by go_num, by omega, by rw [HLATE.out, HD.out]; exact H4.out, HRB4.out.trans HRB2.out, HR2.out.ext X4.out Tin_other, X2.out.trans X4.out, rfl⟩
      · have HD := Lib.hid (show Si.lateOne r = Si.put r.fresh by unfold Srv.lateOne; rw [if_neg hd])
        have hd' : decide (r.deadline < Si.now) = false := decide_eq_false hd
        go_quiet (fail)
        go_wp2
        go_roundg (ys.length - (i + 1))
        case measure => omega
        case rel => exact ⟨own2, L2, i + 1, by go_num, by omega, by rw [HLATE.out, HD.out]; exact H3.out.drewN _, HRB2.out, HR2.out.ext (XS.out.drewN _) Tin_other, X2.out.trans (XS.out.drewN _), rfl⟩
    · have hie : i = ys.length := by omega
      subst hie
      have hw1 := hlok.wf
      have hl1 : (S.later.lates ys ys.length).reqs.length ≤ 12 := by
        have := congrArg List.length hlok.ids
        simp only [List.length_map] at this
        rw [this]; exact HN.out
      have hrest := hlok.rest
      generalize hS1 : S.later.lates ys ys.length = S1 at h2 hw1 hl1 hrest
      have HS1 := Lib.hid hS1
      have H2 := Lib.hid h2
      have HW1 := Lib.hid hw1
      have HL1 := Lib.hid hl1
      have HREST := Lib.hid hrest
      have HRB2 := Lib.hid hrb2
      have X2 := Lib.hid x2
      clear hlok hw1 hl1 hrest hS1 h2 hr2 hrb2 x2
      go_wp2_with (go_at_call 35; refine (open_any' own2 sb L2 S1 _ H2.out HL1.out).mono ?_; rintro e w3 ⟨zs, A3, c3, own3, rfl, HZ⟩)
      have HOZ := Lib.hid HZ.out.1
      have H3 := Lib.hid HZ.out.2.1
      have HR3 := Lib.hid HZ.out.2.2.1
      have X3 := Lib.hid (X2.out.trans (HZ.out.2.2.2.mono (T' := Tin) (fun l t => by rw [show l = Lb.loc from t]; intro f; cases f)))
      have hzl : zs.length ≤ 12 := by
        have := HOZ.out.1.length_eq
        have h2 : (S1.reqs.filter fun r => !r.ended).length ≤ S1.reqs.length := List.length_filter_le _ _
        have := HL1.out
        omega
      have HZMEM := Lib.hid (fun r hr => List.mem_filter.1 (HOZ.out.1.mem_iff.1 hr) : ∀ r, r ∈ zs → r ∈ S1.reqs ∧ (!r.ended) = true)
      have hzn : (zs.map Req.id).Nodup := (HOZ.out.1.map Req.id).nodup_iff.2 ((List.filter_sublist.map Req.id).nodup H3.out.uniq)
      have HZN := Lib.hid hzn
      have HZP := Lib.hid (by simp [ptrs] : (ptrs L2 zs).length = zs.length)
      clear HZ hzn
      go_loopg [5, 49] zs.length (fun gk s5 s49 wx => ∃ own4 L4 S4, ∃ j n : Nat, s5 = .int .i64 n ∧ s49 = .int .i64 j ∧ n ≤ j ∧ j ≤ zs.length ∧ SrvAt own4 wx sb L4 S4 ∧ L4.rb = L2.rb ∧ TurnsOk S4 ((zs.map Req.id).drop j) ∧ S4.reqs.map Req.id = S1.reqs.map Req.id ∧ S4.rest = S1.rest ∧
        Srv.turns tokOf ((zs.map Req.id).drop j) S4 n = Srv.turns tokOf (zs.map Req.id) S1 0 ∧ RdO own4 wx (.slice A3 zs.length c3) (ptrs L2 zs) ∧ Ext own w own4 wx Tin ∧ gk = zs.length - j)
      case atStart => exact ⟨own3, L2, S1, 0, 0, rfl, rfl, Nat.le_refl _, Nat.zero_le _, H3.out, rfl, ⟨HW1.out, fun i hi => by
        obtain ⟨r, hr, rfl⟩ := List.mem_map.1 (List.mem_of_mem_drop hi)
        have := HZMEM.out r hr
        exact ⟨r, get_of_mem H3.out.uniq this.1, this.1, rfl, by simpa using this.2⟩⟩, rfl, rfl, rfl, HR3.out, X3.out, rfl⟩
      case round =>
        obtain ⟨own4, L4, S4, j, n, rfl, rfl, hnj, hjl, h4, hrb4, hto4, hids4, hrest4, htu4, hr4, x4, rfl⟩ := hrel
        by_cases hjlt : j < zs.length
        · have hdrop : (zs.map Req.id).drop j = zs[j].id :: (zs.map Req.id).drop (j + 1) := by
            rw [List.drop_eq_getElem_cons (by simpa using hjlt)]; simp
          obtain ⟨r, hg, hr, hrid, hro⟩ := hto4.opn zs[j].id (by rw [hdrop]; exact List.mem_cons_self ..)
          obtain ⟨b3, o3, c', hv', hcell⟩ := hr4.1.get (i := j) (by rw [HZP.out]; exact hjlt)
          have hA3 : A3 = some ⟨b3, o3, none⟩ := by injection hv'
          subst hA3
          have hcell2 : wr.cell? ⟨b3, o3 + j, none⟩ = some (.pointer (some ⟨L4.rb r.id, 0, none⟩)) := by rw [hcell, hrb4, hrid]; simp [ptrs]
          have d4 := (h4.req r hr).blk.cell
          simp only [reqCells] at d4
          have e4 := h4.blk.cell
          simp only [srvCells] at e4
          have H4 := Lib.hid h4
          have HRB4 := Lib.hid hrb4
          have HTO4 := Lib.hid hto4
          have HIDS4 := Lib.hid hids4
          have HREST4 := Lib.hid hrest4
          have HTU4 := Lib.hid htu4
          have HR4 := Lib.hid hr4
          have X4 := Lib.hid x4
          have HDROP := Lib.hid hdrop
          have HG := Lib.hid hg
          have HR := Lib.hid hr
          have HRID := Lib.hid hrid
          have HRO := Lib.hid hro
          clear h4 hrb4 hto4 hids4 hrest4 htu4 hr4 x4 hdrop hg hr hrid hro hv' hcell
          by_cases hbt : S4.batch ≤ (n : Int)
          · have HFIN := Lib.hid (show Srv.turns tokOf (zs.map Req.id) S1 0 = S4 by rw [← HTU4.out, HDROP.out, Srv.turns, if_pos hbt])
            have hlg : S4.log.length ≤ 10000000 := by
              have e1 : S4.rest.log = S1.rest.log := by rw [HREST4.out]
              have e2 : S1.rest.log = S.later.rest.log := by rw [HREST.out]
              have e3 : S4.log = S.log := e1.trans e2
              rw [e3]; exact HLOG.out
            have ha := H4.out.free (Ext.alloc (own := own4) (w := wr) (.cells #[.int .i64 4] 3) (fun _ => False) .other) (fun _ f => f.elim)
            have xa := Ext.alloc (own := own4) (w := wr) (.cells #[.int .i64 4] 3) Tin .other
            have HRECD := Lib.hid (record_any _ sb L4 S4 4 [] wr.heap.size 0 1 _ ha (one_rdv wr) (by simp) hlg)
            have XA := Lib.hid (X4.out.trans xa)
            clear hlg ha xa
            go_wp2_with (first | (go_at_call 33; refine HRECD.out.mono ?_; rintro e w6 ⟨rfl, hg6⟩; obtain ⟨own6, L6, h6, hrb6, x6⟩ := hg6; have H6 := Lib.hid h6; have HRB6 := Lib.hid hrb6; have X6 := Lib.hid x6; clear h6 hrb6 x6) | (go_at_call 38; refine (settle_any own6 sb L6 _ _ H6.out).mono ?_; rintro e w7 ⟨rfl, hg7⟩; have HG7 := Lib.hid hg7; clear hg7))
            go_ret
            obtain ⟨own7, L7, h7, hrb7, x7⟩ := HG7.out
            refine ⟨ys, zs, HOP.out, by rw [HS1.out]; exact HOZ.out, rfl, own7, L7, ?_, ((hrb7.trans HRB6.out).trans HRB4.out).trans HRB2.out, (XA.out.trans X6.out).trans x7⟩
            unfold Srv.ticked
            rw [HS1.out, HFIN.out]
            exact h7
          · have hbt' : decide (S4.batch ≤ (n : Int)) = false := decide_eq_false hbt
            have HNB := Lib.hid (show ¬ S4.batch ≤ (n : Int) from hbt)
            have hnm : zs[j].id ∉ (zs.map Req.id).drop (j + 1) := by
              have h1 := (List.drop_sublist j (zs.map Req.id)).nodup HZN.out
              rw [HDROP.out] at h1
              exact (List.nodup_cons.1 h1).1
            have htk := turn_ok HTO.out (i := zs[j].id) (ids := (zs.map Req.id).drop (j + 1)) (by have := HTO4.out; rw [HDROP.out] at this; exact this) H4.out.uniq hnm (n : Int)
            have HTK := Lib.hid htk
            have HNM := Lib.hid hnm
            clear htk hnm
            by_cases hlost : r.lost = true
            · have HT1 := Lib.hid (show S4.turnOne tokOf n zs[j].id ((zs.map Req.id).drop (j + 1)) = (S4, (n : Int)) by unfold Srv.turnOne; rw [HG.out]; simp only; rw [if_pos hlost])
              go_wp2
              go_roundg (zs.length - (j + 1))
              case measure => omega
              case rel => exact ⟨own4, L4, S4, j + 1, n, rfl, by go_num, by omega, by omega, H4.out, HRB4.out, by have := HTK.out.1; rw [HT1.out] at this; exact this, HIDS4.out, HREST4.out, by have := HTU4.out; rw [HDROP.out, Srv.turns, if_neg (by have := HNB.out; omega), HT1.out] at this; exact this, HR4.out, X4.out, rfl⟩
            · have hlost' : r.lost = false := by simpa using hlost
              have HT1 := Lib.hid (show S4.turnOne tokOf n zs[j].id ((zs.map Req.id).drop (j + 1)) = (S4.work tokOf r ((zs.map Req.id).drop (j + 1)), if ((S4.work tokOf r ((zs.map Req.id).drop (j + 1))).get zs[j].id).any Req.worked = true then (n : Int) + 1 else n) by
                unfold Srv.turnOne; rw [HG.out]; simp only; rw [if_neg hlost])
              have HSUB := Lib.hid (fun A' hA' => sub_rdo HR4.out.1 HR4.out.2 (HZP.out) HRB4.out (j := j) (by omega) A' hA')
              have HWK := Lib.hid (fun A' hA' => work_any HCS.out HNS.out own4 sb L4 S4 r _ H4.out HTO4.out.wf HR.out HRO.out ((zs.map Req.id).drop (j + 1)) _ (fun i hi => by
                rw [HIDS4.out]
                obtain ⟨q, hq, rfl⟩ := List.mem_map.1 (List.mem_of_mem_drop hi)
                exact List.mem_map_of_mem (HZMEM.out q hq).1) (HSUB.out A' hA') (by rw [HRID.out]; exact HNM.out))
              by_cases hce : c3 = j + 1
              · have HWK0 := Lib.hid (by have := HWK.out (some ⟨b3, o3, none⟩) (fun h => absurd hce h); rw [hce, Nat.sub_self] at this; exact this)
                subst hce
                go_upto_region 19 with (go_at_call 37; refine HWK0.out.mono ?_; rintro e w5 ⟨rfl, hgo⟩)
                obtain ⟨own5, L5, h5, hrb5, x5⟩ := hgo
                have hk := HTK.out
                rw [HT1.out] at hk
                simp only at hk
                generalize hS5 : S4.work tokOf r ((zs.map Req.id).drop (j + 1)) = S5 at h5 hk
                have ht1 := HT1.out
                rw [hS5] at ht1
                obtain ⟨r5, hr5, hid5⟩ : ∃ r5, r5 ∈ S5.reqs ∧ r5.id = zs[j].id := by
                  have : zs[j].id ∈ S5.reqs.map Req.id := by
                    rw [hk.2.1, ← HRID.out]; exact List.mem_map_of_mem HR.out
                  obtain ⟨q, hq, he⟩ := List.mem_map.1 this
                  exact ⟨q, hq, he⟩
                have hg5 : S5.get zs[j].id = some r5 := by rw [← hid5]; exact get_of_mem h5.uniq hr5
                rw [hg5] at ht1
                have d5 := (h5.req r5 hr5).blk.cell
                simp only [reqCells] at d5
                rw [hid5, ← HRID.out, hrb5] at d5
                have H5 := Lib.hid h5
                have HK := Lib.hid hk
                have HRB5 := Lib.hid (hrb5.trans HRB4.out)
                have X5 := Lib.hid x5
                clear h5 hk hrb5 x5 hS5 hr5 hid5 hg5 d4 e4 hcell2
                by_cases hwk : r5.worked = true
                · have HT5 := Lib.hid (show S4.turnOne tokOf n zs[j].id ((zs.map Req.id).drop (j + 1)) = (S5, (n : Int) + 1) by rw [ht1]; simp [hwk])
                  clear ht1
                  go_wp2
                  go_roundg (zs.length - (j + 1))
                  case measure => omega
                  case rel => exact ⟨own5, L5, S5, j + 1, n + 1, by go_num, by go_num, by omega, by omega, H5.out, HRB5.out, HK.out.1, HK.out.2.1.trans HIDS4.out, HK.out.2.2.trans HREST4.out, by have := HTU4.out; rw [HDROP.out, Srv.turns, if_neg (by have := HNB.out; omega), HT5.out] at this; exact this, HR4.out.ext X5.out Tin_other, X4.out.trans X5.out, rfl⟩
                · have hwk' : r5.worked = false := by simpa using hwk
                  have HT5 := Lib.hid (show S4.turnOne tokOf n zs[j].id ((zs.map Req.id).drop (j + 1)) = (S5, (n : Int)) by rw [ht1]; simp [hwk'])
                  clear ht1
                  go_wp2
                  go_roundg (zs.length - (j + 1))
                  case measure => omega
                  case rel => exact ⟨own5, L5, S5, j + 1, n, rfl, by go_num, by omega, by omega, H5.out, HRB5.out, HK.out.1, HK.out.2.1.trans HIDS4.out, HK.out.2.2.trans HREST4.out, by have := HTU4.out; rw [HDROP.out, Srv.turns, if_neg (by have := HNB.out; omega), HT5.out] at this; exact this, HR4.out.ext X5.out Tin_other, X4.out.trans X5.out, rfl⟩
              · have hce' : (c3 = j + 1) = False := eq_false hce
                go_upto_region 19 with (go_at_call 37; refine (HWK.out _ (fun _ => rfl)).mono ?_; rintro e w5 ⟨rfl, hgo⟩)
                obtain ⟨own5, L5, h5, hrb5, x5⟩ := hgo
                have hk := HTK.out
                rw [HT1.out] at hk
                simp only at hk
                generalize hS5 : S4.work tokOf r ((zs.map Req.id).drop (j + 1)) = S5 at h5 hk
                have ht1 := HT1.out
                rw [hS5] at ht1
                obtain ⟨r5, hr5, hid5⟩ : ∃ r5, r5 ∈ S5.reqs ∧ r5.id = zs[j].id := by
                  have : zs[j].id ∈ S5.reqs.map Req.id := by
                    rw [hk.2.1, ← HRID.out]; exact List.mem_map_of_mem HR.out
                  obtain ⟨q, hq, he⟩ := List.mem_map.1 this
                  exact ⟨q, hq, he⟩
                have hg5 : S5.get zs[j].id = some r5 := by rw [← hid5]; exact get_of_mem h5.uniq hr5
                rw [hg5] at ht1
                have d5 := (h5.req r5 hr5).blk.cell
                simp only [reqCells] at d5
                rw [hid5, ← HRID.out, hrb5] at d5
                have H5 := Lib.hid h5
                have HK := Lib.hid hk
                have HRB5 := Lib.hid (hrb5.trans HRB4.out)
                have X5 := Lib.hid x5
                clear h5 hk hrb5 x5 hS5 hr5 hid5 hg5 d4 e4 hcell2
                by_cases hwk : r5.worked = true
                · have HT5 := Lib.hid (show S4.turnOne tokOf n zs[j].id ((zs.map Req.id).drop (j + 1)) = (S5, (n : Int) + 1) by rw [ht1]; simp [hwk])
                  clear ht1
                  go_wp2
                  go_roundg (zs.length - (j + 1))
                  case measure => omega
                  case rel => exact ⟨own5, L5, S5, j + 1, n + 1, by go_num, by go_num, by omega, by omega, H5.out, HRB5.out, HK.out.1, HK.out.2.1.trans HIDS4.out, HK.out.2.2.trans HREST4.out, by have := HTU4.out; rw [HDROP.out, Srv.turns, if_neg (by have := HNB.out; omega), HT5.out] at this; exact this, HR4.out.ext X5.out Tin_other, X4.out.trans X5.out, rfl⟩
                · have hwk' : r5.worked = false := by simpa using hwk
                  have HT5 := Lib.hid (show S4.turnOne tokOf n zs[j].id ((zs.map Req.id).drop (j + 1)) = (S5, (n : Int)) by rw [ht1]; simp [hwk'])
                  clear ht1
                  go_wp2
                  go_roundg (zs.length - (j + 1))
                  case measure => omega
                  case rel => exact ⟨own5, L5, S5, j + 1, n, rfl, by go_num, by omega, by omega, H5.out, HRB5.out, HK.out.1, HK.out.2.1.trans HIDS4.out, HK.out.2.2.trans HREST4.out, by have := HTU4.out; rw [HDROP.out, Srv.turns, if_neg (by have := HNB.out; omega), HT5.out] at this; exact this, HR4.out.ext X5.out Tin_other, X4.out.trans X5.out, rfl⟩
        · have hje : j = zs.length := by omega
          have HFIN := Lib.hid (show Srv.turns tokOf (zs.map Req.id) S1 0 = S4 by rw [← htu4, hje, List.drop_eq_nil_of_le (by simp)]; rfl)
          have H4 := Lib.hid h4
          have HRB4 := Lib.hid hrb4
          have HREST4 := Lib.hid hrest4
          have X4 := Lib.hid x4
          clear h4 hrb4 hto4 hids4 hrest4 htu4 hr4 x4
          subst hje
          have hlg : S4.log.length ≤ 10000000 := by
            have e1 : S4.rest.log = S1.rest.log := by rw [HREST4.out]
            have e2 : S1.rest.log = S.later.rest.log := by rw [HREST.out]
            have e3 : S4.log = S.log := e1.trans e2
            rw [e3]; exact HLOG.out
          have ha := H4.out.free (Ext.alloc (own := own4) (w := wr) (.cells #[.int .i64 4] 3) (fun _ => False) .other) (fun _ f => f.elim)
          have xa := Ext.alloc (own := own4) (w := wr) (.cells #[.int .i64 4] 3) Tin .other
          have HRECD := Lib.hid (record_any _ sb L4 S4 4 [] wr.heap.size 0 1 _ ha (one_rdv wr) (by simp) hlg)
          have XA := Lib.hid (X4.out.trans xa)
          clear hlg ha xa
          go_wp2_with (first | (go_at_call 33; refine HRECD.out.mono ?_; rintro e w6 ⟨rfl, hg6⟩; obtain ⟨own6, L6, h6, hrb6, x6⟩ := hg6; have H6 := Lib.hid h6; have HRB6 := Lib.hid hrb6; have X6 := Lib.hid x6; clear h6 hrb6 x6) | (go_at_call 38; refine (settle_any own6 sb L6 _ _ H6.out).mono ?_; rintro e w7 ⟨rfl, hg7⟩; have HG7 := Lib.hid hg7; clear hg7))
          go_ret
          obtain ⟨own7, L7, h7, hrb7, x7⟩ := HG7.out
          refine ⟨ys, zs, HOP.out, by rw [HS1.out]; exact HOZ.out, rfl, own7, L7, ?_, ((hrb7.trans HRB6.out).trans HRB4.out).trans HRB2.out, (XA.out.trans X6.out).trans x7⟩
          unfold Srv.ticked
          rw [HS1.out, HFIN.out]
          exact h7
end Go.Proofs.YtllpoaoboieijaaGreat
