/-
  work: the walk.
  What a piece of work leaves as it was: the plain side.
-/
import Derived.Test.YtllpoaoboieijaaGreatSa11
/-
  work: the walk.
-/
namespace Go.Proofs.YtllpoaoboieijaaGreat
open Go.RowKit

def Srv.endOrNot (S : Srv) (r : Req) (t : Int) : Srv := if t = 0 ∨ r.made = r.most then S.endReq r 0 else S
/-- A token is put behind those of a request. -/
def Srv.nextTok (S : Srv) (r : Req) (t : Int) : Srv :=
  (S.put { r with tokens := r.tokens ++ [t], made := r.made + 1, worked := true }).endOrNot { r with tokens := r.tokens ++ [t], made := r.made + 1, worked := true } t
def NextSaid (tokOf : Mdl → List Int → Int → Int → Int) : Prop :=
  ∀ (own : Nat → Lb) (sb : Nat) (L : Lay) (S : Srv) (r : Req) (w : World), SrvAt own w sb L S → Wf S → r ∈ S.reqs → r.ended = false →
    Calls Tryz.prog 72 #[.pointer (some ⟨sb, 0, none⟩), .pointer (some ⟨L.rb r.id, 0, none⟩)] w fun e w' => e = .returned (.tuple #[]) ∧ Goes own sb L Tin (S.nextTok r (tokOf S.m r.tokens r.seed r.made)) w w'
def Srv.work (tokOf : Mdl → List Int → Int → Int → Int) (S : Srv) (r : Req) (beh : List Int) : Srv :=
  if (S.share r).2.entries < (S.share r).2.tokens.length then (S.share r).1.compute (S.share r).2 beh
  else (S.share r).1.nextTok (S.share r).2 (tokOf (S.share r).1.m (S.share r).2.tokens (S.share r).2.seed (S.share r).2.made)
def ComputeSaid : Prop :=
  ∀ (own : Nat → Lb) (sb : Nat) (L : Lay) (S : Srv) (r : Req) (w : World), SrvAt own w sb L S → Wf S → r ∈ S.reqs → ∀ (beh : List Int) (bv : Value),
    (∀ id, id ∈ beh → id ∈ S.reqs.map Req.id) → RdO own w bv (beh.map fun id => Value.pointer (some ⟨L.rb id, 0, none⟩)) → r.id ∉ beh → r.entries < r.tokens.length →
    Calls Tryz.prog 71 #[.pointer (some ⟨sb, 0, none⟩), .pointer (some ⟨L.rb r.id, 0, none⟩), bv] w fun e w' => e = .returned (.tuple #[]) ∧ Goes own sb L Tin (S.compute r beh) w w'

theorem wrap64_in {x : Int} (h : -9223372036854775808 ≤ x ∧ x ≤ 9223372036854775807) : wrap64 x = x := by unfold wrap64; omega

set_option maxRecDepth 100000 in
set_option maxHeartbeats 800000 in
theorem work_any {tokOf : Mdl → List Int → Int → Int → Int} (hcs : ComputeSaid) (hns : NextSaid tokOf) (own : Nat → Lb) (sb : Nat) (L : Lay) (S : Srv) (r : Req) (w : World) (h : SrvAt own w sb L S) (hw : Wf S) (hr : r ∈ S.reqs) (hro : r.ended = false) (beh : List Int) (bv : Value)
    (hbeh : ∀ id, id ∈ beh → id ∈ S.reqs.map Req.id) (hbv : RdO own w bv (beh.map fun id => Value.pointer (some ⟨L.rb id, 0, none⟩))) (hnb : r.id ∉ beh) :
    Calls Tryz.prog 37 #[.pointer (some ⟨sb, 0, none⟩), .pointer (some ⟨L.rb r.id, 0, none⟩), bv] w fun e w' =>
      e = .returned (.tuple #[]) ∧ Goes own sb L Tin (S.work tokOf r beh) w w' := by
  have hwr := hw.req r hr
  have H70 := Lib.hid (shared_any own sb L S r w h hr hw.n1 hwr.ent.1 (by have := hwr.ent; omega) hw.size0 hw.size1)
  have HCS := Lib.hid hcs
  have HNS := Lib.hid hns
  have H := Lib.hid h
  have HW := Lib.hid hw
  have HR := Lib.hid hr
  have HB := Lib.hid hbeh
  have HBV := Lib.hid hbv
  have HNB := Lib.hid hnb
  have HRO := Lib.hid hro
  clear hcs hns h hw hr hbeh hbv hnb hwr hro
  go_enter Tryz.func37, Tryz.ntmps37
  go_wp2_with fail
  refine H70.out.mono ?_
  rintro e w1 ⟨rfl, hb1⟩
  have h1 := H.out.below hb1
  have x1 := Ext.below hb1 Tin .other (own := own)
  have H1 := Lib.hid h1
  have X1 := Lib.hid x1
  generalize relab own w.heap.size .other = own1 at h1 x1 H1 X1
  clear h1 x1
  go_wp2
  go_loopg [6, 7] (r.tokens.length + 1) (fun gk s6 s7 wx => ∃ own2 L2 S2 r2, SrvAt own2 wx sb L2 S2 ∧ Wf S2 ∧ r2 ∈ S2.reqs ∧ r2.id = r.id ∧ r2.tokens = r.tokens ∧ r2.ended = false ∧ S2.reqs.map Req.id = S.reqs.map Req.id ∧ L2.rb = L.rb ∧ Ext own w own2 wx Tin ∧
      s6 = .int .i64 (S2.shared r2).1 ∧ s7 = .bool (S2.shared r2).2 ∧ S.share r = shareF gk S2 r2 ∧ (gk : Int) + r2.entries ≥ r.tokens.length + 1)
  case atStart => exact ⟨own1, L, S, r, H1.out, HW.out, HR.out, rfl, rfl, HRO.out, rfl, rfl, X1.out, rfl, rfl, rfl, by have := (HW.out.req r HR.out).ent; omega⟩
  case round =>
    obtain ⟨own2, L2, S2, r2, h2, hw2, hr2, hid2, htok2, hro2, hids2, hrb2, x2, rfl, rfl, hsh, hg⟩ := hrel
    by_cases hs : (S2.shared r2).2 = true
    · have hsl := shared_lt hs
      obtain ⟨k, hk⟩ : ∃ k : Nat, (S2.shared r2).1 = (k : Int) := ⟨(S2.shared r2).1.toNat, by omega⟩
      obtain ⟨p, hp⟩ : ∃ p, S2.pages[k]? = some p := ⟨_, List.getElem?_eq_getElem (by omega)⟩
      have hp' : S2.pages[(S2.shared r2).1.toNat]? = some p := by rw [hk, Int.toNat_natCast]; exact hp
      obtain ⟨m, rfl⟩ : ∃ m, gk = m + 1 := ⟨gk - 1, by have := hsl.2.2.1; rw [htok2] at this; have := (hw2.req r2 hr2).ent; have := hw2.size0; omega⟩
      have hy := shareF_yes (n := m) hs hp'
      have hwf := hw2.shareStep hr2 hs hp'
      have hmem := shareStep_mem hr2 (S2.shared r2).1 p
      have hids := shareStep_ids S2 r2 (S2.shared r2).1 p
      have hwr2 := (hw2.req r2 hr2).ent
      rw [hs]
      have hsz0 := hw2.size0
      have hsz1 := hw2.size1
      clear hs
      rw [hk] at hy hwf hmem hids hsl ⊢
      -- the append
      obtain ⟨HA, hcp, app⟩ := HoldApp.mk' h2 hr2
      have hB2 := app.blk
      simp only [reqCells] at hB2
      rw [hid2, hrb2] at hB2
      have d1 := hB2.cell
      have l1 := hB2.lt
      obtain ⟨i0, hi, hz0, hz1, hz2⟩ := info_parts info3
      have hb1 : r2.holds.length + 1 ≤ maxLen := by unfold maxLen; omega
      have hb2 : (r2.holds.length + 1) * 8 ≤ 140737488355328 := by omega
      have APP := Lib.hid app
      have HID2 := Lib.hid hid2
      have HRB2 := Lib.hid hrb2
      have HTOK2 := Lib.hid htok2
      have HRO2 := Lib.hid hro2
      have HIDS2 := Lib.hid hids2
      have X2 := Lib.hid x2
      have HSH := Lib.hid hsh
      have HY := Lib.hid hy
      have HWF := Lib.hid hwf
      have HMEM := Lib.hid hmem
      have HIDS := Lib.hid hids
      have HP := Lib.hid hp
      have HR2 := Lib.hid hr2
      have HG := Lib.hid hg
      clear hB2 app hid2 hrb2 htok2 hro2 hids2 x2 hsh hy hwf hmem hids hp hp' hk h2 hw2 hr2 hg
      go_upto_region 4 with (
        at_builtin; refine wpList_append_lies _ rfl _ _ 22 rfl 0 3 i0 (.int .i64 0) 1 8 Tryz.underlying22 hi hz0 hz1 hz2 rfl (by decide) _ _ _ rfl (APP.out.owns _ 0) ⟨wr.heap.size, 0, none⟩ 1 1 [.int .i64 k] rfl rfl (news1' _ _ _) (one_int _ _) Nat.one_pos hb1 hb2 (Nat.zero_le _) _ rfl ?_; intro g cap w3 hown3 hgrow hat hlt3; have hB3 := APP.out.after _ 0 _ g cap w3 hown3 hgrow hat; have hB5 : Goes own2 sb L2 Tin (S2.put { r2 with holds := r2.holds ++ [(k : Int)] }) wr (w3.setCell ⟨L.rb r.id, 7, none⟩ (.slice (some ⟨g, 0, none⟩) (r2.holds.length + 1) cap)) := by rw [← HRB2.out, ← HID2.out]; exact hB3.2
        have H3 := Lib.hid hB5; have hB4 := hB3.1; simp only [reqCells] at hB4; rw [HRB2.out, HID2.out] at hB4; have d3 := hB4.cell; have f3 := hB4.frozen; clear hB3 hB4 hB5
        )
      obtain ⟨own3, L3, h3, hrb3, x3⟩ := H3.out
      generalize w3.setCell ⟨L.rb r.id, 7, none⟩ (.slice (some ⟨g, 0, none⟩) (r2.holds.length + 1) cap) = w4 at h3 x3 ⊢
      clear H3 d1 d3 f3 hown3 hgrow hat hlt3 l1
      -- Owners++
      have hp3 : (S2.put { r2 with holds := r2.holds ++ [(k : Int)] }).pages[k]? = some p := HP.out
      obtain ⟨x4, pt4, h4⟩ := page_owners h3 hp3 (wrap64 (p.owners + 1))
      have q2 := h3.page hp3 2 (by omega)
      have f2 := h3.pgs.frozen
      have e2 := h3.blk.cell
      simp [pgCells] at q2
      simp only [srvCells] at e2
      have hkl : k < (S2.put { r2 with holds := r2.holds ++ [(k : Int)] }).pages.length := hsl.2.1 |> (fun h => by exact_mod_cast h)
      have X3 := Lib.hid x3
      have X4 := Lib.hid x4
      have HRB3 := Lib.hid (hrb3.trans HRB2.out)
      clear x4 hrb3
      generalize hS3 : S2.put { r2 with holds := r2.holds ++ [(k : Int)] } = S3 at h3 h4 q2 e2 hkl hp3 f2
      have hnow : S3.now = S2.now := by rw [← hS3]; rfl
      have hsize : S3.pageSize = S2.pageSize := by rw [← hS3]; rfl
      have hr3 : ({ r2 with holds := r2.holds ++ [(k : Int)] } : Req) ∈ S3.reqs := by rw [← hS3]; exact mem_put_self HR2.out rfl
      have HS3 := Lib.hid hS3
      have H4 := Lib.hid h4
      have HNOW := Lib.hid hnow
      have HSIZE := Lib.hid hsize
      clear hS3 h4 hnow hsize
      go_upto_region 5 with (fail)
      obtain ⟨w5, hw5, h5, x5⟩ : ∃ w5 : World, w4.setCell ⟨L3.pb, k * 4 + 2, none⟩ (.int .i64 (wrap64 (p.owners + 1))) = w5 ∧ SrvAt own3 w5 sb { L3 with pt := pt4 } { S3 with pages := S3.pages.set k { p with owners := wrap64 (p.owners + 1) } } ∧ Ext own3 w4 own3 w5 Tpg := ⟨_, rfl, H4.out, X4.out⟩
      rw [hw5]
      clear hw5 H4 X4 q2 f2 e2
      -- Used
      have hkl' : k < S3.pages.length := hkl
      have hp5 : ({ S3 with pages := S3.pages.set k { p with owners := wrap64 (p.owners + 1) } } : Srv).pages[k]? = some { p with owners := wrap64 (p.owners + 1) } := List.getElem?_set_self hkl'
      obtain ⟨x6, pt6, h6⟩ := page_used h5 hp5 S3.now
      have q3 := h5.page hp5 3 (by omega)
      have f2 := h5.pgs.frozen
      have e2 := h5.blk.cell
      simp [pgCells] at q3
      simp only [srvCells, List.length_set] at e2
      simp only at f2
      have X5 := Lib.hid x5
      have X6 := Lib.hid x6
      have H6 := Lib.hid h6
      clear x5 x6 h5 h6 hp5 hp3 h3 x3
      go_wp2
      go_still_tail 11, (by kernel_rfl)
      go_upto_region 6 with (fail)
      obtain ⟨w7, hw7, h7, x7⟩ : ∃ w7 : World, (w5.setCell ⟨L3.pb, k * 4 + 3, none⟩ (.int .i64 S3.now)).drew = w7 ∧ SrvAt own3 w7 sb { L3 with pt := pt6 } { S3 with pages := (S3.pages.set k { p with owners := wrap64 (p.owners + 1) }).set k { p with owners := wrap64 (p.owners + 1), used := S3.now } } ∧ Ext own3 w5 own3 w7 Tpg := ⟨_, rfl, H6.out.drewN 1, X6.out.drewN 1⟩
      rw [hw7]
      clear hw7 H6 X6 q3 f2 e2
      have hb7 := h7.req _ hr3
      have hl7 := hb7.lab
      have d1 := hb7.blk.cell
      have f1 := hb7.blk.frozen
      have e2 := h7.blk.cell
      simp only [srvCells, HSIZE.out] at e2
      simp only [reqCells] at d1
      simp only at d1 f1 hl7
      rw [HRB3.out, HID2.out] at d1 f1
      have x8 : Ext own3 w7 own3 (w7.setCell ⟨L3.rb r2.id, 8, none⟩ (.int .i64 (r2.entries + S2.pageSize))) (fun l => l = .req r2.id) := Ext.setCell _ _ hl7
      have hfin := h7.req_set hr3 { r2 with holds := r2.holds ++ [(k : Int)], entries := r2.entries + S2.pageSize } rfl x8 _ _ _ (hb7.blk.set 8 (.int .i64 (r2.entries + S2.pageSize))) (hb7.prm.ext x8 (by simp)) (hb7.tok.ext x8 (by simp)) (hb7.hold.ext x8 (by simp))
      have hse : ({ S3 with pages := (S3.pages.set k { p with owners := wrap64 (p.owners + 1) }).set k { p with owners := wrap64 (p.owners + 1), used := S3.now } } : Srv).put { r2 with holds := r2.holds ++ [(k : Int)], entries := r2.entries + S2.pageSize } = S2.shareStep r2 k p := by
        rw [HNOW.out, ← HS3.out]
        show ((({ S2 with pages := (S2.pages.set k { p with owners := wrap64 (p.owners + 1) }).set k { p with owners := wrap64 (p.owners + 1), used := S2.now } } : Srv).put { r2 with holds := r2.holds ++ [(k : Int)] }).put { r2 with holds := r2.holds ++ [(k : Int)], entries := r2.entries + S2.pageSize }) = _
        rw [put_put _ { r2 with holds := r2.holds ++ [(k : Int)] } { r2 with holds := r2.holds ++ [(k : Int)], entries := r2.entries + S2.pageSize } rfl, List.set_set]
        rfl
      rw [hse] at hfin
      rw [HRB3.out, HID2.out] at hfin x8
      have X7 := Lib.hid x7
      have X8 := Lib.hid x8
      have hw2a : r2.entries + S2.pageSize ≤ 100 := by have := hsl.2.2.1; omega
      have hw2b : 0 ≤ r2.entries + S2.pageSize := by omega
      have w64 : wrap64 (r2.entries + S2.pageSize) = r2.entries + S2.pageSize := wrap64_in (by omega)
      have H8 := Lib.hid hfin
      have hwr8 := HWF.out.req _ HMEM.out
      have h70 : ∀ w9 L9, SrvAt own3 w9 sb L9 (S2.shareStep r2 k p) → L9.rb = L.rb → Calls Tryz.prog 70 #[.pointer (some ⟨sb, 0, none⟩), .pointer (some ⟨L.rb r.id, 0, none⟩)] w9 fun e w' =>
          e = .returned (.tuple #[.int .i64 ((S2.shareStep r2 k p).shared { r2 with holds := r2.holds ++ [(k : Int)], entries := r2.entries + S2.pageSize }).1, .bool ((S2.shareStep r2 k p).shared { r2 with holds := r2.holds ++ [(k : Int)], entries := r2.entries + S2.pageSize }).2]) ∧ Below w9.heap.size w9 w' := fun w9 L9 h9 hrb9 => by
        have t := shared_any own3 sb L9 _ _ w9 h9 HMEM.out HWF.out.n1 hwr8.ent.1 (by have := hwr8.ent; omega) HWF.out.size0 HWF.out.size1
        dsimp only at t
        rw [HID2.out, hrb9] at t
        exact t
      have H70' := Lib.hid h70
      clear x7 x8 hfin hse hl7 hb7 h7 hr3 hwr8 h70
      go_wp2
      go_still_tail 12, (by kernel_rfl)
      go_wp2_with fail
      refine (H70'.out _ _ (H8.out.drewN 1) rfl).mono ?_
      rintro e w9 ⟨rfl, hb9⟩
      have h9 := H8.out.drewN 1
      have H9 := Lib.hid (h9.below hb9)
      have X9 := Lib.hid (Ext.below hb9 Tin .other (own := own3))
      clear h9 w64 hw2a hw2b
      go_wp2
      go_roundg m
      case measure => omega
      case rel =>
        refine ⟨_, _, S2.shareStep r2 k p, { r2 with holds := r2.holds ++ [(k : Int)], entries := r2.entries + S2.pageSize }, H9.out, HWF.out, HMEM.out, HID2.out, HTOK2.out, HRO2.out, HIDS.out.trans HIDS2.out, rfl, ?_, rfl, rfl, ?_, ?_⟩
        · exact X2.out.trans (X3.out.trans ((X5.out.mono Tin_pg).trans ((X7.out.mono Tin_pg).trans (((X8.out.mono (Tin_req _)).drewN 1).trans X9.out))))
        · rw [HSH.out, HY.out]
        · have := HG.out; show (m : Int) + (r2.entries + S2.pageSize) ≥ _; omega
    · have hs' : (S2.shared r2).2 = false := by simpa using hs
      have hfin := Lib.hid (show S.share r = (S2, r2) by rw [hsh, shareF_no hs'])
      rw [hs']
      have hq := h2.req r2 hr2
      have c1 := hq.blk.cell
      simp only [reqCells] at c1
      rw [hid2, hrb2] at c1
      obtain ⟨TA, tc, htv, -, -⟩ := hq.tok.shape
      rw [hid2] at htv
      rw [htv, htok2] at c1
      have H2 := Lib.hid h2
      have HW2 := Lib.hid hw2
      have HR2 := Lib.hid hr2
      have HID2 := Lib.hid hid2
      have HTOK2 := Lib.hid htok2
      have HIDS2 := Lib.hid hids2
      have HRB2 := Lib.hid hrb2
      have X2 := Lib.hid x2
      have HRO2 := Lib.hid hro2
      clear hs hs' hsh hq htv h2 hw2 hr2 hid2 htok2 hro2 hids2 hrb2 x2 hg
      generalize (S2.shared r2).1 = kz
      go_wp2
      go_quiet (fail)
      by_cases hlt : r2.entries < r.tokens.length
      · have hE := Lib.hid (show S.work tokOf r beh = S2.compute r2 beh by unfold Srv.work; rw [hfin.out, if_pos (by rw [HTOK2.out]; exact hlt)])
        have h71 := HCS.out own2 sb L2 S2 r2
        rw [HRB2.out, HID2.out] at h71
        have H71 := Lib.hid h71
        clear h71
        go_wp2_with fail
        refine (H71.out _ (H2.out.drewN _) HW2.out HR2.out beh _ (by rw [HIDS2.out]; exact HB.out) ((HBV.out.ext X2.out Tin_other)) HNB.out (by rw [HTOK2.out]; exact hlt)).mono ?_
        rintro e w3 ⟨rfl, own3, L3, h3, hrb3, x3⟩
        go_wp2
        go_end0
        rw [hE.out]
        exact ⟨rfl, own3, L3, h3, by rw [hrb3]; exact HRB2.out, (X2.out.drewN _).trans x3⟩
      · have hE := Lib.hid (show S.work tokOf r beh = S2.nextTok r2 (tokOf S2.m r2.tokens r2.seed r2.made) by unfold Srv.work; rw [hfin.out, if_neg (by rw [HTOK2.out]; exact hlt)])
        have h72 := HNS.out own2 sb L2 S2 r2
        rw [HRB2.out, HID2.out] at h72
        have H72 := Lib.hid h72
        have hge : (r.tokens.length : Int) ≤ r2.entries := by omega
        clear h72 hlt
        go_wp2_with fail
        refine (H72.out _ (H2.out.drewN _) HW2.out HR2.out HRO2.out).mono ?_
        rintro e w3 ⟨rfl, own3, L3, h3, hrb3, x3⟩
        go_wp2
        go_end0
        rw [hE.out]
        exact ⟨rfl, own3, L3, h3, by rw [hrb3]; exact HRB2.out, (X2.out.drewN _).trans x3⟩
end Go.Proofs.YtllpoaoboieijaaGreat
/-
  What a piece of work leaves as it was: the plain side.
-/
namespace Go.Proofs.YtllpoaoboieijaaGreat
open Go.RowKit

/-- A request without what comes and goes with the pages. -/
def Req.bare (r : Req) : Req := { r with holds := [], entries := 0, worked := false, lost := false }
def Srv.rest (S : Srv) : Srv := { S with reqs := [], pages := [] }
structure Same (S S' : Srv) : Prop where
  wf : Wf S'
  bare : S'.reqs.map Req.bare = S.reqs.map Req.bare
  np : S'.pages.length = S.pages.length
  rest : S'.rest = S.rest
theorem bare_id (r : Req) : r.bare.id = r.id := rfl
theorem Same.ids {S S' : Srv} (h : Same S S') : S'.reqs.map Req.id = S.reqs.map Req.id := by
  have e := congrArg (List.map Req.id) h.bare
  simp only [List.map_map] at e
  exact e
theorem Same.refl {S : Srv} (h : Wf S) : Same S S := ⟨h, rfl, rfl, rfl⟩
theorem Same.trans {S S1 S2 : Srv} (h : Same S S1) (k : Same S1 S2) : Same S S2 := ⟨k.wf, k.bare.trans h.bare, k.np.trans h.np, k.rest.trans h.rest⟩
theorem Same.uniq {S S' : Srv} (h : Same S S') (hu : (S.reqs.map Req.id).Nodup) : (S'.reqs.map Req.id).Nodup := by rw [h.ids]; exact hu
theorem inj_id' {l : List Req} (hu : (l.map Req.id).Nodup) {q r : Req} (hq : q ∈ l) (hr : r ∈ l) (e : q.id = r.id) : q = r := by
  induction l with
  | nil => cases hq
  | cons x l ih =>
    simp only [List.map_cons, List.nodup_cons] at hu
    rcases List.mem_cons.1 hq with a | a <;> rcases List.mem_cons.1 hr with b | b
    · rw [a, b]
    · exact absurd (by rw [← a, e]; exact List.mem_map_of_mem b) hu.1
    · exact absurd (by rw [← b, ← e]; exact List.mem_map_of_mem a) hu.1
    · exact ih hu.2 a b
/-- Request by request. -/
theorem Same.mem {S S' : Srv} (h : Same S S') {q : Req} (hq : q ∈ S'.reqs) : ∃ q0, q0 ∈ S.reqs ∧ q0.bare = q.bare := by
  have : q.bare ∈ S'.reqs.map Req.bare := List.mem_map_of_mem hq
  rw [h.bare] at this
  exact List.mem_map.1 this
theorem Same.symm_mem {S S' : Srv} (h : Same S S') {q : Req} (hq : q ∈ S.reqs) : ∃ q1, q1 ∈ S'.reqs ∧ q1.bare = q.bare := by
  have : q.bare ∈ S.reqs.map Req.bare := List.mem_map_of_mem hq
  rw [← h.bare] at this
  exact List.mem_map.1 this
theorem Same.put {S : Srv} (hw : Wf S) (hu : (S.reqs.map Req.id).Nodup) {r r' : Req} (hr : r ∈ S.reqs) (ps : List Pg) (hl : ps.length = S.pages.length) (ht : ∀ p, p ∈ ps → p.toks.length ≤ 8) (hb : r'.bare = r.bare) (hr' : WfReq S.pages.length S.m.vocab r') :
    Same S (({ S with pages := ps } : Srv).put r') := by
  refine ⟨hw.put ps hl ht r' hr', ?_, hl, rfl⟩
  have hid : r'.id = r.id := by have := congrArg Req.id hb; exact this
  simp only [Srv.put, List.map_map]
  apply List.map_congr_left
  intro q hq
  simp only [Function.comp]
  split
  · rename_i e
    rw [hb, inj_id' hu hq hr (by rw [e, hid])]
  · rfl
theorem Same.pages {S : Srv} (hw : Wf S) (ps : List Pg) (hl : ps.length = S.pages.length) (ht : ∀ p, p ∈ ps → p.toks.length ≤ 8) : Same S { S with pages := ps } := ⟨hw.pages ps hl ht, rfl, hl, rfl⟩

theorem same_takeFrom {S : Srv} (hw : Wf S) (hu : (S.reqs.map Req.id).Nodup) {r : Req} (hr : r ∈ S.reqs) : Same S (S.takeFrom r) := by
  refine ⟨hw.takeFrom hr, ?_, relAll_length _ _ _, rfl⟩
  unfold Srv.takeFrom
  simp only [Srv.put, List.map_map]
  apply List.map_congr_left
  intro q hq
  simp only [Function.comp]
  split
  · rename_i e
    rw [inj_id' hu hq hr e]; rfl
  · rfl
theorem same_pageF (beh : List Int) : ∀ n S, Wf S → (S.reqs.map Req.id).Nodup → Same S (pageF n S beh).1
  | 0, S, h, _ => Same.refl h
  | n + 1, S, h, hu => by
    rw [pageF]
    split
    · exact Same.pages h _ (by simp) (fun p hp => by
        rcases List.mem_or_eq_of_mem_set hp with h1 | h1
        · exact h.ptok p h1
        · rw [h1]; simp [Pg.zero])
    · split
      · rename_i q hq
        have hm := victimTo_mem _ hq
        have h1 := same_takeFrom h hu hm.1
        exact h1.trans (same_pageF beh n _ h1.wf (h1.uniq hu))
      · exact Same.refl h

theorem WfReq.set {n : Nat} {v : Int} {r : Req} (h : WfReq n v r) (hs : List Int) (e : Int) (b c : Bool) (h1 : ∀ k, k ∈ hs → 0 ≤ k ∧ k < (n : Int)) (h2 : (hs.length : Int) ≤ e) (h3 : e ≤ r.tokens.length) (h4 : hs.length = 0 → e = 0) :
    WfReq n v { r with holds := hs, entries := e, worked := b, lost := c } :=
  ⟨h.id0, h.id1, h.dl0, h.dl1, h.p0, h.p1, h.m0, h.m1, h.s0, h.s1, h.made0, h.made1, h.toks, h1, h2, h3, h4, h.tokv, h.openm⟩
theorem mem_set_len {ps : List Pg} {k : Nat} {q : Pg} (h : ∀ p, p ∈ ps → p.toks.length ≤ 8) (hq : q.toks.length ≤ 8) : ∀ p, p ∈ ps.set k q → p.toks.length ≤ 8 := fun p hp => by
  rcases List.mem_or_eq_of_mem_set hp with h1 | h1
  · exact h p h1
  · rw [h1]; exact hq
theorem same_compute {S : Srv} {r : Req} {beh : List Int} (hw : Wf S) (hu : (S.reqs.map Req.id).Nodup) (hr : r ∈ S.reqs) (hnb : r.id ∉ beh) (he : r.entries < r.tokens.length) : Same S (S.compute r beh) := by
  have hwr := hw.req r hr
  have hent := hwr.ent
  have hz0 := hw.size0
  have hz1 := hw.size1
  unfold Srv.compute Srv.take
  by_cases hm : r.entries % S.pageSize = 0
  · rw [if_pos hm]
    have hs := same_pageF beh (holders S + 1) S hw hu
    have hr1 := pageF_keeps hnb (holders S + 1) S hr
    have hk := (pageF_same beh (holders S + 1) S hw hu).2.2.2.2.2
    have hz := (pageF_same beh (holders S + 1) S hw hu).2.2.2.1
    rw [show pageF (holders S + 1) S beh = S.page beh from rfl] at hs hr1 hk hz
    by_cases hok : (S.page beh).2.2 = true
    · rw [if_pos hok]
      obtain ⟨k0, k1⟩ := hk hok
      have hkn : (S.page beh).2.1 = ((S.page beh).2.1.toNat : Int) := (Int.toNat_of_nonneg k0).symm
      have hnp := hs.np
      generalize (S.page beh).1 = S1 at hs hr1 hz hnp ⊢
      generalize hkk : (S.page beh).2.1.toNat = k at hkn ⊢
      rw [hkn] at k0 k1 ⊢
      have hkl : k < S1.pages.length := by rw [hnp]; omega
      have hu1 := hs.uniq hu
      simp only
      rw [show ((r.holds ++ [(k : Int)]).getLastD 0).toNat = k by simp]
      rw [show ((({ S1 with pages := S1.pages.set k ⟨r.entries, [], 1, 0⟩ } : Srv).put { r with holds := r.holds ++ [(k : Int)] })).pages[k]? = some ⟨r.entries, [], 1, 0⟩ from by
        show (S1.pages.set k _)[k]? = _
        rw [List.getElem?_set_self hkl]]
      simp only [Srv.fill]
      have hn : 1 ≤ fillN S1.pageSize ⟨r.entries, [], 1, 0⟩ { r with holds := r.holds ++ [(k : Int)] } := by
        unfold fillN
        simp only [List.length_nil]
        rw [hz]
        omega
      have hn2 : (fillN S1.pageSize ⟨r.entries, [], 1, 0⟩ { r with holds := r.holds ++ [(k : Int)] } : Int) ≤ r.tokens.length - r.entries := by
        unfold fillN; simp only; omega
      have hn3 : fillN S1.pageSize ⟨r.entries, [], 1, 0⟩ { r with holds := r.holds ++ [(k : Int)] } ≤ 8 := by
        unfold fillN; simp only [List.length_nil]; rw [hz]; omega
      rw [show (({ S1 with pages := S1.pages.set k ⟨r.entries, [], 1, 0⟩ } : Srv).put { r with holds := r.holds ++ [(k : Int)] }).pageSize = S1.pageSize from rfl]
      generalize fillN S1.pageSize ⟨r.entries, [], 1, 0⟩ { r with holds := r.holds ++ [(k : Int)] } = n at hn hn2 hn3 ⊢
      have hwr1 := hs.wf.req r hr1
      have := Same.put (r' := { r with holds := r.holds ++ [(k : Int)], entries := r.entries + (n : Nat), worked := true }) hs.wf hu1 hr1 ((S1.pages.set k ⟨r.entries, [], 1, 0⟩).set k { (⟨r.entries, [], 1, 0⟩ : Pg) with toks := [] ++ (r.tokens.drop r.entries.toNat).take n, used := S1.now }) (by simp)
        (mem_set_len (mem_set_len hs.wf.ptok (by simp)) (by simp; omega)) rfl (hwr1.set _ _ true r.lost (fun j hj => by
          rcases List.mem_append.1 hj with h1 | h1
          · exact hwr1.hold j h1
          · rw [List.mem_singleton.1 h1]; omega) (by have := hwr.hlen; simp; omega) (by omega) (by simp))
      refine hs.trans ?_
      have e := put_put ({ S1 with pages := (S1.pages.set k ⟨r.entries, [], 1, 0⟩).set k { (⟨r.entries, [], 1, 0⟩ : Pg) with toks := [] ++ (r.tokens.drop r.entries.toNat).take n, used := S1.now } } : Srv) { r with holds := r.holds ++ [(k : Int)] } { r with holds := r.holds ++ [(k : Int)], entries := r.entries + (n : Nat), worked := true } rfl
      rw [← e] at this
      exact this
    · rw [if_neg hok]; exact hs
  · rw [if_neg hm]
    simp only
    split
    · rename_i p hp
      have hpm := List.mem_of_getElem? hp
      have hpt := hw.ptok p hpm
      have hne : r.holds.length ≠ 0 := fun e => hm (by rw [hwr.hold0 e]; simp)
      have hn2 : (fillN S.pageSize p r : Int) ≤ r.tokens.length - r.entries := by unfold fillN; omega
      have hn3 : p.toks.length + fillN S.pageSize p r ≤ 8 := by unfold fillN; omega
      exact Same.put hw hu hr _ (by simp) (mem_set_len hw.ptok (by simp; omega)) rfl (hwr.set _ _ _ _ hwr.hold (by have := hwr.hlen; omega) (by omega) (fun e => absurd e hne))
    · exact Same.refl hw
end Go.Proofs.YtllpoaoboieijaaGreat
