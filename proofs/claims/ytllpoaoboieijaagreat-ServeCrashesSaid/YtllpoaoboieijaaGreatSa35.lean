/-
  next: the next token of a request.
-/
import Derived.Test.YtllpoaoboieijaaGreatSa23
/-
  next: the next token of a request.
-/
namespace Go.Proofs.YtllpoaoboieijaaGreat
open Go.RowKit

def nextSrvCells (p : MPl) (S : Srv) (L : Lay) : List Value := ([Value.int .i64 1, .int .i64 8, .int .i64 4, .int .i64 8, .slice (some ⟨p.cuts.b, p.cuts.o, none⟩) 4 p.cuts.c, .slice (some ⟨p.embed.b, p.embed.o, none⟩) 32 p.embed.c, .slice (some ⟨p.place.b, p.place.o, none⟩) 16 p.place.c, .slice (some ⟨p.mix.b, p.mix.o, none⟩) 48 p.mix.c, .slice (some ⟨p.out.b, p.out.o, none⟩) 32 p.out.c, .slice (some ⟨p.soft.b, p.soft.o, none⟩) 7 p.soft.c, .slice (some ⟨p.odds.b, p.odds.o, none⟩) 6 p.odds.c, .int .i64 S.pagesN, .int .i64 S.pageSize, .int .i64 S.batch, .int .i64 S.queue, .int .i64 S.vocab, .int .i64 S.now, .map (some L.mb), .slice (some ⟨L.pb, 0, none⟩) S.pages.length S.pages.length, L.logv, .int .i64 S.records, .int .i64 S.synced, .bool S.replay] : List Value)
theorem srvCells_demo {S : Srv} {L : Lay} {p : MPl} (h : mdlCells S.m L.mv = demoCells p) : srvCells S L = nextSrvCells p S L := by
  show mdlCells S.m L.mv ++ _ = _
  rw [h]; rfl

set_option maxRecDepth 100000 in
set_option maxHeartbeats 3200000 in
theorem next_said : NextSaid tokF := by
  intro own sb L S r w h hw hr hro
  have hwr := hw.req r hr
  have hq := h.req r hr
  obtain ⟨p, hp, hd⟩ := mdl_places h.mdl hw.mdl
  have c2 := h.blk.cell
  rw [srvCells_demo hp] at c2
  obtain ⟨A, tc, hv, htc, hA⟩ := hq.tok.shape
  have hlen := hwr.toks
  have hp0 := hwr.p0
  have hp1 := hwr.p1
  have hm0 := hwr.made0
  have hm1 := hwr.openm hro
  have hm2 := hwr.m1
  have hn0 : 0 < r.tokens.length := by omega
  have hn64 : r.tokens.length ≤ 63 := by omega
  obtain ⟨tg, rfl⟩ : ∃ tg, A = some ⟨tg, 0, none⟩ := by
    rcases hA with h0 | hA
    · omega
    · exact hA
  have htl := hq.tok
  rw [hv] at htl
  obtain ⟨q, hqv, htr⟩ : ∃ q : Pl, Value.slice (some (⟨tg, 0, none⟩ : Addr)) r.tokens.length tc = .slice (some ⟨q.b, q.o, none⟩) r.tokens.length q.c ∧ RdAt w q.b q.o q.c r.tokens := Rdl.place (own := own) (lb := .tok r.id) ⟨htl.rd, fun _ => htl.2⟩ hn0
  have htr' : RdAt w tg 0 tc r.tokens := by
    injection hqv with e1 e2 e3
    injection e1 with e1
    injection e1 with e1 e4
    rw [← e1, ← e3, ← e4] at htr
    exact htr
  have hblk := hq.blk
  simp only [reqCells] at hblk
  rw [hv] at hblk
  have HBLK := Lib.hid hblk
  have c1 := hblk.cell
  have HTR := Lib.hid htr'
  have HV := Lib.hid hv
  have H := Lib.hid h
  have HW := Lib.hid hw
  have HR := Lib.hid hr
  have HRO := Lib.hid hro
  have HD := Lib.hid hd
  have HC2 := Lib.hid (fun (wx : World) (hb : Below w.heap.size w wx) => (show ∀ o, wx.cell? ⟨sb, o, none⟩ = (nextSrvCells p S L)[o]? from by
    have := ((h.below hb).blk).cell
    rw [srvCells_demo hp] at this
    exact this))
  have HC1 := Lib.hid (fun (wx : World) (hb : Below w.heap.size w wx) => (hblk.below hb).cell)
  have HTK := Lib.hid (fun i (hi : i < r.tokens.length) => (show 0 ≤ r.tokens.getD i 0 ∧ r.tokens.getD i 0 < 8 from by
    have h1 := hwr.tokv (r.tokens[i]) (List.getElem_mem hi)
    rw [show S.m = demoM from hw.mdl] at h1
    rw [show r.tokens.getD i 0 = r.tokens[i] by simp [List.getD, hi]]
    exact h1))
  have HEY := Lib.hid (fun (wx : World) (hb : Below w.heap.size w wx) (t at' : Nat) (ht : t < 8) (ha : at' < 64) => Entry_any p t at' ht ha wx (hd.below hb))
  clear hq hp htl hqv htr htr' hblk hv hA h hw hr hro hd hwr hp0 hp1 hm0 hm1 hm2 hlen
  generalize hnt : r.tokens.length = nt at *
  have HNT := Lib.hid hnt
  clear hnt
  generalize hrb : L.rb r.id = rb at *
  have HRB := Lib.hid hrb
  clear hrb
  simp only [nextSrvCells] at c2 HC2
  simp only [demoCells] at HEY
  obtain ⟨i0, hi, hz0, hz1, hz2⟩ := info_parts info22
  go_enter Tryz.func72, Tryz.ntmps72
  go_wp2
  go_loopg [4, 16] nt (fun gk s4 s16 wx => ∃ (k : Nat) (P : Nat → Pl), s16 = .int .i64 k ∧ k ≤ nt ∧ Hid (Below w.heap.size w wx) ∧ Hid (EntRow w.heap.size wx s4 k (esOf r.tokens) P) ∧ gk = nt - k)
  case atStart => exact ⟨0, fun _ => ⟨0, 0, 0⟩, rfl, by omega, Lib.hid (Below.refl _ _), Lib.hid (EntRow.nil _ _ _ _), rfl⟩
  case round =>
    obtain ⟨k, P, rfl, hk, HB1, HE1, rfl⟩ := hrel
    have d2 := HC2.out wr HB1.out
    have d1 := HC1.out wr HB1.out
    obtain ⟨A4, c4, hv4⟩ := ownsRow_shape HE1.out.row
    subst hv4
    clear c1 c2
    by_cases hlt : k < nt
    · have ct := (HTR.out.below HB1.out).2.2 k (by rw [HNT.out]; exact hlt)
      rw [Nat.zero_add] at ct
      have htk := HTK.out k hlt
      obtain ⟨t, ht⟩ : ∃ t : Nat, r.tokens.getD k 0 = (t : Int) := ⟨(r.tokens.getD k 0).toNat, by omega⟩
      have HEK := Lib.hid (show esOf r.tokens k = entTo t k 12 by unfold esOf; rw [ht]; rfl)
      rw [ht] at ct htk
      have hb1 : k + 1 ≤ maxLen := by unfold maxLen; omega
      have hb2 : (k + 1) * 24 ≤ 140737488355328 := by omega
      clear ht
      go_wp2_with (first | (at_builtin; refine wpList_append_lies _ rfl _ _ 84 rfl w.heap.size 22 i0 (.slice none 0 0) 1 24 Tryz.underlying84 hi hz0 hz1 hz2 rfl (by decide) _ k _ rfl (ownsRow_below HE2.out.row (Below.alloc (Below.refl _ _) (Nat.le_refl _) _)) ⟨w2.heap.size, 0, none⟩ 1 1 [.slice (some ⟨g2, 0, none⟩) 12 c2] rfl rfl (news1' _ _ _) (one_slice _ _ _) Nat.one_pos hb1 hb2 (Nat.le_trans HB2.out.size (alloc_le _ _)) _ rfl ?_; intro g3 cap3 w3 hown3 hgrow3 hat3 hlt3; have HE3 := Lib.hid (EntRow.app HE2.out (by rw [HEK.out]; exact HR2.out.1) (esOf_len _ _) (fun gr hgr => by have := (HE1.out.row.lt gr hgr).2; have := HR2.out.2; omega) _ hown3 hgrow3 hat3); have HB3 := Lib.hid (Below.trans (HB2.out.alloc HB2.out.size _) (Below.ofGrown hgrow3 (Nat.le_trans HB2.out.size (alloc_le _ _)) (ownsRow_base HE1.out.row))); clear hown3 hgrow3 hat3 hlt3) | (go_at_call 94; refine (HEY.out wr HB1.out t k (by omega) (by omega)).mono ?_; rintro e w2 ⟨g2, c2, rfl, HB2', HR2⟩; have HB2 := Lib.hid (HB1.out.trans (HB2'.out.mono HB1.out.size)); have HE2 := Lib.hid (HE1.out.below HB2'.out)))
      go_roundg (nt - (k + 1))
      case measure => omega
      case rel => exact ⟨k + 1, _, by go_num, by omega, HB3, HE3, rfl⟩
    · have : k = nt := by omega
      subst this
      obtain ⟨g4, hA4⟩ : ∃ g4, A4 = some ⟨g4, 0, none⟩ := by
        rcases HE1.out.row.2 with ⟨hv, hz⟩ | ⟨g, cap, cur, hv, -⟩
        · omega
        · injection hv with a; exact ⟨g, a⟩
      subst hA4
      have HES := Lib.hid HE1.out.ents
      have HNX := Lib.hid (fun (wx : World) (hb : Below wr.heap.size wr wx) => Next_any p g4 0 c4 k (esOf r.tokens) P (by omega) (by omega) (fun i _ => esOf_in _ i) (drawI r.seed r.made) (by have := drawI_in r.seed r.made; omega) wx ((HD.out.below HB1.out).below hb) (HES.out.below hb))
      have HTF := Lib.hid (show ((tokI (esOf r.tokens) k (drawI r.seed r.made) : Nat) : Int) = tokF S.m r.tokens r.seed r.made by unfold tokF; rw [HNT.out])
      have HS := Lib.hid (fun (wx : World) (hb : Below w.heap.size w wx) => And.intro (HC2.out wx hb) (HC1.out wx hb))
      simp only [demoCells] at HNX
      go_upto_region 7 with fail
      go_region_held3 (fun wy : World => (∀ o, wy.cell? ⟨sb, o, none⟩ = ([Value.int .i64 1, .int .i64 8, .int .i64 4, .int .i64 8, .slice (some ⟨p.cuts.b, p.cuts.o, none⟩) 4 p.cuts.c, .slice (some ⟨p.embed.b, p.embed.o, none⟩) 32 p.embed.c, .slice (some ⟨p.place.b, p.place.o, none⟩) 16 p.place.c, .slice (some ⟨p.mix.b, p.mix.o, none⟩) 48 p.mix.c, .slice (some ⟨p.out.b, p.out.o, none⟩) 32 p.out.c, .slice (some ⟨p.soft.b, p.soft.o, none⟩) 7 p.soft.c, .slice (some ⟨p.odds.b, p.odds.o, none⟩) 6 p.odds.c, .int .i64 S.pagesN, .int .i64 S.pageSize, .int .i64 S.batch, .int .i64 S.queue, .int .i64 S.vocab, .int .i64 S.now, .map (some L.mb), .slice (some ⟨L.pb, 0, none⟩) S.pages.length S.pages.length, L.logv, .int .i64 S.records, .int .i64 S.synced, .bool S.replay] : List Value)[o]?) ∧ (∀ o, wy.cell? ⟨rb, o, none⟩ = ([Value.int .i64 r.id, .int .i64 r.deadline, L.rp r.id, .int .i64 r.most, .int .i64 r.seed, .slice (some ⟨tg, 0, none⟩) k tc, .int .i64 r.made, L.rh r.id, .int .i64 r.entries, .bool r.ended, .int .i64 r.err, .int .i64 r.kept, .bool r.worked, .bool r.lost] : List Value)[o]?)) (first | exact HS.out _ HB5.out | exact HS.out _ HB1.out.drew) (first
        | (go_at_call 46; refine (draw_any _ _ _).mono ?_; rintro e wz ⟨rfl, hz⟩; subst wz; dsimp only)
        | (go_at_call 95; refine (HNX.out _ (Below.refl _ _).drew).mono ?_; rintro e w5 ⟨rfl, hb5⟩; have HB15 := Lib.hid (below_undrew hb5); have HB5 := Lib.hid (HB1.out.trans (HB15.out.mono HB1.out.size)); clear hb5; dsimp only))
      rw [HTF.out]
      have htf := tokF_in S.m r.tokens r.seed r.made
      have HTI := Lib.hid htf
      clear d1 d2 htf
      generalize htk : tokF S.m r.tokens r.seed r.made = tk at *
      have HTKE := Lib.hid htk
      clear htk
      have H5 := Lib.hid (H.out.below HB5.out)
      have X5 := Lib.hid (Ext.below HB5.out Tin .other (own := own))
      generalize relab own w.heap.size .other = own5 at H5 X5
      obtain ⟨A', c', app⟩ := TokApp.mk' H5.out HR.out
      have hval := app.val
      rw [HV.out, HNT.out] at hval
      injection hval with e1 e2 e3
      subst e1 e3
      have hB5 := app.blk
      simp only [reqCells] at hB5
      rw [HNT.out, HRB.out] at hB5
      have d1 := hB5.cell
      have f1 := hB5.frozen
      have APP := Lib.hid app
      obtain ⟨i0, hi, hz0, hz1, hz2⟩ := info_parts info3
      have hb1 : k + 1 ≤ maxLen := by unfold maxLen; omega
      have hb2 : (k + 1) * 8 ≤ 140737488355328 := by omega
      have hown : ∀ o d, ((w5.alloc o).drewN d).ownsRow 0 3 1 (.slice (some ⟨tg, 0, none⟩) k tc) k (ints r.tokens) := fun o d => by
        have := APP.out.owns o d
        rw [HNT.out] at this
        exact this
      have HOWN := Lib.hid hown
      clear hB5 app hown
      go_upto_region 9 with (at_builtin; refine wpList_append_lies _ rfl _ _ 22 rfl 0 3 i0 (.int .i64 0) 1 8 Tryz.underlying22 hi hz0 hz1 hz2 rfl (by decide) _ _ _ rfl (HOWN.out _ 0) ⟨w5.heap.size, 0, none⟩ 1 1 [.int .i64 tk] rfl rfl (news1' _ _ _) (one_int _ _) Nat.one_pos hb1 hb2 (Nat.zero_le _) _ rfl ?_; intro g cap w6 hown6 hgrow hat hlt6; have hB6 := APP.out.after _ 0 tk g cap w6 (by rw [HNT.out]; exact hown6) (by rw [HNT.out]; exact hgrow) (by rw [HNT.out]; exact hat); rw [HNT.out, HRB.out] at hB6; have H6 := Lib.hid hB6.2; have hB7 := hB6.1; simp only [reqCells] at hB7; have d3 := hB7.cell; have f3 := hB7.frozen; clear hB6 hB7 hown6 hgrow hat hlt6)
      obtain ⟨own6, L6, h6, hrb6, x6⟩ := H6.out
      generalize w6.setCell ⟨rb, 5, none⟩ (.slice (some ⟨g, 0, none⟩) (k + 1) cap) = w7 at h6 x6 ⊢
      clear H6 d1 d3 f1 f3
      have hr1 : ({ r with tokens := r.tokens ++ [tk] } : Req) ∈ (S.put { r with tokens := r.tokens ++ [tk] }).reqs := mem_put_self HR.out rfl
      have q7 := h6.req _ hr1
      have hrb7 : L6.rb r.id = rb := by rw [hrb6]; exact HRB.out
      have hk7 := q7.blk
      simp only [reqCells] at hk7
      rw [hrb7] at hk7
      have d7 := hk7.cell
      have f7 := hk7.frozen
      have hwr := HW.out.req r HR.out
      have m0 := hwr.made0
      have m1 := hwr.openm HRO.out
      have m2 := hwr.m1
      have em : IntKind.i64.wrap (r.made + 1) = r.made + 1 := IntWalk.i64_in _ (by omega)
      have em' : wrap64 (r.made + 1) = r.made + 1 := by rw [← wrapEq]; exact em
      have hl7 : own6 rb = .req r.id := by rw [← hrb7]; exact q7.lab
      have x9 : Ext own6 w7 own6 ((w7.setCell ⟨rb, 6, none⟩ (.int .i64 (r.made + 1))).setCell ⟨rb, 12, none⟩ (.bool true)) (fun l => l = .req r.id) := (Ext.setCell _ _ hl7).trans (Ext.setCell _ _ hl7)
      have hk9 := (hk7.set 6 (.int .i64 (r.made + 1))).set 12 (.bool true)
      have h9 := h6.req_set hr1 { r with tokens := r.tokens ++ [tk], made := r.made + 1, worked := true } rfl x9 _ _ _ (by rw [show L6.rb ({ r with tokens := r.tokens ++ [tk] } : Req).id = rb from hrb7]; exact hk9) (q7.prm.ext x9 (by simp)) (q7.tok.ext x9 (by simp)) (q7.hold.ext x9 (by simp))
      rw [put_put _ _ _ (by rfl)] at h9
      have H9 := Lib.hid h9
      have X9 := Lib.hid x9
      have X6 := Lib.hid x6
      have HRB7 := Lib.hid hrb7
      have HK9 := Lib.hid hk9
      clear h6 x6 hr1 q7 hrb7 hk7 hwr m0 m1 m2 hl7 x9 hk9 h9
      go_upto_region 11 with fail
      obtain ⟨w9, hw9⟩ : ∃ w9, (w7.setCell ⟨rb, 6, none⟩ (.int .i64 (r.made + 1))).setCell ⟨rb, 12, none⟩ (.bool true) = w9 := ⟨_, rfl⟩
      rw [hw9] at H9 X9 HK9 ⊢
      have d9 := HK9.out.cell
      simp only [List.set_cons_succ, List.set_cons_zero] at d9
      have XX := Lib.hid ((X5.out.trans X6.out).trans (X9.out.mono (T' := Tin) (fun l t => by rw [show l = Lb.req r.id from t]; intro f; cases f)))
      have hr2 : ({ r with tokens := r.tokens ++ [tk], made := r.made + 1, worked := true } : Req) ∈ (S.put { r with tokens := r.tokens ++ [tk], made := r.made + 1, worked := true }).reqs := mem_put_self HR.out rfl
      clear d7 f7 hw9 X9
      have HNT2 := Lib.hid (show S.nextTok r tk = if tk = 0 ∨ r.made + 1 = r.most then (S.put { r with tokens := r.tokens ++ [tk], made := r.made + 1, worked := true }).endReq { r with tokens := r.tokens ++ [tk], made := r.made + 1, worked := true } 0 else S.put { r with tokens := r.tokens ++ [tk], made := r.made + 1, worked := true } from rfl)
      have hwr := HW.out.req r HR.out
      have HEND := Lib.hid (fun nq => end_any own6 sb _ _ _ 0 (w9.drewN nq) (H9.out.drewN nq) hr2 hwr.hold HW.out.n1 (show r.holds.length ≤ 4096 by have := hwr.ent; omega))
      simp only [HRB7.out] at HEND
      have HREND := Lib.hid HRB7.out
      clear hwr hr2
      by_cases h0 : tk = 0
      · have b0 : (tk == 0) = true := by simp [h0]
        have HIF := Lib.hid (show (tk = 0 ∨ r.made + 1 = r.most) from .inl h0)
        clear h0
        go_quiet (fail)
        go_wp2_with (go_at_call 36; refine (HEND.out _).mono ?_; rintro e w10 ⟨rfl, hg10⟩; have HG10 := Lib.hid hg10; clear hg10)
        go_end0
        obtain ⟨own10, L10, h10, hrb10, x10⟩ := HG10.out
        refine ⟨rfl, own10, L10, ?_, hrb10.trans hrb6, (XX.out.drewN _).trans (x10.mono (Tin_gb _))⟩
        rw [HTKE.out, HNT2.out, if_pos HIF.out]
        exact h10
      · have b0 : (tk == 0) = false := by simp [h0]
        by_cases hm : r.made + 1 = r.most
        · have b1 : (r.made + 1 == r.most) = true := by simp [hm]
          have HIF := Lib.hid (show (tk = 0 ∨ r.made + 1 = r.most) from .inr hm)
          clear h0 hm
          go_quiet (fail)
          go_wp2_with (go_at_call 36; refine (HEND.out _).mono ?_; rintro e w10 ⟨rfl, hg10⟩; have HG10 := Lib.hid hg10; clear hg10)
          go_end0
          obtain ⟨own10, L10, h10, hrb10, x10⟩ := HG10.out
          refine ⟨rfl, own10, L10, ?_, hrb10.trans hrb6, (XX.out.drewN _).trans (x10.mono (Tin_gb _))⟩
          rw [HTKE.out, HNT2.out, if_pos HIF.out]
          exact h10
        · have b1 : (r.made + 1 == r.most) = false := by simp [hm]
          have HIF := Lib.hid (show ¬ (tk = 0 ∨ r.made + 1 = r.most) from fun c => c.elim h0 hm)
          clear h0 hm
          go_quiet (fail)
          go_wp2
          go_end0
          rw [HTKE.out, HNT2.out, if_neg HIF.out]
          exact ⟨rfl, own6, _, H9.out.drewN _, hrb6, XX.out.drewN _⟩
end Go.Proofs.YtllpoaoboieijaaGreat
