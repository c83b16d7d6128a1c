/-
  compute: the walk.
-/
import Derived.Test.YtllpoaoboieijaaGreatSa6
/-
  compute: the walk.
-/
namespace Go.Proofs.YtllpoaoboieijaaGreat
open Go.RowKit

/-- What holds behind the choice of a page. -/
def CutTake (own : Nat → Lb) (sb : Nat) (L : Lay) (S : Srv) (r : Req) (beh : List Int) (w wx : World) : Prop :=
  ∃ own1 L1 S1 r1, SrvAt own1 wx sb L1 S1 ∧ S.take r beh = (S1, some r1) ∧ L1.rb = L.rb ∧ Ext own w own1 wx Tin

set_option maxRecDepth 100000 in
set_option maxHeartbeats 800000 in
theorem compute_any (own : Nat → Lb) (sb : Nat) (L : Lay) (S : Srv) (r : Req) (w : World) (h : SrvAt own w sb L S) (hw : Wf S) (hr : r ∈ S.reqs) (beh : List Int) (bv : Value)
    (hbeh : ∀ id, id ∈ beh → id ∈ S.reqs.map Req.id) (hbv : RdO own w bv (beh.map fun id => Value.pointer (some ⟨L.rb id, 0, none⟩))) (hnb : r.id ∉ beh) (hlt : r.entries < r.tokens.length) :
    Calls Tryz.prog 71 #[.pointer (some ⟨sb, 0, none⟩), .pointer (some ⟨L.rb r.id, 0, none⟩), bv] w fun e w' =>
      e = .returned (.tuple #[]) ∧ Goes own sb L Tin (S.compute r beh) w w' := by
  obtain ⟨A, c, hbe, -, -, -⟩ := id hbv.1
  simp only [List.length_map] at hbe
  have hq := h.req r hr
  have c2 := h.blk.cell
  have c1 := hq.blk.cell
  simp only [srvCells] at c2
  simp only [reqCells] at c1
  have hwr := hw.req r hr
  have hent := hwr.ent
  have hs0 := hw.size0
  have hs1 := hw.size1
  obtain ⟨en, hen⟩ : ∃ en : Nat, r.entries = (en : Int) := ⟨r.entries.toNat, by omega⟩
  obtain ⟨ps, hps⟩ : ∃ ps : Nat, S.pageSize = (ps : Int) := ⟨S.pageSize.toNat, by omega⟩
  rw [hen] at c1
  rw [hps] at c2 hs0 hs1
  obtain ⟨e0, e1⟩ : 0 ≤ (en : Int) ∧ (en : Int) ≤ 64 := by rw [← hen]; exact ⟨hent.1, hent.2.1⟩
  have HEN := Lib.hid hen
  have HPS := Lib.hid hps
  have HQ := Lib.hid hq
  have H := Lib.hid h
  have HW := Lib.hid hw
  have HR := Lib.hid hr
  have HB := Lib.hid hbeh
  have HBV := Lib.hid hbv
  have HNB := Lib.hid hnb
  have HLT := Lib.hid hlt
  have HWR := Lib.hid hwr
  have HP := Lib.hid (page_any own sb L S)
  clear hen hps hq hwr hent h hw hr hbeh hbv hnb hlt
  subst hbe
  go_enter Tryz.func71, Tryz.ntmps71
  go_wp2
  go_quiet (fail)
  go_upto_if 19 with (fail)
  go_cut [] (fun wx => CutTake own sb L S r beh w wx)
  case first =>
    by_cases t0 : ((en : Int) % (ps : Int) == 0) = true
    · have HT := Lib.hid (show r.entries % S.pageSize = 0 by rw [HEN.out, HPS.out]; simpa using t0)
      go_wp2_with fail
      refine (HP.out _ (H.out.drewN nq) HW.out beh _ HB.out HBV.out).mono ?_
      rintro e w1 ⟨rfl, own1, L1, h1, hrb, x1⟩
      have hsame := pageF_same beh (holders S + 1) S HW.out H.out.uniq
      have hr1 := pageF_keeps HNB.out (holders S + 1) S HR.out
      rw [show pageF (holders S + 1) S beh = S.page beh from rfl] at hsame hr1
      have X1 := Lib.hid (((Ext.refl own w Tin).drewN nq).trans x1)
      have HRB := Lib.hid hrb
      clear x1
      by_cases hok : (S.page beh).2.2 = true
      · have hTake := Lib.hid (show S.take r beh = _ by unfold Srv.take; rw [if_pos HT.out, if_pos hok])
        have hk := hsame.2.2.2.2.2 hok
        rw [← hsame.2.2.1] at hk
        rw [hok]
        clear hok
        have hw1 := hsame.1
        have hps1 := hsame.2.2.2.1
        clear hsame
        generalize (S.page beh).1 = S1 at *
        generalize (S.page beh).2.1 = kz at *
        obtain ⟨k, rfl⟩ : ∃ k : Nat, kz = (k : Int) := ⟨kz.toNat, by omega⟩
        simp only [Int.toNat_natCast] at hTake
        obtain ⟨p, hp⟩ : ∃ p, S1.pages[k]? = some p := ⟨_, List.getElem?_eq_getElem (by omega)⟩
        have fin := page_store h1 hp ⟨r.entries, [], 1, 0⟩ (.slice none 0 0) (fun _ _ => Owns.nil _ _ _ _ _)
        have q0 := h1.page hp 0 (by omega)
        have q1 := h1.page hp 1 (by omega)
        have q2 := h1.page hp 2 (by omega)
        have q3 := h1.page hp 3 (by omega)
        have f2 := h1.pgs.frozen
        have d2 := h1.blk.cell
        have hq1 := h1.req r hr1
        have d1 := hq1.blk.cell
        have hkl : k < S1.pages.length := by omega
        simp [pgCells] at q0 q1 q2 q3
        simp only [srvCells] at d2
        simp only [reqCells] at d1
        rw [hrb] at d1
        rw [HEN.out] at d1
        rw [HEN.out] at fin
        dsimp only at fin
        clear hk hp hrb
        have FIN := Lib.hid fin
        have H1 := Lib.hid h1
        have HQ1 := Lib.hid hq1
        clear fin h1 hq1
        go_wp2
        go_still_tail 11, (by kernel_rfl)
        go_upto_region 4 with (fail)
        obtain ⟨w2, hw2, xf, pt2, hf⟩ : ∃ w2 : World, ((((w1.setCell ⟨L1.pb, k * 4, none⟩ (.int .i64 en)).setCell ⟨L1.pb, k * 4 + 1, none⟩ (.slice none 0 0)).setCell ⟨L1.pb, k * 4 + 2, none⟩ (.int .i64 1)).setCell ⟨L1.pb, k * 4 + 3, none⟩ (.int .i64 0)) = w2 ∧
            Ext own1 w1 own1 w2 Tpg ∧ ∃ pt, SrvAt own1 w2 sb { L1 with pt := pt } { S1 with pages := S1.pages.set k ⟨(en : Int), [], 1, 0⟩ } := ⟨_, rfl, FIN.out.1, _, FIN.out.2⟩
        rw [hw2]
        clear hw2 FIN q0 q1 q2 q3 f2 d1 d2
        have hr2 : r ∈ ({ S1 with pages := S1.pages.set k ⟨(en : Int), [], 1, 0⟩ } : Srv).reqs := hr1
        obtain ⟨HA, hcp, app⟩ := HoldApp.mk' hf hr2
        have hB2 := app.blk
        simp only [reqCells] at hB2
        rw [HRB.out] at hB2
        have d1 := hB2.cell
        have l1 := hB2.lt
        have H2 := Lib.hid hf
        have X2 := Lib.hid xf
        have APP := Lib.hid app
        clear hf xf app hB2
        obtain ⟨i0, hi, hz0, hz1, hz2⟩ := info_parts info3
        have hb0 := HWR.out.ent
        have hb1 : r.holds.length + 1 ≤ maxLen := by unfold maxLen; omega
        have hb2 : (r.holds.length + 1) * 8 ≤ 140737488355328 := by omega
        go_wp2_with (at_builtin; go_loud (refine wpList_append_lies _ rfl _ _ 22 rfl 0 3 i0 (.int .i64 0) 1 8 Tryz.underlying22 hi hz0 hz1 hz2 rfl (by decide) _ _ _ rfl (APP.out.owns _ 1) ⟨w2.heap.size, 0, none⟩ 1 1 [.int .i64 k] rfl rfl (news1 _ _ _) (one_int _ _) Nat.one_pos hb1 hb2 (Nat.zero_le _) _ rfl ?_); intro g cap w3 hown3 hgrow hat hlt3; have hB3 := APP.out.after _ 1 _ g cap w3 hown3 hgrow hat; have hB5 := hB3.2; simp only [HRB.out] at hB5; have H3 := Lib.hid hB5; have hB4 := hB3.1; simp only [reqCells] at hB4; rw [HRB.out] at hB4; have d3 := hB4.cell; have f3 := hB4.frozen; clear hB3 hB4 hB5)
        go_meet
        case rel =>
          obtain ⟨own3, L3, h3, hrb3, x3⟩ := H3.out
          refine ⟨own3, L3, _, { r with holds := r.holds ++ [(k : Int)] }, h3, ?_, ?_, X1.out.trans ((X2.out.mono Tin_pg).trans x3)⟩
          · rw [hTake.out, HEN.out]
          · rw [hrb3]
      · have hok' : (S.page beh).2.2 = false := by simpa using hok
        have HT2 := Lib.hid (show S.compute r beh = (S.page beh).1 by unfold Srv.compute Srv.take; rw [if_pos HT.out, if_neg hok])
        rw [hok']
        have H1 := Lib.hid h1
        clear hok hok' hsame hr1 h1 hrb
        generalize (S.page beh).1 = S1 at *
        generalize (S.page beh).2.1 = kz at *
        go_wp2
        refine bodyPost_ret (results_none rfl _ _ _) rfl ⟨rfl, ?_⟩
        rw [HT2.out]
        exact ⟨own1, L1, H1.out, HRB.out, X1.out⟩
    · have HT := Lib.hid (show S.take r beh = (S, some r) by unfold Srv.take; rw [if_neg]; rw [HEN.out, HPS.out]; simpa using t0)
      have t1 : ((en : Int) % (ps : Int) == 0) = false := by simpa using t0
      clear t0
      go_wp2_with fail
      go_meet
      case rel => exact ⟨own, L, S, r, H.out.drewN nq, HT.out, rfl, (Ext.refl own w Tin).drewN nq⟩
  case rest =>
    obtain ⟨own1, L1, S1, r1, h1, hTake, hrb, x1⟩ := hcut
    have tf := take_facts HW.out H.out.uniq HR.out HNB.out hTake
    obtain ⟨hs, k, hh, hk, hhl⟩ := tf.hold
    obtain ⟨p, hp⟩ : ∃ p, S1.pages[k]? = some p := ⟨_, List.getElem?_eq_getElem hk⟩
    have HC := Lib.hid (compute_eq hTake hh hp)
    have hq1 := h1.req r1 tf.mem
    have d1 := hq1.blk.cell
    have d2 := h1.blk.cell
    have l1 := hq1.blk.lt
    simp only [reqCells] at d1
    simp only [srvCells] at d2
    rw [tf.id, hrb] at d1
    obtain ⟨HA, hcp, hhv, hhc, hA⟩ := hq1.hold.shape
    rw [tf.id] at hhv
    obtain ⟨g, rfl⟩ := hA.resolve_left (by rw [hh]; simp)
    have hcell := hq1.hold.cell (by rw [tf.id]; exact hhv) (show hs.length < r1.holds.length by rw [hh]; simp)
    have hlast : r1.holds[hs.length]'(by rw [hh]; simp) = (k : Int) := by simp [hh]
    rw [hlast] at hcell
    have hlen : r1.holds.length = hs.length + 1 := by rw [hh]; simp
    rw [hhv, hlen] at d1
    rw [tf.ent, HEN.out] at d1
    rw [tf.size, HPS.out] at d2
    have w1 : IntKind.i64.wrap ((((hs.length + 1 : Nat) : Int)) - 1) = (hs.length : Int) := by
      rw [show (((hs.length + 1 : Nat) : Int)) - 1 = (hs.length : Int) by omega]
      exact IntWalk.i64_in _ (by omega)
    have HLEN := Lib.hid hlen
    have H1 := Lib.hid h1
    have HT := Lib.hid hTake
    have HRB := Lib.hid hrb
    have X1 := Lib.hid x1
    have TF := Lib.hid tf
    have HH := Lib.hid hh
    have HPP := Lib.hid hp
    clear h1 hTake hrb x1 tf hh hp hq1 hhv hlast hlen c1 c2 hA hhc
    go_wp2
    go_quiet (fail)
    go_wp2
    have hz := fillTo_zero H1.out.uniq HPP.out TF.out.mem
    have Hz := Lib.hid hz
    clear hz d1 d2 hcell w1
    go_loopg [] (fillN S1.pageSize p r1) (fun gk wx => ∃ own2 L2, ∃ t : Nat, SrvAt own2 wx sb L2 (S1.fillTo k p r1 t) ∧ L2.rb = L.rb ∧ L2.pb = L1.pb ∧ Ext own w own2 wx Tin ∧ t ≤ fillN S1.pageSize p r1 ∧ gk = fillN S1.pageSize p r1 - t)
    case atStart => exact ⟨own1, L1, 0, by rw [Hz.out]; exact H1.out.drewN _, HRB.out, rfl, X1.out.drewN _, Nat.zero_le _, rfl⟩
    case round =>
      obtain ⟨own2, L2, t, h2, hrb2, hpb2, x2, ht, rfl⟩ := hrel
      have hq := fillTo_page (r := r1) (t := t) HPP.out
      have hr2 := fillTo_req (S := S1) (k := k) (p := p) (r := r1) (t := t) TF.out.mem
      have hsz : (S1.fillTo k p r1 t).pageSize = ps := by show S1.pageSize = _; rw [TF.out.size, HPS.out]
      have hnow : (S1.fillTo k p r1 t).now = S1.now := rfl
      have hN : fillN S1.pageSize p r1 = min (ps - p.toks.length) (r.tokens.length - en) := by
        unfold fillN; rw [TF.out.size, HPS.out, TF.out.tok, TF.out.ent, HEN.out]; omega
      have htl : ((r1.tokens.drop r1.entries.toNat).take t).length = t := by
        rw [List.length_take, List.length_drop, TF.out.tok, TF.out.ent, HEN.out]; omega
      have hnt : (p.toks ++ (r1.tokens.drop r1.entries.toNat).take t).length = p.toks.length + t := by rw [List.length_append, htl]
      have het : r1.entries + t = ((en + t : Nat) : Int) := by rw [TF.out.ent, HEN.out]; omega
      have hx : ∀ (hlt : en + t < r.tokens.length), (r1.tokens.drop r1.entries.toNat)[t]? = some r.tokens[en + t] := by
        intro hlt
        rw [List.getElem?_drop, TF.out.tok, TF.out.ent, HEN.out]; simp [hlt]
      have hend : ({ S1.fillTo k p r1 t with pages := (S1.fillTo k p r1 t).pages.set k { p with toks := p.toks ++ (r1.tokens.drop r1.entries.toNat).take t, used := S1.now } } : Srv).put { r1 with entries := r1.entries + t, worked := true } =
          if t = fillN S1.pageSize p r1 then S1.fill k p r1 else ({ S1.fillTo k p r1 t with pages := (S1.fillTo k p r1 t).pages.set k { p with toks := p.toks ++ (r1.tokens.drop r1.entries.toNat).take t, used := S1.now } } : Srv).put { r1 with entries := r1.entries + t, worked := true } := by
        split
        · rename_i e; rw [e]; exact fill_end
        · rfl
      have hsucc := fun (hlt : en + t < r.tokens.length) => fillTo_succ (S := S1) (k := k) (p := p) (r := r1) (t := t) (hx hlt)
      generalize hS2 : S1.fillTo k p r1 t = S2 at *
      obtain ⟨nt, hnt'⟩ : ∃ nt, p.toks.length + t = nt := ⟨_, rfl⟩
      obtain ⟨et, het'⟩ : ∃ et, en + t = et := ⟨_, rfl⟩
      rw [hnt'] at hnt
      rw [het'] at het
      obtain ⟨PA, pc, papp⟩ := PTokApp.mk' h2 hq
      have hb := h2.req _ hr2
      obtain ⟨TA, tc, htv, htc, hTA⟩ := hb.tok.shape
      have d1 := hb.blk.cell
      have f1 := hb.blk.frozen
      have l1' := hb.blk.lt
      have d2 := h2.blk.cell
      have q1 := h2.page hq 1 (by omega)
      have f2 := h2.pgs.frozen
      simp only [reqCells] at d1
      simp only [srvCells] at d2
      simp only at htv d1 f1 l1'
      rw [htv] at d1
      rw [het, hrb2, TF.out.id, TF.out.tok] at d1
      rw [hrb2, TF.out.id] at f1 l1'
      rw [hsz] at d2
      have hpt := papp.val
      simp only [pgCells] at q1
      simp [hpt, hnt, hpb2] at q1
      rw [hpb2] at f2
      have X2 := Lib.hid x2
      have HRB2 := Lib.hid hrb2
      have HPB2 := Lib.hid hpb2
      have H2 := Lib.hid h2
      have PAPP := Lib.hid papp
      have HQ := Lib.hid hq
      have HR2 := Lib.hid hr2
      have HNT := Lib.hid hnt
      have HET := Lib.hid het
      have HNN := Lib.hid hN
      have HNT' := Lib.hid hnt'
      have HET' := Lib.hid het'
      have HS2 := Lib.hid hS2
      have HEND := Lib.hid hend
      have HSUCC := Lib.hid hsucc
      have HTK := hb.tok
      have HNOW := Lib.hid hnow
      rw [TF.out.id, TF.out.tok] at htv
      simp only [TF.out.tok, TF.out.id] at HTK
      rw [htv] at HTK
      have HTOK := Lib.hid HTK
      have hT0 : r.tokens.length = 0 ∨ ∃ g, TA = some ⟨g, 0, none⟩ := by rw [← TF.out.tok]; exact hTA
      have hent := HWR.out.ent
      have hnt8 : nt ≤ 72 := by rw [← hnt']; have := TF.out.ptok p (List.mem_of_getElem? HPP.out); have := TF.out.tok; omega
      clear x2 hrb2 hpb2 h2 papp hq hr2 hnt het hN hS2 hend hsucc hx htl hnt' het' hsz hnow hpt hb htv htc hTA HTK
      by_cases hlt : t < fillN S1.pageSize p r1
      · have a1 : nt < ps := by have := HNN.out; have := HNT'.out; omega
        have a2 : et < r.tokens.length := by have := HNN.out; have := HET'.out; omega
        have HLT := Lib.hid hlt
        clear hlt ht
        obtain ⟨tg, rfl⟩ := hT0.resolve_left (by omega)
        have hcell := HTOK.out.cell rfl a2
        have lpb : L1.pb < wr.heap.size := by rw [← HPB2.out]; exact H2.out.pgs.lt
        have ltg : tg < wr.heap.size := World.block_lt_of_cell? wr _ hcell
        have b1 : decide ((nt : Int) < (ps : Int)) = true := by simp; exact a1
        have b2 : decide ((et : Int) < (r.tokens.length : Int)) = true := by simp; exact a2
        generalize hxx : r.tokens[et] = x at hcell
        have HX := Lib.hid hxx
        clear hxx hT0
        obtain ⟨i0, hi, hz0, hz1, hz2⟩ := info_parts info3
        have hown : ∀ o d, ((wr.alloc o).drewN d).ownsRow 0 3 1 (.slice PA nt pc) nt (ints (p.toks ++ (r1.tokens.drop r1.entries.toNat).take t)) := fun o d => by
          have := PAPP.out.owns o d
          simp only [HNT.out] at this
          exact this
        have haft : ∀ (o : Obj) (d : Nat) (g cap : Nat) (w3 : World), w3.ownsRow 0 3 1 (.slice (some ⟨g, 0, none⟩) (nt + 1) cap) (nt + 1) (ints (p.toks ++ (r1.tokens.drop r1.entries.toNat).take t) ++ [.int .i64 x]) →
            ((wr.alloc o).drewN d).grownBy w3 (Value.slice PA nt pc).ownBlock → ((Value.slice PA nt pc).ownBlock = some g ∨ g = ((wr.alloc o).drewN d).heap.size) →
            Blk w3 L1.pb (pgsCells S2.pages L2.pt) 106 ∧ ∃ own' pt', SrvAt own' (w3.setCell ⟨L1.pb, k * 4 + 1, none⟩ (.slice (some ⟨g, 0, none⟩) (nt + 1) cap)) sb { L2 with pb := L1.pb, pt := pt' } { S2 with pages := S2.pages.set k { p with toks := (p.toks ++ (r1.tokens.drop r1.entries.toNat).take t) ++ [x] } } ∧
              Ext own2 wr own' (w3.setCell ⟨L1.pb, k * 4 + 1, none⟩ (.slice (some ⟨g, 0, none⟩) (nt + 1) cap)) Tin := fun o d g cap w3 => by
          have := PAPP.out.after o d x g cap w3
          simp only [HNT.out, HPB2.out] at this
          exact this
        have hlab : ∀ b, own2 b ≠ .ptok k → some b ≠ (Value.slice PA nt pc).ownBlock := fun b hb e => by
          have h1 := H2.out.ptok k _ HQ.out
          rw [PAPP.out.val] at h1
          simp only [HNT.out] at h1
          exact hb (h1.2 b e.symm)
        have ne1 : some L1.pb ≠ (Value.slice PA nt pc).ownBlock := hlab _ (by rw [← HPB2.out, H2.out.plab]; intro e; cases e)
        have ne2 : some (L.rb r.id) ≠ (Value.slice PA nt pc).ownBlock := hlab _ (by
          have := (H2.out.req _ HR2.out).lab
          simp only [HRB2.out, TF.out.id] at this
          rw [this]; intro e; cases e)
        have ne3 : some tg ≠ (Value.slice PA nt pc).ownBlock := hlab _ (by rw [HTOK.out.2 tg rfl]; intro e; cases e)
        have hpc : (pgsCells S2.pages L2.pt)[k * 4 + 1]? = some (.slice PA nt pc) := by
          rw [← q1, ← HPB2.out, H2.out.pgs.cell]
        have HPC := Lib.hid hpc
        clear hpc
        have hb1 : nt + 1 ≤ maxLen := by unfold maxLen; omega
        have hb2 : (nt + 1) * 8 ≤ 140737488355328 := by omega
        have q1' : ∀ (d : Nat) (o : Obj), ((wr.drewN d).alloc o).cell? ⟨L1.pb, k * 4 + 1, none⟩ = some (.slice PA nt pc) := fun d o => by
          rw [World.cell?_alloc_past _ _ _ (show L1.pb < (wr.drewN d).heap.size from lpb)]; exact q1
        have HOWN := Lib.hid hown
        have HAFT := Lib.hid haft
        have NE1 := Lib.hid ne1
        have NE2 := Lib.hid ne2
        have NE3 := Lib.hid ne3
        clear hown haft hlab ne1 ne2 ne3
        go_wp2
        go_quiet (fail)
        go_wp2
        go_cut [] (fun wx => ∃ own3 pt3, SrvAt own3 wx sb { L2 with pb := L1.pb, pt := pt3 } { S2 with pages := S2.pages.set k { p with toks := (p.toks ++ (r1.tokens.drop r1.entries.toNat).take t) ++ [x] } } ∧ Ext own2 wr own3 wx Tin)
        case first =>
          go_region_law (first | (refine step_append_lies _ (by rfl) _ _ _ (by rfl) 0 3 i0 (.int .i64 0) 1 8 Tryz.underlying22 hi hz0 hz1 hz2 rfl (by omega) (.slice PA nt pc) nt _ (by rfl) (HOWN.out _ _) ⟨wr.heap.size, 0, none⟩ 1 1 [.int .i64 x] (by rfl) (by rfl) (World.news_of_block (cs := #[.int .i64 x]) (t := 3) (fr := (0, 0)) (heap_alloc_new wr _)) (one_int _ _) Nat.one_pos hb1 hb2 (Nat.zero_le _) _ rfl ?_; intro g3 cap3 w3 hown3 hgrow hat hlt3; have hA3 := HAFT.out _ _ _ _ w3 hown3 hgrow hat; have HA3 := Lib.hid hA3; have f3 := hA3.1.frozen; have c3 := (hA3.1.cell (k * 4 + 1)).trans HPC.out; clear hA3) | (refine step_append_lies _ (by rfl) _ _ _ (by rfl) 0 3 i0 (.int .i64 0) 1 8 Tryz.underlying22 hi hz0 hz1 hz2 rfl (by omega) (.slice PA nt pc) nt _ (by rfl) (show (World.alloc (wr.drewN _) _).ownsRow 0 3 1 _ _ _ from HOWN.out _ _) ⟨wr.heap.size, 0, none⟩ 1 1 [.int .i64 x] (by rfl) (by rfl) (World.news_of_block (cs := #[.int .i64 x]) (t := 3) (fr := (0, 0)) (heap_alloc_new wr _)) (one_int _ _) Nat.one_pos hb1 hb2 (Nat.zero_le _) _ rfl ?_; intro g3 cap3 w3 hown3 hgrow hat hlt3; have hA3 := HAFT.out _ _ _ _ w3 hown3 (show ((wr.alloc _).drewN _).grownBy w3 _ from hgrow) hat; have HA3 := Lib.hid hA3; have f3 := hA3.1.frozen; have c3 := (hA3.1.cell (k * 4 + 1)).trans HPC.out; clear hA3))
          all_goals (go_wp2_with fail; go_meet; exact HA3.out.2)
        case rest =>
          obtain ⟨own3, pt3, h3, x3⟩ := hcut
          have hr3 : ({ r1 with entries := r1.entries + t } : Req) ∈ ({ S2 with pages := S2.pages.set k { p with toks := (p.toks ++ (r1.tokens.drop r1.entries.toNat).take t) ++ [x] } } : Srv).reqs := HR2.out
          have hb3 := h3.req _ hr3
          have d3 := hb3.blk.cell
          have f3' := hb3.blk.frozen
          simp only [reqCells] at d3
          simp only at d3 f3'
          rw [HET.out, HRB2.out, TF.out.id] at d3
          rw [HRB2.out, TF.out.id] at f3'
          have hl3 := hb3.lab
          simp only at hl3
          have x4 : Ext own3 wc own3 (wc.setCell ⟨L2.rb r1.id, 8, none⟩ (.int .i64 (et + 1))) (fun l => l = .req r1.id) := Ext.setCell _ _ hl3
          have hfin := h3.req_set hr3 { r1 with entries := r1.entries + t + 1 } rfl x4 _ _ _ (by have := hb3.blk.set 8 (.int .i64 ((et : Int) + 1)); rw [← HET.out] at this ⊢; exact this) (hb3.prm.ext x4 (by simp)) (hb3.tok.ext x4 (by simp)) (hb3.hold.ext x4 (by simp))
          have hs := HSUCC.out (by have := HET'.out; omega)
          have hxe : r.tokens[en + t]'(by have := HET'.out; omega) = x := by have := HX.out; have h2 := HET'.out; subst h2; exact this
          rw [hxe] at hs
          rw [show _ = S1.fillTo k p r1 (t + 1) from hs] at hfin
          rw [HRB2.out, TF.out.id] at hfin x4
          have FIN := Lib.hid hfin
          have X4 := Lib.hid x4
          have X3 := Lib.hid x3
          clear hfin x4 x3 hs hxe hl3 hb3 hr3 h3 d1 d2 f1 f2 q1 q1' hcell
          go_wp2
          go_roundg (fillN S1.pageSize p r1 - (t + 1))
          case measure => have := HLT.out; omega
          case rel => exact ⟨own3, _, t + 1, FIN.out, rfl, rfl, X2.out.trans ((X3.out).trans (X4.out.mono (Tin_req _))), HLT.out, rfl⟩
      · obtain rfl : t = fillN S1.pageSize p r1 := by omega
        have hfin : ∀ nq, Goes own sb L Tin (S.compute r beh) w (((wr.setCell ⟨L1.pb, k * 4 + 3, none⟩ (.int .i64 S2.now)).setCell ⟨L.rb r.id, 12, none⟩ (.bool true)).drewN nq) := by
          intro nq
          obtain ⟨x3, pt3, h3⟩ := page_used H2.out HQ.out S2.now
          rw [HPB2.out] at x3 h3
          have hr3 : ({ r1 with entries := r1.entries + (fillN S1.pageSize p r1 : Nat) } : Req) ∈ ({ S2 with pages := S2.pages.set k { p with toks := p.toks ++ (r1.tokens.drop r1.entries.toNat).take (fillN S1.pageSize p r1), used := S2.now } } : Srv).reqs := HR2.out
          have hb3 := h3.req _ hr3
          have hl3 := hb3.lab
          simp only at hl3
          have x4 := Ext.setCell (own := own2) (w := (wr.setCell ⟨L1.pb, k * 4 + 3, none⟩ (.int .i64 S2.now))) (T := fun l => l = .req r1.id) ⟨L2.rb r1.id, 12, none⟩ (.bool true) hl3
          have hf := h3.req_set hr3 { r1 with entries := r1.entries + (fillN S1.pageSize p r1 : Nat), worked := true } rfl x4 _ _ _ (hb3.blk.set 12 (.bool true)) (hb3.prm.ext x4 (by simp)) (hb3.tok.ext x4 (by simp)) (hb3.hold.ext x4 (by simp))
          have he := HEND.out
          rw [if_pos rfl, ← HNOW.out] at he
          rw [show _ = S1.fill k p r1 from he, ← HC.out] at hf
          rw [HRB2.out, TF.out.id] at hf x4
          exact ⟨own2, _, hf.drewN nq, rfl, (X2.out.trans ((x3.mono Tin_pg).trans (x4.mono (Tin_req _)))).drewN nq⟩
        have FIN := Lib.hid hfin
        have c3 : wr.cell? ⟨L1.pb, k * 4 + 3, none⟩ = some (.int .i64 p.used) := by
          have := H2.out.page HQ.out 3 (by omega)
          rw [HPB2.out] at this; simpa [pgCells] using this
        have lne : L1.pb ≠ L.rb r.id := fun e => by
          have h1 := H2.out.plab
          have h2 := (H2.out.req _ HR2.out).lab
          simp only [HRB2.out, TF.out.id] at h2
          rw [HPB2.out, e, h2] at h1; cases h1
        clear hfin hlt ht
        by_cases a1 : nt < ps
        · have b2 : (et < r.tokens.length) = False := eq_false (by have := HNN.out; have := HNT'.out; have := HET'.out; omega)
          go_wp2
          go_quiet (fail)
          go_wp2
          go_end0
          exact ⟨rfl, FIN.out _⟩
        · have b1 : (nt < ps) = False := eq_false a1
          clear a1
          go_wp2
          go_quiet (fail)
          go_wp2
          go_end0
          exact ⟨rfl, FIN.out _⟩
end Go.Proofs.YtllpoaoboieijaaGreat
