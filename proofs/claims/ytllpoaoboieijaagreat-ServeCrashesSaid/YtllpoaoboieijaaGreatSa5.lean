/-
  page: the walk.
-/
import Derived.Test.YtllpoaoboieijaaGreatSa4
/-
  page: the walk.
-/
namespace Go.Proofs.YtllpoaoboieijaaGreat
open Go.RowKit

theorem ext_spare {own : Nat → Lb} {w w' : World} (hb : Below w.heap.size w w') (T : Lb → Prop) : Ext own w (relab own w.heap.size .other) w' T := Ext.below hb T .other

theorem takeFrom_ids (S : Srv) (r : Req) : (S.takeFrom r).reqs.map Req.id = S.reqs.map Req.id := put_ids { S with pages := _ } _

theorem beh_get {S : Srv} (hu : (S.reqs.map Req.id).Nodup) {beh : List Int} (hbeh : ∀ id, id ∈ beh → id ∈ S.reqs.map Req.id) {m : Nat} (hm : m < beh.length) : ∃ r, r ∈ S.reqs ∧ r.id = beh[m] ∧ S.get beh[m] = some r := by
  have := hbeh beh[m] (by simp)
  obtain ⟨r, hr, e⟩ := List.mem_map.1 this
  exact ⟨r, hr, e, by rw [← e]; exact get_of_mem hu hr⟩

theorem pageF_none {k : Nat} {S : Srv} {beh : List Int} (hs : ¬ S.spare.2 = true) (hv : victimTo S beh beh.length = none) : pageF (k + 1) S beh = (S, 0, false) := by
  rw [pageF, if_neg hs, hv]
theorem pageF_some {k : Nat} {S : Srv} {beh : List Int} {r : Req} (hs : ¬ S.spare.2 = true) (hv : victimTo S beh beh.length = some r) : pageF (k + 1) S beh = pageF k (S.takeFrom r) beh := by
  rw [pageF, if_neg hs, hv]

set_option maxRecDepth 100000 in
set_option maxHeartbeats 800000 in
theorem page_any (own : Nat → Lb) (sb : Nat) (L : Lay) (S : Srv) (w : World) (h : SrvAt own w sb L S) (hw : Wf S) (beh : List Int) (bv : Value)
    (hbeh : ∀ id, id ∈ beh → id ∈ S.reqs.map Req.id) (hbv : RdO own w bv (beh.map fun id => Value.pointer (some ⟨L.rb id, 0, none⟩))) :
    Calls Tryz.prog 93 #[.pointer (some ⟨sb, 0, none⟩), bv] w fun e w' =>
      e = .returned (.tuple #[.int .i64 (S.page beh).2.1, .bool (S.page beh).2.2]) ∧ Goes own sb L Tin (S.page beh).1 w w' := by
  obtain ⟨A, c, rfl, -, -, -⟩ := id hbv.1
  have hcm' : beh.length ≤ 9223372036854775807 := by
    obtain ⟨A, c, e, a1, a2, -⟩ := hbv.1
    unfold maxLen at a2; simp at a1; omega
  simp only [List.length_map] at *
  unfold Srv.page
  go_enter Tryz.func93, Tryz.ntmps93
  go_wp2
  go_loopg [] (holders S + 1) (fun k wr => ∃ own1 L1 S1, SrvAt own1 wr sb L1 S1 ∧ Wf S1 ∧ L1.rb = L.rb ∧ Ext own w own1 wr Tin ∧ holders S1 < k ∧ pageF (holders S + 1) S beh = pageF k S1 beh ∧ S1.reqs.map Req.id = S.reqs.map Req.id)
  case atStart => exact ⟨own, L, S, h, hw, rfl, Ext.refl _ _ _, Nat.lt_succ_self _, rfl, rfl⟩
  case round =>
    obtain ⟨own1, L1, S1, h1, hw1, hrb, hx, hlt, hpf, hids⟩ := hrel
    obtain ⟨k, rfl⟩ : ∃ k, gk = k + 1 := ⟨gk - 1, by omega⟩
    have HP := Lib.hid hpf
    have HR := Lib.hid hrb
    have HI := Lib.hid hids
    clear hpf hrb hids
    go_wp2_with fail
    refine (spare_any own1 sb L1 S1 wr h1 hw1.n1).mono ?_
    rintro e w1 ⟨rfl, hb1⟩
    have h2 := h1.below hb1
    have x2 := hx.trans (ext_spare hb1 Tin)
    generalize relab own1 wr.heap.size .other = own2 at h2 x2
    by_cases hs : S1.spare.2 = true
    · have hk := spare_lt S1 hs
      have HF := Lib.hid (show pageF (k + 1) S1 beh = ({ S1 with pages := S1.pages.set S1.spare.1.toNat Pg.zero }, S1.spare.1, true) by rw [pageF, if_pos hs])
      obtain ⟨kn, hkn⟩ : ∃ kn : Nat, S1.spare.1 = (kn : Int) := ⟨S1.spare.1.toNat, by omega⟩
      rw [hs, hkn]
      rw [hkn] at hk
      have E := Lib.hid (show pageF (holders S + 1) S beh = ({ S1 with pages := S1.pages.set kn Pg.zero }, (kn : Int), true) by rw [HP.out, HF.out, hkn, Int.toNat_natCast])
      clear HF HP
      obtain ⟨p, hp⟩ : ∃ p, S1.pages[kn]? = some p := ⟨_, List.getElem?_eq_getElem (by omega)⟩
      have fin := page_store h2 hp Pg.zero (.slice none 0 0) (fun _ _ => Owns.nil _ _ _ _ _)
      have FIN := Lib.hid fin
      have q0 := h2.page hp 0 (by omega)
      have q1 := h2.page hp 1 (by omega)
      have q2 := h2.page hp 2 (by omega)
      have q3 := h2.page hp 3 (by omega)
      have f2 := h2.pgs.frozen
      have c2 := h2.blk.cell
      have hkl : kn < S1.pages.length := by omega
      simp [pgCells] at q0 q1 q2 q3
      simp only [srvCells] at c2
      clear fin hs hkn hp
      go_wp2
      go_ret2
      rw [E.out]
      exact ⟨rfl, own2, _, FIN.out.2, HR.out, x2.trans (FIN.out.1.mono Tin_pg)⟩
    · have hs' : S1.spare.2 = false := by simpa using hs
      rw [hs']
      have HN := Lib.hid (fun hv => pageF_none (k := k) (S := S1) (beh := beh) hs hv)
      have HS := Lib.hid (fun r hv => pageF_some (k := k) (S := S1) (beh := beh) (r := r) hs hv)
      clear hs hs'
      generalize S1.spare.1 = sk
      have hbw := (show RdO own w (.slice A beh.length c) (beh.map fun id => Value.pointer (some ⟨L1.rb id, 0, none⟩)) by rw [HR.out]; exact hbv).ext x2 Tin_other
      have hu1 := h2.uniq
      have hbeh1 : ∀ id, id ∈ beh → id ∈ S1.reqs.map Req.id := by rw [HI.out]; exact hbeh
      have HB := Lib.hid hbeh
      have HB1 := Lib.hid hbeh1
      clear hbeh hbeh1
      go_wp2
      go_loopg [8] (beh.length + 1) (fun g s8 wx => ∃ (m nq : Nat), s8 = .int .i64 ((m : Int) - 1) ∧ m ≤ beh.length ∧ g = m + 1 ∧ wx = w1.drewN nq ∧ Hid (victimTo S1 beh beh.length = victimTo S1 beh m))
      case atStart => exact ⟨beh.length, 0, rfl, Nat.le_refl _, rfl, rfl, rfl⟩
      case round =>
        obtain ⟨m, nq, rfl, hm, rfl, rfl, hv⟩ := hrel
        rcases Nat.eq_zero_or_pos m with rfl | hm0
        · have E := Lib.hid (show pageF (holders S + 1) S beh = (S1, 0, false) by rw [HP.out, HN.out (by rw [hv.out]; rfl)])
          have t0 : decide ((0 : Int) ≤ ((0 : Nat) : Int) - 1) = false := by decide
          clear HN HS HP hv
          go_wp2
          go_ret2
          rw [E.out]
          exact ⟨rfl, own2, L1, h2.drewN _, HR.out, x2.drewN _⟩
        · obtain ⟨m, rfl⟩ : ∃ m', m = m' + 1 := ⟨m - 1, by omega⟩
          obtain ⟨r, hr, hrid, hget⟩ := beh_get hu1 HB1.out (show m < beh.length by omega)
          have hvm : victimTo S1 beh (m + 1) = if r.holds.length = 0 ∨ r.worked = true then victimTo S1 beh m else some r := by
            rw [victimTo, List.getElem?_eq_getElem (show m < beh.length by omega), Option.bind_some, hget]
          obtain ⟨⟨A1, c1, eA, -, -, hA⟩, -⟩ := id hbw
          obtain ⟨qb, qo, rfl, hcells⟩ := hA (by simp; omega)
          simp only [Value.slice.injEq] at eA
          obtain ⟨rfl, -, rfl⟩ := eA
          have hcell := hcells m (by simp; omega)
          simp only [List.getElem_map] at hcell
          rw [← hrid] at hcell
          have hq := h2.req r hr
          have c1 := hq.blk.cell
          simp only [reqCells] at c1
          obtain ⟨HA, hc, hhv, -, -⟩ := hq.hold.shape
          rw [hhv] at c1
          have HV := Lib.hid hvm
          have HM := Lib.hid hm
          have hlm : m < beh.length := by omega
          rw [show (((m + 1 : Nat) : Int) - 1) = (m : Int) by omega]
          have t0 : decide ((0 : Int) ≤ (m : Int)) = true := by simp
          clear hhv hget hrid hvm hcells hA hm hm0
          have H2 := Lib.hid h2
          have X2 := Lib.hid x2
          have HQ := Lib.hid hq
          have HBW := Lib.hid hbw
          have HW1 := Lib.hid hw1
          have HRM := Lib.hid hr
          have HLT := Lib.hid hlt
          clear h2 x2 hq hbw hw1 hr h hw hbv h1 hx hb1 hlt hu1
          by_cases e1 : ((r.holds.length : Int) == 0) = true
          · go_wp2
            go_roundg (m + 1)
            case measure => omega
            case rel => exact ⟨m, _, rfl, by omega, rfl, rfl, by rw [hv.out, HV.out, if_pos (.inl (by simpa using e1))]; rfl⟩
          · have e1' : ((r.holds.length : Int) == 0) = false := by simpa using e1
            have n1 : ¬ r.holds.length = 0 := by simpa using e1
            have N1 := Lib.hid n1
            clear n1 e1
            by_cases e2 : r.worked = true
            · rw [e2] at c1
              have E2 := Lib.hid e2
              clear e2
              go_wp2
              go_roundg (m + 1)
              case measure => omega
              case rel => exact ⟨m, _, rfl, by omega, rfl, rfl, by rw [hv.out, HV.out, if_pos (.inr E2.out)]; rfl⟩
            · have e2' : r.worked = false := by simpa using e2
              have HVV := Lib.hid (show victimTo S1 beh beh.length = some r by rw [hv.out, HV.out, if_neg (fun c => by rcases c with c | c; exact N1.out c; exact e2 c)])
              rw [e2'] at c1
              clear e2 e2'
              have HWR := (HW1.out.req r HRM.out)
              have H69 := Lib.hid (giveBack_any own2 sb L1 S1 r (w1.drewN nq) (H2.out.drewN nq) HRM.out HWR.hold HW1.out.n1 (by have := HWR.ent; omega))
              clear HWR
              go_wp2_with fail
              refine H69.out.mono ?_
              rintro e w2 ⟨rfl, own3, L3, h3, hrb3, x3⟩
              have hcell3 : w2.cell? ⟨qb, qo + m, none⟩ = some (.pointer (some ⟨L1.rb r.id, 0, none⟩)) := by
                have hb := HBW.out.1.lt (by simp; omega) qb rfl
                have hl := HBW.out.2 (by simp; omega) qb rfl
                rw [World.cell?_of_block (a := ⟨qb, qo + m, none⟩) (x3.keep qb hb (by rw [hl]; intro e; rcases e with e | e <;> cases e))]
                exact hcell
              clear hcell c1
              have hr3 : ({ r with holds := [], entries := 0 } : Req) ∈ (S1.giveBack r).reqs := mem_put_self (S := { S1 with pages := _ }) HRM.out rfl
              have hq3 := h3.req _ hr3
              have c3 := hq3.blk.cell
              have f3 := hq3.blk.frozen
              have hl3 := hq3.lab
              simp only [reqCells] at c3
              simp only at hl3
              have x4 : Ext own3 w2 own3 (w2.setCell ⟨L3.rb r.id, 13, none⟩ (.bool true)) (fun l => l = .req r.id) := Ext.setCell _ _ hl3
              have hfin := h3.req_set hr3 { r with holds := [], entries := 0, lost := true } rfl x4 _ _ _ (hq3.blk.set 13 _) (hq3.prm.ext x4 (by simp)) (hq3.tok.ext x4 (by simp)) (hq3.hold.ext x4 (by simp))
              rw [Srv.giveBack, put_put _ _ _ (by rfl)] at hfin
              rw [hrb3] at c3 f3 x4 hfin
              have FIN := Lib.hid hfin
              have X3 := Lib.hid x3
              have X4 := Lib.hid x4
              have HR3 := Lib.hid hrb3
              clear hfin x3 x4 hq3 hl3 h3 hr3 hrb3
              go_wp2
              go_roundg k
              case measure => omega
              case rel =>
                exact ⟨own3, _, S1.takeFrom r, FIN.out, HW1.out.takeFrom HRM.out, HR.out, (X2.out.drewN nq).trans ((X3.out.mono (Tin_gb _)).trans (X4.out.mono (Tin_req _))),
                  by have := holders_takeFrom H2.out.uniq HRM.out N1.out; have := HLT.out; omega, by rw [HP.out, HS.out r HVV.out], by rw [takeFrom_ids]; exact HI.out⟩
end Go.Proofs.YtllpoaoboieijaaGreat
