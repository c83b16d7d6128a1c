/-
  ServeAlone: the walk.
-/
import Derived.Test.YtllpoaoboieijaaGreatSa41
/-
  ServeAlone: the walk.
-/
namespace Go.Proofs.YtllpoaoboieijaaGreat
open Go.RowKit

theorem sub_case (r : Int) : r = 0 ∨ (r == 0) = false := by
  by_cases h : r = 0
  · exact .inl h
  · exact .inr (by simp [h])
theorem equal_same (v1 v2 : Value) (xs ys : List Int) (e : xs = ys) (w : World) (h1 : Rd w v1 xs) (h2 : Rd w v2 ys) :
    Calls Tryz.prog 19 #[v1, v2] w fun e w' => e = .returned (.bool true) ∧ Hid (Below w.heap.size w w') := by
  subst e
  refine (equal_any v1 v2 xs xs w h1 h2).mono ?_
  rintro e w' ⟨rfl, k, rfl⟩
  exact ⟨by simp, Lib.hid ⟨rfl, rfl, rfl, Nat.le_refl _, fun _ _ => rfl⟩⟩
theorem row_some {w : World} {base : Nat} {t : TypeId} {sz : Nat} {A : Option Addr} {n c j : Nat} {xs : List Value} (h : w.ownsRow base t sz (.slice A n c) n xs) (hj : j < n) : ∃ g, A = some ⟨g, 0, none⟩ := by
  rcases h.2 with ⟨hv, hn⟩ | ⟨g, cap, cur, hv, -⟩
  · omega
  · injection hv with e; exact ⟨g, e⟩
theorem aq_cell {xb : Nat} {own : Nat → Lb} {w : World} {base g c j : Nat} {qs : List AQ} (h : QRow xb own w base (.slice (some ⟨g, 0, none⟩) qs.length c) qs) (hj : j < qs.length) : ∀ o, o < 5 → w.cell? ⟨g, j * 5 + o, none⟩ = qs[j].cells[o]? := by
  intro o ho
  have e := aq_get qs j o hj ho
  have hl : o < qs[j].cells.length := by rw [aq_cells_len]; exact ho
  rw [List.getElem?_eq_getElem hl] at e ⊢
  have := h.row.cells (g := g) rfl (j * 5 + o) _ e
  rw [add_plain, Nat.zero_add] at this
  exact this
theorem one_aq (a : AQ) : ∀ u ∈ a.cells, u.oneCell' = true := by
  intro u hu
  simp only [AQ.cells, Ask.cells, List.mem_cons, List.not_mem_nil, or_false] at hu
  rcases hu with rfl | rfl | rfl | rfl | rfl <;> rfl
theorem news_aq (w : World) (a : AQ) : ∀ (j : Nat) v, a.cells[j]? = some v → (w.alloc (.cells a.cells.toArray 41)).cell? ((⟨w.heap.size, 0, none⟩ : Addr).add j) = some v :=
  World.news_of_block (w := (w.alloc (.cells a.cells.toArray 41))) (cs := a.cells.toArray) (t := 41) (fr := (0, 0)) (heap_alloc_new w _)

set_option maxRecDepth 100000 in
set_option maxHeartbeats 6400000 in
theorem law_walk (w : World) (A : Option Addr) (n c : Nat) (Ls : List Int) (hV : Rd w (.slice A n c) Ls) :
    Calls Tryz.prog 3 #[.slice A n c] w fun e w' => e = .returned (.bool true) ∧ Hid (Below w.heap.size w w') := by
  obtain ⟨w1, hw1, hb1, hk1⟩ : ∃ w1, w.alloc (.cells #[.slice A n c, .int .i64 0] 25) = w1 ∧ Below w.heap.size w w1 ∧ Blk w1 w.heap.size [.slice A n c, .int .i64 0] 25 := ⟨_, rfl, (Below.refl _ _).alloc (Nat.le_refl _) _, heap_alloc_new w _⟩
  have hst1 : St w1 w.heap.size (.slice A n c) Ls 0 := ⟨0, Nat.le_refl _, hk1, hV.below hb1, fun h0 e => by
    have := hV.lt h0 w.heap.size e
    omega⟩
  have HB1 := Lib.hid hb1
  have HST1 := Lib.hid hst1
  have HV := Lib.hid hV
  have HD := Lib.hid (demo_any w1)
  generalize hxb : w.heap.size = xb at *
  have HXB := Lib.hid hxb
  clear hb1 hk1 hst1 hV
  simp only [demoCells] at HD
  go_enter Tryz.func3, Tryz.ntmps3
  go_upto_region 3 with (first
    | (go_at_call 6; have _g := HB2; clear _g; refine (Conf_st xb _ Ls 0 (by omega) w2 (HST1.out.below HB2.out)).mono ?_; rintro e w3 ⟨cf, rfl, HA3⟩; dsimp only [Cnf.val])
    | (go_at_call 5; refine HD.out.mono ?_; rintro e w2 ⟨p, rfl, HB2, HP2, HF2⟩))
  obtain ⟨w4, hw4, hb4, hm4, hc4⟩ : ∃ w4, (w3.alloc (.cells (demoCells p).toArray 27)).alloc (.cells #[.int .i64 cf.pages, .int .i64 cf.size, .int .i64 cf.batch, .int .i64 cf.queue] 30) = w4 ∧ Below w3.heap.size w3 w4 ∧ Blk w4 w3.heap.size (demoCells p) 27 ∧ Blk w4 (w3.heap.size + 1) [.int .i64 cf.pages, .int .i64 cf.size, .int .i64 cf.batch, .int .i64 cf.queue] 30 := by
    refine ⟨_, rfl, ?_, ?_, ?_⟩
    · exact ((Below.refl _ _).alloc (Nat.le_refl _) _).alloc (by simp only [World.size_alloc]; omega) _
    · exact (news_blk w3 (demoCells p) 27).alloc _
    · have := news_blk (w3.alloc (.cells (demoCells p).toArray 27)) [.int .i64 cf.pages, .int .i64 cf.size, .int .i64 cf.batch, .int .i64 cf.queue] 30
      simp only [World.size_alloc] at this
      exact this
  simp only [demoCells] at hw4
  rw [hw4]
  have H2 := HB2.out
  have HA4 := Lib.hid (show Asks xb (.slice A n c) Ls 7 w2 w4 from HA3.out.below hb4)
  have HK4 := Lib.hid (show Keep xb w1 w4 from (Keep.of_below HB2.out).trans HA4.out.1)
  have HBW := Lib.hid (show Below xb w w4 from HB1.out.trans ⟨HK4.out.os, HK4.out.tape, HK4.out.output, HK4.out.size, fun b hb => HK4.out.block b (by have := HB1.out.size; have := HXB.out; omega) (by omega)⟩)
  have HD4 := Lib.hid (show DemO xb (fun _ => Lb.other) w4 p from by
    have hlt : xb < w1.heap.size := HST1.out.lt
    have h2 : DemO xb (fun _ => Lb.other) w2 p := DemO.mk' HP2.out HF2.out (fun b hb => ⟨rfl, by omega⟩)
    exact h2.mv ⟨HA4.out.1.size, fun _ _ => rfl, fun b hb ho => HA4.out.1.block b hb ho.2⟩)
  have HM4 := Lib.hid hm4
  have m4 := hm4.cell
  have c4 := hc4.cell
  simp only [demoCells] at m4
  have HMX := Lib.hid (show xb < w3.heap.size from HA3.out.2.lt)
  have HFAR := Lib.hid (show Far w.heap.size xb w3.heap.size p (.slice A n c) Ls from by
    have hx := HMX.out
    have h23 := HA3.out.1.size
    have hp := HP2.out
    obtain ⟨d1, d2, d3, d4, d5, d6, d7⟩ := demo_pos
    refine ⟨by have := HXB.out; omega, hx, fun h0 b hb => ?_, ?_⟩
    · have := HV.out.lt h0 b hb; have := HXB.out; omega
    · exact ⟨Nat.lt_of_lt_of_le (hp.cuts.lt d1) h23, Nat.lt_of_lt_of_le (hp.embed.lt d2) h23, Nat.lt_of_lt_of_le (hp.place.lt d3) h23, Nat.lt_of_lt_of_le (hp.mix.lt d4) h23, Nat.lt_of_lt_of_le (hp.out.lt d5) h23, Nat.lt_of_lt_of_le (hp.soft.lt d6) h23, Nat.lt_of_lt_of_le (hp.odds.lt d7) h23⟩)
  generalize hmb : w3.heap.size = mb at *
  clear hm4 hc4 hb4 H2 hw4 hmb
  have HSV := Lib.hid (fun (wx : World) => served_any wx)
  by_cases hok : cf.ok = true
  · have HN := Lib.hid (new_ok (fun _ => Lb.other) p cf hok w4 HD4.out.at')
    simp only [demoCells, Cnf.val] at HN
    go_upto_region 4 with (go_at_call 7; refine HN.out.mono ?_; rintro e w5 ⟨sb, own5, L, rfl, h5, hsb, x5⟩; have H5 := Lib.hid h5; have X5 := Lib.hid x5; clear h5 hsb x5)
    have HL5 := Lib.hid (show LS w (.slice A n c) Ls p xb mb own5 w5 sb L (srv0 cf) 7 [] (.slice none 0 0) from by
      have x := X5.out
      have hl4 := HA4.out.2.lt
      have hmv : Mv xb (fun _ => Lb.other) w4 own5 w5 := Mv.ext x (fun f => f)
      refine ⟨H5.out, srv0_inv hok, HA4.out.2.ext x (fun f => f) rfl (fun _ _ _ => rfl), x.lab xb hl4, fun h0 b hb => ?_, BlkO.mv hmv ⟨HM4.out, rfl, by have := HMX.out; omega⟩, HD4.out.mv hmv, QRow.nil _ _ _ _, fun b hb => ⟨x.lab b (by have := HXB.out; omega), by have := HXB.out; omega⟩, ?_, (fun a ha => by cases ha), HFAR.out⟩
      · obtain ⟨_, _, _, h3, _⟩ := HA4.out.2
        exact x.lab b (h3.lt h0 b hb)
      · have hx := HXB.out
        rw [hx]
        exact HBW.out.trans (Below.of_ext x (by have := HK4.out.size; have := HB1.out.size; have := HXB.out; omega) (fun _ _ f => f)))
    have HR9 := Lib.hid (Range_st xb _ Ls 7 (by omega) 4 30 (by omega) w5 HL5.out.st)
    have m5 := HL5.out.mdl.1.cell
    simp only [demoCells] at m5
    go_upto_region 10 with (go_at_call 9; refine HR9.out.mono ?_; rintro e w6 ⟨r9, rfl, HRJ, HA6⟩; have HL6 := Lib.hid (HL5.out.asks HA6.out))
    generalize relab own5 w5.heap.size Lb.other = own6 at HL6
    clear m4 c4 m5 HN HR9
    go_loopg [8, 45] 30 (fun gk s8 s45 wx => ∃ (i : Nat) (own : Nat → Lb) (L : Lay) (S : Srv) (qs : List AQ), s45 = .int .i64 i ∧ (i : Int) ≤ r9 ∧ Hid (LS w (.slice A n c) Ls p xb mb own wx sb L S (8 + 41 * i) qs s8) ∧ Hid (qs.length ≤ i) ∧ Hid (S.now = (i : Int) ∧ S.records ≤ 2 * (i : Int)) ∧ Hid (∀ r, r ∈ S.reqs → r.ended = false → S.now ≤ r.deadline) ∧ gk = 30 - i)
    case atStart => exact ⟨0, _, _, _, _, rfl, by have := HRJ.out; omega, HL6, Lib.hid (Nat.zero_le _), Lib.hid ⟨rfl, by show (0 : Int) ≤ 2 * 0; omega⟩, Lib.hid (fun r hr => by cases hr), rfl⟩
    case round =>
      obtain ⟨i, own, L', S, qs, rfl, hir, HLr, HQLr, HNr, HAr, rfl⟩ := hrel
      obtain ⟨A8, c8, hv8⟩ := ownsRow_shape HLr.out.row.row
      subst hv8
      by_cases hlt : (i : Int) < r9
      · have HLT := Lib.hid hlt
        have hi30 : i ≤ 30 := by have := HRJ.out; omega
        have HFL := Lib.hid (Flip_st xb _ Ls (8 + 41 * i) (by omega) 2 (by omega) wr HLr.out.st)
        have HTK := Lib.hid (fun (own : Nat → Lb) (wx : World) (L : Lay) (S : Srv) (K : Nat) (qs : List AQ) (v : Value) (hx : LS w (.slice A n c) Ls p xb mb own wx sb L S K qs v) (hn : S.now = (i : Int) ∧ S.records ≤ 2 * (i : Int) + 1) => law_tick hx (by omega) (by omega))
        clear hi30
        go_upto_region 12 with (go_at_call 10; refine HFL.out.mono ?_; rintro e w7 ⟨b, rfl, HA7⟩; have HL7 := Lib.hid ((HLr.out.asks HA7.out).mono (K' := 9 + 41 * i) (by omega)); generalize relab own wr.heap.size Lb.other = own7 at HL7; cases b)
        · refine (HTK.out own7 w7 L' S _ qs _ HL7.out ⟨HNr.out.1, by have := HNr.out.2; omega⟩).mono ?_
          rintro e w8 ⟨rfl, own8, L8, S8, HL8, HT8⟩
          have wi : wrap64 ((i : Int) + 1) = (i : Int) + 1 := wrap64_in (by have := HLT.out; have := HRJ.out; omega)
          go_wp2
          go_roundg (30 - (i + 1))
          case measure => have := HLT.out; have := HRJ.out; omega
          case rel => exact ⟨i + 1, own8, L8, S8, qs, by go_num, by have := HLT.out; omega, Lib.hid (HL8.out.mono (by omega)), Lib.hid (by have := HQLr.out; omega), Lib.hid ⟨by rw [HT8.out.now, HNr.out.1]; omega, by rw [HT8.out.rcs]; have := HNr.out.2; omega⟩, Lib.hid HT8.out.alive, rfl⟩
        · have hmb := HL7.out.mdl.1
          have HMb := Lib.hid (fun (wy : World) (hb : Below w7.heap.size w7 wy) => (hmb.below hb).model)
          have HNOW := Lib.hid (fun (wx : World) (hb : Below w7.heap.size w7 wx) => now_any _ sb L' S wx (HL7.out.srv.below hb))
          rw [HNr.out.1] at HNOW
          have HASK := Lib.hid (fun (wx : World) (hb : Below w7.heap.size w7 wx) => law_asked (HL7.out.below hb) (by have := HRJ.out; have := HLT.out; omega) (i : Int) (by have := HRJ.out; have := HLT.out; omega))
          simp only [demoCells, Ask.val] at HASK
          have HNE := Lib.hid (show mb ≠ w7.heap.size ∧ w7.heap.size ≠ xb from by have := hmb.lt; have := HL7.out.st.lt; omega)
          clear hmb
          have k1 := Lib.hid (HMb.out w7.drew (Below.refl _ _).drew)
          have k2 := Lib.hid (HMb.out (w7.alloc (.cells #[.int .i64 0, .int .i64 0, .slice none 0 0, .int .i64 0, .int .i64 0] 41)).drew ((Below.refl _ _).alloc (Nat.le_refl _) _).drew)
          go_cut [9] (fun s9 wx => ∃ (gb : Nat) (own8 : Nat → Lb) (a : AQ), s9 = .pointer (some ⟨gb, 0, none⟩) ∧ Hid (Blk wx gb a.cells 41) ∧ Hid (LS w (.slice A n c) Ls p xb mb own8 wx sb L' S (9 + 41 * i + 40) qs (.slice A8 qs.length c8)) ∧ Hid (AQAt xb own8 wx (.slice A8 qs.length c8) a) ∧ Hid (Oth xb own8 gb) ∧ Hid (a.q.id ≤ 9 ∧ a.q.deadline ≤ (i : Int) + 30 ∧ a.q.prompt.length ≤ 40))
          case first =>
            go_region_held3 (fun wy : World => ∀ o, wy.cell? ⟨mb, o, none⟩ = ([Value.int .i64 1, .int .i64 8, .int .i64 4, .int .i64 8, .slice (some ⟨p.cuts.b, p.cuts.o, none⟩) 4 p.cuts.c, .slice (some ⟨p.embed.b, p.embed.o, none⟩) 32 p.embed.c, .slice (some ⟨p.place.b, p.place.o, none⟩) 16 p.place.c, .slice (some ⟨p.mix.b, p.mix.o, none⟩) 48 p.mix.c, .slice (some ⟨p.out.b, p.out.o, none⟩) 32 p.out.c, .slice (some ⟨p.soft.b, p.soft.o, none⟩) 7 p.soft.c, .slice (some ⟨p.odds.b, p.odds.o, none⟩) 6 p.odds.c] : List Value)[o]?) (first | (with_reducible exact k7.out) | (with_reducible exact k6.out) | (with_reducible exact k5.out) | (with_reducible exact k1.out) | (with_reducible exact k2.out) | (with_reducible exact k3.out) | (with_reducible exact k4.out)) (first
              | (go_at_call 12; refine (HNOW.out _ (by first | exact (Below.refl _ _).drew | exact ((Below.refl _ _).alloc (Nat.le_refl _) _).drew)).mono ?_; rintro e wz ⟨rfl, hz⟩; subst hz; dsimp only)
              | (go_at_call 11; refine (HASK.out _ (by first | exact (Below.refl _ _).drew | exact ((Below.refl _ _).alloc (Nat.le_refl _) _).drew)).mono ?_; rintro e w8 ⟨a, rfl, own8, HL8, HQ8, HI8, HK8, HB8⟩; have HAS8 := Lib.hid (show Asks xb (.slice A n c) Ls (9 + 41 * i + 40) w7 w8 from ⟨(Keep.of_below (by first | exact (Below.refl _ _).drew | exact ((Below.refl _ _).alloc (Nat.le_refl _) _).drew)).trans HK8.out, HL8.out.st⟩); have hmb := HL8.out.mdl.1; have k3 := Lib.hid hmb.model; have k4 := Lib.hid (hmb.alloc (.cells #[.int .i64 0, .int .i64 0, .slice none 0 0, .int .i64 0, .int .i64 0] 41)).model; have k5 := Lib.hid (hmb.alloc (.cells #[.int .i64 a.q.id, .int .i64 a.q.deadline, .slice a.A a.q.prompt.length a.c, .int .i64 a.q.most, .int .i64 a.q.seed] 41)).model; try (have hz8 := HK8.out.blk (news_blk w7 [.int .i64 0, .int .i64 0, .slice none 0 0, .int .i64 0, .int .i64 0] 41).drew HNE.out.2; have z8 := hz8.cell; have y8 := hz8.frozen; have HZ8 := Lib.hid hz8; have k6 := Lib.hid (((((hmb.far (p := ⟨w7.heap.size, 0, none⟩) HNE.out.1 (.int .i64 a.q.id)).far (p := ⟨w7.heap.size, 1, none⟩) HNE.out.1 (.int .i64 a.q.deadline)).far (p := ⟨w7.heap.size, 2, none⟩) HNE.out.1 (.slice a.A a.q.prompt.length a.c)).far (p := ⟨w7.heap.size, 3, none⟩) HNE.out.1 (.int .i64 a.q.most)).far (p := ⟨w7.heap.size, 4, none⟩) HNE.out.1 (.int .i64 a.q.seed)).model; clear hz8); clear hmb; dsimp only))
            · go_wp2_with fail
              go_meet
              have hlt := HL7.out.st.lt
              have h8 := HK8.out.size
              have hk := fun k hk => Nat.le_trans (show w7.heap.size ≤ _ from (Below.refl w7.heap.size w7).drew.size) (HB8.out k hk)
              obtain ⟨r1, r2, r3⟩ := HL7.out.ask (HAS8.out.alloc (.cells a.cells.toArray 41)) (HQ8.out.rd.block fun b hb _ => Below.heap_alloc _ _ _ hb) hk (gb := w8.heap.size) HAS8.out.1.size
              exact ⟨_, _, a, rfl, Lib.hid (heap_alloc_new w8 _), Lib.hid r1, Lib.hid r2, Lib.hid r3, HI8⟩
            all_goals
              go_wp2_with fail
              go_meet
              have hk : ∀ k, a.sl.ownBlock = some k → w7.heap.size + 1 ≤ k := fun k hk => Nat.le_trans (by simp only [World.size_alloc, World.drew]; exact Nat.le_refl _) (HB8.out k hk)
              have hne : a.sl.ownBlock ≠ some w7.heap.size := fun e => by have := hk _ e; omega
              obtain ⟨K0, hst⟩ : ∃ K0, St w7 xb (.slice A n c) Ls K0 := ⟨_, HL7.out.st⟩
              obtain ⟨r1, r2, r3⟩ := HL7.out.ask (a := a) (gb := w7.heap.size) (((((HAS8.out.put hst (Nat.le_refl _) 0 (.int .i64 a.q.id)).put hst (Nat.le_refl _) 1 (.int .i64 a.q.deadline)).put hst (Nat.le_refl _) 2 (.slice a.A a.q.prompt.length a.c)).put hst (Nat.le_refl _) 3 (.int .i64 a.q.most)).put hst (Nat.le_refl _) 4 (.int .i64 a.q.seed)) (((((HQ8.out.rd.far hne _ _).far hne _ _).far hne _ _).far hne _ _).far hne _ _) (fun k h => by have := hk k h; omega) (Nat.le_refl _)
              exact ⟨_, _, a, rfl, Lib.hid (ask_blk HZ8.out _ _ _ _ _), Lib.hid r1, Lib.hid r2, Lib.hid r3, HI8⟩
          case rest =>
            obtain ⟨gb, own8, a, rfl, HGB, HL8, HQ8, HO8, HI8⟩ := hcut
            have g8 := HGB.out.cell
            simp only [AQ.cells, Ask.cells] at g8
            have HSUB := Lib.hid (law_submit HL8.out (by have := HNr.out.2; have := HLT.out; have := HRJ.out; omega) a HQ8.out HI8.out.1 (by have := HI8.out.2.1; have := HLT.out; have := HRJ.out; omega))
            simp only [Ask.val] at HSUB
            clear k1 k2
            have wi : wrap64 ((i : Int) + 1) = (i : Int) + 1 := wrap64_in (by have := HLT.out; have := HRJ.out; omega)
            have WI := Lib.hid wi
            clear wi
            go_upto_region 14 with (go_at_call 13; refine HSUB.out.mono ?_; rintro e w9 ⟨r, rfl, own9, L9, S9, HL9, HM9, HN9, HY9⟩; rcases sub_case r with rfl | b0)
            · have HBG := Lib.hid (show Blk w9 gb a.cells 41 from (BlkO.mv HM9.out ⟨HGB.out, HO8.out⟩).1)
              have g9 := HBG.out.cell
              simp only [AQ.cells, Ask.cells] at g9
              obtain ⟨i41, hi41, hz410, hz411, hz412⟩ := info_parts info41
              have hb1 : qs.length + 1 ≤ maxLen := by have := HQLr.out; unfold maxLen; have := HRJ.out; omega
              have hb2 : (qs.length + 1) * 56 ≤ 140737488355328 := by have := HQLr.out; have := HRJ.out; omega
              go_wp2_with (at_builtin; refine wpList_append_lies _ rfl _ _ 37 rfl (mb + 1) 41 i41 (.agg #[.int .i64 0, .int .i64 0, .slice none 0 0, .int .i64 0, .int .i64 0]) 5 56 Tryz.underlying37 hi41 hz410 hz411 hz412 rfl (by decide) _ qs.length _ rfl (ownsRow_below HL9.out.row.row (Below.alloc (Below.refl _ _) (Nat.le_refl _) _)) ⟨w9.heap.size, 0, none⟩ 1 1 a.cells rfl rfl (news_aq _ _) (one_aq a) Nat.one_pos hb1 hb2 (Nat.le_trans HL9.out.mdl.1.lt (alloc_le _ _)) _ rfl ?_; intro g10 cap10 w10 hown10 hgrow10 hat10 hlt10; have HL10 := Lib.hid (HL9.out.app a (AQAt.mv HM9.out HQ8.out) (HY9.out trivial).1 (HY9.out trivial).2 _ rfl hown10 hgrow10 hat10); clear hown10 hgrow10 hat10 hlt10)
              refine (HTK.out _ w10 L9 S9 _ _ _ HL10.out ⟨by rw [HN9.out.1]; exact HNr.out.1, by have := HNr.out.2; have := HN9.out.2; omega⟩).mono ?_
              rintro e w11 ⟨rfl, own11, L11, S11, HL11, HT11⟩
              have wi := WI.out
              go_wp2
              go_roundg (30 - (i + 1))
              case measure => have := HLT.out; have := HRJ.out; omega
              case rel => exact ⟨i + 1, own11, L11, S11, qs ++ [a], by go_num, by have := HLT.out; omega, Lib.hid (by have h := HL11.out.mono (K' := 8 + 41 * (i + 1)) (by omega); simpa using h), Lib.hid (by have := HQLr.out; simp; omega), Lib.hid ⟨by rw [HT11.out.now, HN9.out.1, HNr.out.1]; omega, by rw [HT11.out.rcs]; have := HNr.out.2; have := HN9.out.2; omega⟩, Lib.hid HT11.out.alive, rfl⟩
            · go_wp2_with fail
              refine (HTK.out _ w9 L9 S9 _ _ _ HL9.out ⟨by rw [HN9.out.1]; exact HNr.out.1, by have := HNr.out.2; have := HN9.out.2; omega⟩).mono ?_
              rintro e w11 ⟨rfl, own11, L11, S11, HL11, HT11⟩
              have wi := WI.out
              go_wp2
              go_roundg (30 - (i + 1))
              case measure => have := HLT.out; have := HRJ.out; omega
              case rel => exact ⟨i + 1, own11, L11, S11, qs, by go_num, by have := HLT.out; omega, Lib.hid (HL11.out.mono (by omega)), Lib.hid (by have := HQLr.out; omega), Lib.hid ⟨by rw [HT11.out.now, HN9.out.1, HNr.out.1]; omega, by rw [HT11.out.rcs]; have := HNr.out.2; have := HN9.out.2; omega⟩, Lib.hid HT11.out.alive, rfl⟩
      · have HN12 := Lib.hid (show 0 ≤ S.now ∧ S.now ≤ 101 ∧ S.records ≤ S.now + 60 from by have := HNr.out; have := HRJ.out; omega)
        have HQ30 := Lib.hid (show qs.length ≤ 30 from by have := HQLr.out; have := HRJ.out; omega)
        clear HNr HQLr HRJ HFAR HA6 HA3 HA4 HK4 HST1 HD4 HM4 HMX HBW HL5 HL6 X5 H5 HB1 HB2 HP2 HF2
        obtain ⟨w12, rfl⟩ : ∃ w12, w12 = wr := ⟨_, rfl⟩
        go_wp2
        clear hlt
        go_loopg [66] (101 - S.now.toNat) (fun gk s66 wx => ∃ (own : Nat → Lb) (L : Lay) (S : Srv), Hid (LS w (.slice A n c) Ls p xb mb own wx sb L S (8 + 41 * i) qs (.slice A8 qs.length c8)) ∧ Hid (0 ≤ S.now ∧ S.now ≤ 101 ∧ S.records ≤ S.now + 60) ∧ Hid (∀ r, r ∈ S.reqs → r.ended = false → S.now ≤ r.deadline) ∧ gk = 101 - S.now.toNat)
        case atStart => exact ⟨own, L', S, HLr, HN12, HAr, rfl⟩
        case round =>
          obtain ⟨ownv, Lv, Sv, HLv, HNv, HAv, rfl⟩ := hrel
          have HW := Lib.hid (law_wait HLv.out)
          go_wp2_with (go_at_call 15; refine HW.out.mono ?_; rintro e w13 ⟨ys, A13, c13, rfl, hys, own13, HL13⟩; have HY := Lib.hid hys; clear hys; obtain ⟨n13, hn13⟩ : ∃ n, ys.length = n := ⟨_, rfl⟩; rw [hn13]; have HYN := Lib.hid hn13; clear hn13; rcases Nat.eq_zero_or_pos n13 with h0 | h0)
          · subst h0
            have HEND := Lib.hid (opens_nil HY.out HYN.out)
            go_wp2_with (go_at_call 16; refine (law_sync HL13.out HEND.out).mono ?_; rintro e w15 ⟨rfl, own15, L15, S15, HL15, HF15⟩)
            go_loopg [77] qs.length (fun gk s77 wx => ∃ (j : Nat) (own : Nat → Lb), s77 = .int .i64 j ∧ j ≤ qs.length ∧ Hid (LS w (.slice A n c) Ls p xb mb own wx sb L15 S15 (8 + 41 * i) qs (.slice A8 qs.length c8)) ∧ gk = qs.length - j)
            case atStart => exact ⟨0, _, rfl, Nat.zero_le _, HL15, rfl⟩
            case round =>
              obtain ⟨j, ownj, rfl, hj, HLj, rfl⟩ := hrel
              have hq30 := HQ30.out
              by_cases hlt : j < qs.length
              · obtain ⟨g8, rfl⟩ : ∃ g8, A8 = some ⟨g8, 0, none⟩ := row_some HLj.out.row.row hlt
                obtain ⟨a, ha, HAC, HAM⟩ : ∃ a, qs[j] = a ∧ Hid (∀ o, o < 5 → wr.cell? ⟨g8, j * 5 + o, none⟩ = a.cells[o]?) ∧ Hid (a ∈ qs) := ⟨_, rfl, Lib.hid (aq_cell HLj.out.row hlt), Lib.hid (List.getElem_mem _)⟩
                have q0 := HAC.out 0 (by omega)
                have q1 := HAC.out 1 (by omega)
                have q2 := HAC.out 2 (by omega)
                have q3 := HAC.out 3 (by omega)
                have q4 := HAC.out 4 (by omega)
                simp [AQ.cells, Ask.cells] at q0 q1 q2 q3 q4
                clear ha
                have HANS := Lib.hid (fun (wx : World) (hb : Below wr.heap.size wr wx) => law_answer (HLj.out.below hb) HF15.out a HAM.out)
                go_wp2_with fail
                clear q0 q1 q2 q3 q4
                have HB0 := Lib.hid (show Below wr.heap.size wr (wr.alloc (.cells a.cells.toArray 41)) from (Below.refl _ _).alloc (Nat.le_refl _) _)
                have HBX := Lib.hid (news_blk wr a.cells 41)
                refine (HANS.out _ HB0.out).mono ?_
                rintro e w16 ⟨HB16, h16⟩
                have HL16 := Lib.hid ((HLj.out.below HB0.out).below HB16.out)
                have m16 := HL16.out.mdl.1.cell
                simp only [demoCells] at m16
                have b16 := (HBX.out.below HB16.out).cell
                simp only [AQ.cells, Ask.cells] at b16
                have HAL := Lib.hid (law_alone HL16.out a HAM.out)
                simp only [demoCells, Ask.val] at HAL
                rcases h16 with rfl | ⟨A16, c16, xs, rfl, HR16, HX16⟩
                · go_wp2_with (go_at_call 18; refine HAL.out.mono ?_; rintro e w17 ⟨A17, c17, ys, rfl, HB17, HR17, HX17⟩)
                  have HL17 := Lib.hid (HL16.out.below HB17.out)
                  go_roundg (qs.length - (j + 1))
                  case measure => omega
                  case rel => exact ⟨j + 1, _, by go_num, by omega, HL17, rfl⟩
                · go_wp2_with (first
                    | (go_at_call 18; refine HAL.out.mono ?_; rintro e w17 ⟨A17, c17, ys, rfl, HB17, HR17, HX17⟩; have HL17 := Lib.hid (HL16.out.below HB17.out); have HEQ := Lib.hid (equal_same _ _ _ _ (AnsOk.uniq HX16.out HX17.out) w17 (HR16.out.below HB17.out) HR17.out))
                    | (go_at_call 19; refine HEQ.out.mono ?_; rintro e w18 ⟨rfl, HB18⟩; have HL18 := Lib.hid (HL17.out.below HB18.out)))
                  go_roundg (qs.length - (j + 1))
                  case measure => omega
                  case rel => exact ⟨j + 1, _, by go_num, by omega, HL18, rfl⟩
              · obtain rfl : j = qs.length := by omega
                obtain ⟨w19, rfl⟩ : ∃ w19, w19 = wr := ⟨_, rfl⟩
                go_wp2_with (go_at_call 8; refine (HSV.out w19).mono ?_; rintro e w20 ⟨rfl, HB20⟩)
                go_ret
                refine ⟨rfl, Lib.hid ?_⟩
                have b1 := HLj.out.bel
                have e1 := HXB.out
                rw [e1] at b1
                exact b1.trans (HB20.out.mono (by have := b1.size; omega))
          · have h1 : (0 : Int) < (n13 : Int) := by omega
            have HD1 := Lib.hid (show Sv.now ≤ 100 from by
              obtain ⟨r, hr, ho⟩ := opens_some HY.out (by rw [HYN.out]; exact h0)
              have := HAv.out r hr ho
              have := HLv.out.inv.dls r hr
              omega)
            have HTV := Lib.hid (law_tick HL13.out (by have := HNv.out; omega) (by have := HNv.out; omega))
            go_wp2_with (go_at_call 14; refine HTV.out.mono ?_; rintro e w14 ⟨rfl, own14, L14, S14, HL14, HT14⟩)
            go_roundg (101 - S14.now.toNat)
            case measure => have := HT14.out.now; have := HNv.out; have := HD1.out; omega
            case rel => exact ⟨own14, L14, S14, HL14, Lib.hid (by have := HT14.out.now; have := HT14.out.rcs; have := HNv.out; have := HD1.out; omega), Lib.hid HT14.out.alive, rfl⟩
  · have HN := Lib.hid (new_bad p cf (by simpa using hok) w4 HD4.out.at')
    simp only [demoCells, Cnf.val] at HN
    go_wp2_with (first | (go_at_call 7; refine HN.out.mono ?_; rintro e w5 ⟨rfl, HB5⟩) | (go_at_call 8; refine (HSV.out w5).mono ?_; rintro e w6 ⟨rfl, HB6⟩))
    go_ret
    refine ⟨rfl, Lib.hid ?_⟩
    have b5 := HBW.out.trans (HB5.out.mono (by have := HBW.out.size; have := HXB.out; omega))
    exact b5.trans (HB6.out.mono (by have := b5.size; have := HXB.out; omega))
end Go.Proofs.YtllpoaoboieijaaGreat
