/-
  ServeCrashes: the walk.
-/
import Derived.Test.YtllpoaoboieijaaGreatSa42
import Derived.Test.YtllpoaoboieijaaGreatSc6
/-
  ServeCrashes: the walk.
-/
namespace Go.Proofs.YtllpoaoboieijaaGreat
open Go.RowKit

set_option maxRecDepth 100000 in
set_option maxHeartbeats 800000 in
theorem Range_big (xb : Nat) (V : Value) (L : List Int) (K : Nat) (hK : K ≤ 1000000) (lo hi : Int) (hlo : -1000 ≤ lo ∧ lo ≤ hi ∧ hi ≤ 1000000) (w : World) (h : St w xb V L K) :
    Calls Tryz.prog 9 #[.pointer (some ⟨xb, 0, none⟩), .int .i64 lo, .int .i64 hi] w fun e w' => ∃ r : Int, e = .returned (.int .i64 r) ∧ Hid (lo ≤ r ∧ r ≤ hi) ∧ Hid (Asks xb V L (K + 1) w w') := by
  have HN := Lib.hid (Next_st xb V L K hK (hi - lo + 1) (by omega) w h)
  have t1 : decide (hi < lo) = false := decide_eq_false (by omega)
  have e1 : IntKind.i64.wrap (hi - lo) = hi - lo := IntWalk.i64_in _ (by omega)
  have e2 : IntKind.i64.wrap (hi - lo + 1) = hi - lo + 1 := IntWalk.i64_in _ (by omega)
  have HB := Lib.hid hlo
  clear h hlo
  go_enter Tryz.func9, Tryz.ntmps9
  go_wp2_with (go_at_call 20; refine HN.out.mono ?_; rintro e w1 ⟨r, rfl, HR, HA⟩; have e3 : IntKind.i64.wrap (lo + r) = lo + r := IntWalk.i64_in _ (by have := HR.out; have := HB.out; omega))
  go_ret
  exact ⟨_, rfl, Lib.hid (by have := HR.out; omega), HA⟩
theorem cut_rd {xb g n c : Nat} {V : Value} {Ls l : List Int} {K : Nat} {w1 w2 w3 : World} (h : RdV w1 (.slice (some ⟨g, 0, none⟩) n c) (bys l)) (hb : Below w1.heap.size w1 w2) (ha : Asks xb V Ls K w2 w3) (hg : xb < g) {k : Nat} (hk : k ≤ l.length) :
    RdV w3 (.slice (some ⟨g, 0, none⟩) k c) (bys (l.take k)) := by
  have hn := h.caps.1
  rw [bys_length] at hn
  have h2 : RdV w3 (.slice (some ⟨g, 0, none⟩) n c) (bys l) := (h.below hb).block fun b hb' hv => ha.1.block b hb' (by
    have : g = b := by simpa [Value.ownBlock] using hv
    omega)
  exact rdv_first h2 hn k (by omega)
theorem six_cases {r : Int} (h : 0 ≤ r ∧ r < 6) : r = 0 ∨ r = 1 ∨ r = 2 ∨ r = 3 ∨ r = 4 ∨ r = 5 := by omega

set_option maxRecDepth 100000 in
set_option maxHeartbeats 12800000 in
theorem crash_walk (w : World) (A : Option Addr) (n c : Nat) (Ls : List Int) (hV : Rd w (.slice A n c) Ls) :
    Calls Tryz.prog 4 #[.slice A n c] w fun e w' => e = .returned (.bool true) ∧ Hid (Below w.heap.size w w') := by
  obtain ⟨w1, hw1, hb1, hk1⟩ : ∃ w1, w.alloc (.cells #[.slice A n c, .int .i64 0] 25) = w1 ∧ Below w.heap.size w w1 ∧ Blk w1 w.heap.size [.slice A n c, .int .i64 0] 25 := ⟨_, rfl, (Below.refl _ _).alloc (Nat.le_refl _) _, heap_alloc_new w _⟩
  have hst1 : St w1 w.heap.size (.slice A n c) Ls 0 := ⟨0, Nat.le_refl _, hk1, hV.below hb1, fun h0 e => by
    have := hV.lt h0 w.heap.size e
    omega⟩
  have HB1 := Lib.hid hb1
  have HST1 := Lib.hid hst1
  have HV := Lib.hid hV
  have HD := Lib.hid (demo_any w1)
  generalize hxb : w.heap.size = xb at *
  have HXB := Lib.hid hxb
  clear hb1 hk1 hst1 hV
  have HRA := Lib.hid (fun (wx : World) (hx : St wx xb (.slice A n c) Ls 0) => Range_st xb _ Ls 0 (by omega) 2 6 (by omega) wx hx)
  have HRB := Lib.hid (fun (K : Nat) (hK : K ≤ 1000) (wx : World) (hx : St wx xb (.slice A n c) Ls K) => Range_st xb _ Ls K (by omega) 1 3 (by omega) wx hx)
  simp only [demoCells] at HD
  go_enter Tryz.func4, Tryz.ntmps4
  go_upto_region 3 with (first
    | (go_at_call 9; have _g := HA4; clear _g; refine (HRB.out 2 (by omega) w4 HA4.out.2).mono ?_; rintro e w5 ⟨r3, rfl, HI3, HA5⟩)
    | (go_at_call 9; have _g := HA3; clear _g; refine (HRB.out 1 (by omega) w3 HA3.out.2).mono ?_; rintro e w4 ⟨r2, rfl, HI2, HA4⟩)
    | (go_at_call 9; have _g := HB2; clear _g; refine (HRA.out w2 (HST1.out.below HB2.out)).mono ?_; rintro e w3 ⟨r1, rfl, HI1, HA3⟩)
    | (go_at_call 5; refine HD.out.mono ?_; rintro e w2 ⟨p, rfl, HB2, HP2, HF2⟩))
  obtain ⟨cf, hcf⟩ : ∃ cf : Cnf, cf = ⟨r1, r2, r3, 6⟩ := ⟨_, rfl⟩
  have hok : cf.ok = true := by
    rw [hcf]
    have h1 := HI1.out; have h2 := HI2.out; have h3 := HI3.out
    simp only [Cnf.ok, withinB, Bool.and_eq_true, decide_eq_true_eq]
    omega
  have HOK := Lib.hid hok
  obtain ⟨w6, hw6, hb6, hm6, hc6⟩ : ∃ w6, (w5.alloc (.cells (demoCells p).toArray 27)).alloc (.cells (cnfCells cf).toArray 30) = w6 ∧ Below w5.heap.size w5 w6 ∧ Blk w6 w5.heap.size (demoCells p) 27 ∧ Blk w6 (w5.heap.size + 1) (cnfCells cf) 30 := by
    refine ⟨_, rfl, ?_, ?_, ?_⟩
    · exact ((Below.refl _ _).alloc (Nat.le_refl _) _).alloc (by simp only [World.size_alloc]; omega) _
    · exact (news_blk w5 (demoCells p) 27).alloc _
    · have := news_blk (w5.alloc (.cells (demoCells p).toArray 27)) (cnfCells cf) 30
      simp only [World.size_alloc] at this
      exact this
  have e1 : r1 = cf.pages := by rw [hcf]
  have e2 : r2 = cf.size := by rw [hcf]
  have e3 : r3 = cf.batch := by rw [hcf]
  have e4 : (6 : Int) = cf.queue := by rw [hcf]
  rw [e1, e2, e3, e4]
  simp only [demoCells, cnfCells] at hw6
  rw [hw6]
  have HA6 := Lib.hid (show Asks xb (.slice A n c) Ls 3 w2 w6 from ((HA3.out.trans HA4.out).trans HA5.out).below hb6)
  have HK6 := Lib.hid (show Keep xb w1 w6 from (Keep.of_below HB2.out).trans HA6.out.1)
  have HBW := Lib.hid (show Below xb w w6 from HB1.out.trans ⟨HK6.out.os, HK6.out.tape, HK6.out.output, HK6.out.size, fun b hb => HK6.out.block b (by have := HB1.out.size; have := HXB.out; omega) (by omega)⟩)
  have HD6 := Lib.hid (show DemO xb (fun _ => Lb.other) w6 p from by
    have hlt : xb < w1.heap.size := HST1.out.lt
    have h2 : DemO xb (fun _ => Lb.other) w2 p := DemO.mk' HP2.out HF2.out (fun b hb => ⟨rfl, by omega⟩)
    exact h2.mv ⟨HA6.out.1.size, fun _ _ => rfl, fun b hb ho => HA6.out.1.block b hb ho.2⟩)
  have HM6 := Lib.hid hm6
  have HC6 := Lib.hid hc6
  have m6 := hm6.cell
  have c6 := hc6.cell
  simp only [demoCells] at m6
  simp only [cnfCells] at c6
  have HMX := Lib.hid (show xb < w5.heap.size from HA5.out.2.lt)
  generalize hmb : w5.heap.size = mb at *
  clear hm6 hc6 hb6 hw6 hmb e1 e2 e3 e4 hcf HI1 HI2 HI3 HA3 HA4 HA5 HRA HRB
  clear r1 r2 r3
  have HSV := Lib.hid (fun (wx : World) => served_any wx)
  have HN := Lib.hid (new_ok (fun _ => Lb.other) p cf hok w6 HD6.out.at')
  simp only [demoCells, Cnf.val] at HN
  clear hok
  go_upto_region 4 with (go_at_call 7; refine HN.out.mono ?_; rintro e w7 ⟨sb, own7, L7, rfl, h7, hsb, x7⟩; have H7 := Lib.hid h7; have X7 := Lib.hid x7; clear h7 hsb x7)
  have HL7 := Lib.hid (show LC w (.slice A n c) Ls p xb mb cf own7 w7 sb L7 (srv0 cf) 3 0 from by
    have x := X7.out
    have hl6 := HA6.out.2.lt
    have hmv : Mv xb (fun _ => Lb.other) w6 own7 w7 := Mv.ext x (fun f => f)
    refine ⟨H7.out, HOK.out, ⟨0, fun _ => .tick, fun _ => (srv0 cf).fl 0 false, ⟨rfl, fun i hi => by omega, fun _ _ => rfl⟩, Nat.le_refl _, rfl⟩, rfl, ⟨Int.le_refl _, by show (28 : Int) ≤ (headB cf).length; rw [headB_len]; omega⟩, HA6.out.2.ext x (fun f => f) rfl (fun _ _ _ => rfl), x.lab xb hl6, fun h0 b hb => ?_, BlkO.mv hmv ⟨HM6.out, rfl, by have := HMX.out; omega⟩, BlkO.mv hmv ⟨HC6.out, rfl, by have := HMX.out; omega⟩, HD6.out.mv hmv, fun b hb => ⟨x.lab b (by have := HXB.out; omega), by have := HXB.out; omega⟩, ?_⟩
    · obtain ⟨_, _, _, h3, _⟩ := HA6.out.2
      exact x.lab b (h3.lt h0 b hb)
    · have hx := HXB.out
      rw [hx]
      exact HBW.out.trans (Below.of_ext x (by have := HK6.out.size; have := HB1.out.size; have := HXB.out; omega) (fun _ _ f => f)))
  have HR8 := Lib.hid (Range_st xb _ Ls 3 (by omega) 1 5 (by omega) w7 HL7.out.st)
  have m7 := HL7.out.mdl.1.cell
  simp only [demoCells] at m7
  go_upto_region 7 with (go_at_call 9; refine HR8.out.mono ?_; rintro e w8 ⟨r8, rfl, HRJ, HA8⟩; have HL8 := Lib.hid (HL7.out.asks HA8.out))
  generalize relab own7 w7.heap.size Lb.other = own8 at HL8
  clear m6 c6 m7 HN HR8
  go_loopg [6, 47] 5 (fun gk s6 s47 wx => ∃ (i : Nat) (own : Nat → Lb) (sb : Nat) (L : Lay) (S : Srv), s6 = .pointer (some ⟨sb, 0, none⟩) ∧ s47 = .int .i64 i ∧ (i : Int) ≤ r8 ∧ Hid (LC w (.slice A n c) Ls p xb mb cf own wx sb L S (4 + 1000 * i) (15 * i)) ∧ gk = 5 - i)
  case atStart => exact ⟨0, _, _, _, _, rfl, rfl, by have := HRJ.out; omega, HL8, rfl⟩
  case round =>
    obtain ⟨i, own, sb, L, S, rfl, rfl, hir, HLr, rfl⟩ := hrel
    by_cases hlt : (i : Int) < r8
    · have HI := Lib.hid (show i ≤ 4 from by have := HRJ.out; omega)
      have HLT := Lib.hid hlt
      have HRG := Lib.hid (Range_st xb _ Ls (4 + 1000 * i) (by have := HI.out; omega) 3 15 (by omega) wr HLr.out.st)
      go_wp2_with (go_at_call 9; refine HRG.out.mono ?_; rintro e w9 ⟨r9, rfl, HRI, HA9⟩; have HL9 := Lib.hid (HLr.out.asks HA9.out))
      generalize relab own wr.heap.size Lb.other = own9 at HL9
      clear hlt HRG
      go_loopg [51] 15 (fun gk s51 wx => ∃ (j : Nat) (own : Nat → Lb) (L : Lay) (S : Srv), s51 = .int .i64 j ∧ (j : Int) ≤ r9 ∧ Hid (LC w (.slice A n c) Ls p xb mb cf own wx sb L S (5 + 1000 * i + 41 * j) (15 * i + j)) ∧ gk = 15 - j)
      case atStart => exact ⟨0, _, _, _, rfl, by have := HRI.out; omega, Lib.hid (HL9.out.mono (by omega) (by omega)), rfl⟩
      case round =>
        obtain ⟨j, ownj, Lj, Sj, rfl, hjr, HLj, rfl⟩ := hrel
        by_cases hjt : (j : Int) < r9
        · have HJ := Lib.hid (show j ≤ 14 ∧ (j : Int) < r9 from by have := HRI.out; omega)
          have HNX := Lib.hid (Next_st xb _ Ls (5 + 1000 * i + 41 * j) (by have := HI.out; have := HJ.out; omega) 6 (by omega) wr HLj.out.st)
          have wi : wrap64 ((j : Int) + 1) = (j : Int) + 1 := wrap64_in (by have := HJ.out; omega)
          go_upto_region 12 with (go_at_call 20; refine HNX.out.mono ?_; rintro e w10 ⟨r10, rfl, HRX, HA10⟩; have HL10 := Lib.hid (HLj.out.asks HA10.out))
          generalize relab ownj wr.heap.size Lb.other = own10 at HL10
          have HRX' := HRX.out
          clear hjt HNX HRX
          obtain rfl | rfl | rfl | rfl | rfl | rfl := six_cases HRX'
          · have hmb := HL10.out.mdl.1
            have HMb := Lib.hid (fun (wy : World) (hb : Below w10.heap.size w10 wy) => (hmb.below hb).model)
            have hat := HL10.out.at' (by have := HI.out; have := HJ.out; omega)
            have HNOW := Lib.hid (fun (wx : World) (hb : Below w10.heap.size w10 wx) => now_any _ sb Lj Sj wx (HL10.out.srv.below hb))
            have HASK := Lib.hid (fun (wx : World) (hb : Below w10.heap.size w10 wx) => lc_asked (HL10.out.below hb) (by have := HI.out; have := HJ.out; omega) Sj.now (by have := HI.out; have := HJ.out; omega))
            have HSUB := Lib.hid (fun (own11 : Nat → Lb) (w11 : World) (hx : LC w (.slice A n c) Ls p xb mb cf own11 w11 sb Lj Sj (5 + 1000 * i + 41 * j + 1 + 40) (15 * i + j)) (q : Ask) (A11 : Option Addr) (c11 : Nat) (hq : q.id ≤ 9 ∧ q.deadline ≤ 200) (hr : RdO own11 w11 (.slice A11 q.prompt.length c11) (ints q.prompt)) => lc_submit hx (by have := HI.out; have := HJ.out; omega) q A11 c11 hq hr)
            simp only [demoCells, Ask.val] at HASK HSUB
            clear hmb hat
            have k1 := Lib.hid (HMb.out w10.drew (Below.refl _ _).drew)
            go_upto_region 14 with fail
            go_region_held3 (fun wy : World => ∀ o, wy.cell? ⟨mb, o, none⟩ = ([Value.int .i64 1, .int .i64 8, .int .i64 4, .int .i64 8, .slice (some ⟨p.cuts.b, p.cuts.o, none⟩) 4 p.cuts.c, .slice (some ⟨p.embed.b, p.embed.o, none⟩) 32 p.embed.c, .slice (some ⟨p.place.b, p.place.o, none⟩) 16 p.place.c, .slice (some ⟨p.mix.b, p.mix.o, none⟩) 48 p.mix.c, .slice (some ⟨p.out.b, p.out.o, none⟩) 32 p.out.c, .slice (some ⟨p.soft.b, p.soft.o, none⟩) 7 p.soft.c, .slice (some ⟨p.odds.b, p.odds.o, none⟩) 6 p.odds.c] : List Value)[o]?) (first | (with_reducible exact k4.out) | (with_reducible exact k3.out) | (with_reducible exact k1.out)) (first
              | (go_at_call 12; refine (HNOW.out _ (Below.refl _ _).drew).mono ?_; rintro e wz ⟨rfl, hz⟩; subst hz; dsimp only)
              | (go_at_call 11; refine (HASK.out _ (Below.refl _ _).drew).mono ?_; rintro e w11 ⟨q, A11, c11, rfl, own11, HL11, HI11, HR11, HK11⟩; have k3 := Lib.hid HL11.out.mdl.1.model; dsimp only)
              | (go_at_call 13; refine (HSUB.out own11 w11 HL11.out q A11 c11 HI11.out HR11.out).mono ?_; rintro e w12 ⟨r12, rfl, own12, L12, S12, HL12⟩; have k4 := Lib.hid HL12.out.mdl.1.model; dsimp only))
            all_goals
              go_wp2
              go_roundg (15 - (j + 1))
              case measure => have := HJ.out; omega
              case rel => exact ⟨j + 1, own12, L12, S12, by go_num, by have := HJ.out; omega, Lib.hid (HL12.out.mono (by omega) (by omega)), rfl⟩
          · have hmb := HL10.out.mdl.1
            have HMb := Lib.hid (fun (wy : World) (hb : Below w10.heap.size w10 wy) => (hmb.below hb).model)
            have hat := HL10.out.at' (by have := HI.out; have := HJ.out; omega)
            have HNOW := Lib.hid (fun (wx : World) (hb : Below w10.heap.size w10 wx) => now_any _ sb Lj Sj wx (HL10.out.srv.below hb))
            have HASK := Lib.hid (fun (wx : World) (hb : Below w10.heap.size w10 wx) => lc_asked (HL10.out.below hb) (by have := HI.out; have := HJ.out; omega) Sj.now (by have := HI.out; have := HJ.out; omega))
            have HSUB := Lib.hid (fun (own11 : Nat → Lb) (w11 : World) (hx : LC w (.slice A n c) Ls p xb mb cf own11 w11 sb Lj Sj (5 + 1000 * i + 41 * j + 1 + 40) (15 * i + j)) (q : Ask) (A11 : Option Addr) (c11 : Nat) (hq : q.id ≤ 9 ∧ q.deadline ≤ 200) (hr : RdO own11 w11 (.slice A11 q.prompt.length c11) (ints q.prompt)) => lc_submit hx (by have := HI.out; have := HJ.out; omega) q A11 c11 hq hr)
            simp only [demoCells, Ask.val] at HASK HSUB
            clear hmb hat
            have k1 := Lib.hid (HMb.out w10.drew (Below.refl _ _).drew)
            go_upto_region 14 with fail
            go_region_held3 (fun wy : World => ∀ o, wy.cell? ⟨mb, o, none⟩ = ([Value.int .i64 1, .int .i64 8, .int .i64 4, .int .i64 8, .slice (some ⟨p.cuts.b, p.cuts.o, none⟩) 4 p.cuts.c, .slice (some ⟨p.embed.b, p.embed.o, none⟩) 32 p.embed.c, .slice (some ⟨p.place.b, p.place.o, none⟩) 16 p.place.c, .slice (some ⟨p.mix.b, p.mix.o, none⟩) 48 p.mix.c, .slice (some ⟨p.out.b, p.out.o, none⟩) 32 p.out.c, .slice (some ⟨p.soft.b, p.soft.o, none⟩) 7 p.soft.c, .slice (some ⟨p.odds.b, p.odds.o, none⟩) 6 p.odds.c] : List Value)[o]?) (first | (with_reducible exact k4.out) | (with_reducible exact k3.out) | (with_reducible exact k1.out)) (first
              | (go_at_call 12; refine (HNOW.out _ (Below.refl _ _).drew).mono ?_; rintro e wz ⟨rfl, hz⟩; subst hz; dsimp only)
              | (go_at_call 11; refine (HASK.out _ (Below.refl _ _).drew).mono ?_; rintro e w11 ⟨q, A11, c11, rfl, own11, HL11, HI11, HR11, HK11⟩; have k3 := Lib.hid HL11.out.mdl.1.model; dsimp only)
              | (go_at_call 13; refine (HSUB.out own11 w11 HL11.out q A11 c11 HI11.out HR11.out).mono ?_; rintro e w12 ⟨r12, rfl, own12, L12, S12, HL12⟩; have k4 := Lib.hid HL12.out.mdl.1.model; dsimp only))
            all_goals
              go_wp2
              go_roundg (15 - (j + 1))
              case measure => have := HJ.out; omega
              case rel => exact ⟨j + 1, own12, L12, S12, by go_num, by have := HJ.out; omega, Lib.hid (HL12.out.mono (by omega) (by omega)), rfl⟩
          · have HRC := Lib.hid (Range_st xb _ Ls (5 + 1000 * i + 41 * j + 1) (by have := HI.out; have := HJ.out; omega) 1 7 (by omega) w10 HL10.out.st)
            have HCN := Lib.hid (fun (wx : World) (hx : Asks xb (.slice A n c) Ls (5 + 1000 * i + 41 * j + 1 + 1) w10 wx) (id : Int) => lc_cancel (HL10.out.asks hx) (by have := HI.out; have := HJ.out; omega) id)
            go_wp2_with (first
              | (go_at_call 9; refine HRC.out.mono ?_; rintro e w11 ⟨r11, rfl, -, HA11⟩)
              | (go_at_call 21; refine (HCN.out w11 HA11.out r11).mono ?_; rintro e w12 ⟨r12, rfl, own11, L11, S11, HL11⟩))
            go_roundg (15 - (j + 1))
            case measure => have := HJ.out; omega
            case rel => exact ⟨j + 1, own11, L11, S11, by go_num, by have := HJ.out; omega, Lib.hid (HL11.out.mono (by omega) (by omega)), rfl⟩
          · have HSY := Lib.hid (lc_sync HL10.out (by have := HI.out; have := HJ.out; omega))
            go_wp2_with (go_at_call 16; refine HSY.out.mono ?_; rintro e w11 ⟨rfl, own11, L11, S11, HL11⟩)
            go_roundg (15 - (j + 1))
            case measure => have := HJ.out; omega
            case rel => exact ⟨j + 1, own11, L11, S11, by go_num, by have := HJ.out; omega, Lib.hid (HL11.out.mono (by omega) (by omega)), rfl⟩
          · have HTK := Lib.hid (lc_tick HL10.out (by have := HI.out; have := HJ.out; omega))
            go_wp2_with (go_at_call 14; refine HTK.out.mono ?_; rintro e w11 ⟨rfl, own11, L11, S11, HL11⟩)
            go_roundg (15 - (j + 1))
            case measure => have := HJ.out; omega
            case rel => exact ⟨j + 1, own11, L11, S11, by go_num, by have := HJ.out; omega, Lib.hid (HL11.out.mono (by omega) (by omega)), rfl⟩
          · have HTK := Lib.hid (lc_tick HL10.out (by have := HI.out; have := HJ.out; omega))
            go_wp2_with (go_at_call 14; refine HTK.out.mono ?_; rintro e w11 ⟨rfl, own11, L11, S11, HL11⟩)
            go_roundg (15 - (j + 1))
            case measure => have := HJ.out; omega
            case rel => exact ⟨j + 1, own11, L11, S11, by go_num, by have := HJ.out; omega, Lib.hid (HL11.out.mono (by omega) (by omega)), rfl⟩
        · obtain ⟨w20, rfl⟩ : ∃ w20, w20 = wr := ⟨_, rfl⟩
          have HJ := Lib.hid (show j ≤ 15 from by have := HRI.out; omega)
          have HAT := Lib.hid (HLj.out.at' (by have := HI.out; have := HJ.out; omega))
          have HLL := Lib.hid (show 28 ≤ Sj.log.length ∧ Sj.log.length ≤ 20000 from by
            have h1 := HAT.out.1.log; have h2 := HAT.out.2; have h3 := HAT.out.1.log0; have := HI.out; have := HJ.out; omega)
          have HSYB := Lib.hid HLj.out.syn
          have HL20 := Lib.hid (HLj.out.below (Below.refl _ _).drew)
          generalize relab ownj w20.heap.size Lb.other = own20 at HL20
          have HLOG := Lib.hid (fun (own : Nat → Lb) (K : Nat) (wx : World) (hx : LC w (.slice A n c) Ls p xb mb cf own wx sb Lj Sj K (15 * i + j)) => log_any own sb Lj Sj wx hx.srv (by have := HLL.out; omega) (by have := HLL.out; omega))
          have HSYN := Lib.hid (fun (own : Nat → Lb) (K : Nat) (wx : World) (hx : LC w (.slice A n c) Ls p xb mb cf own wx sb Lj Sj K (15 * i + j)) => synced_any own sb Lj Sj wx hx.srv)
          have HRNG := Lib.hid (fun (own : Nat → Lb) (wx : World) (hx : LC w (.slice A n c) Ls p xb mb cf own wx sb Lj Sj (5 + 1000 * i + 41 * j) (15 * i + j)) => Range_big xb _ Ls (5 + 1000 * i + 41 * j) (by have := HI.out; have := HJ.out; omega) Sj.synced (Sj.log.length : Int) (by have := HSYB.out; have := HLL.out; omega) wx hx.st)
          have HRES := Lib.hid (fun (own : Nat → Lb) (wx : World) (hx : LC w (.slice A n c) Ls p xb mb cf own wx sb Lj Sj (5 + 1000 * i + 41 * j + 1) (15 * i + j)) (k : Nat) (hk : Sj.synced ≤ (k : Int)) (hk1 : k ≤ Sj.log.length) (g o cp : Nat) (hr : RdV wx (.slice (some ⟨g, o, none⟩) k cp) (bys (Sj.log.take k))) => lc_resume hx (by have := HI.out; have := HJ.out; omega) k hk hk1 g o cp hr)
          simp only [demoCells, Cnf.val] at HRES
          have HTWO := Lib.hid (fun (own : Nat → Lb) (K : Nat) (wx : World) (hx : LC w (.slice A n c) Ls p xb mb cf own wx sb Lj Sj K (15 * i + j)) => (show (∀ o, wx.cell? ⟨mb, o, none⟩ = ([Value.int .i64 1, .int .i64 8, .int .i64 4, .int .i64 8, .slice (some ⟨p.cuts.b, p.cuts.o, none⟩) 4 p.cuts.c, .slice (some ⟨p.embed.b, p.embed.o, none⟩) 32 p.embed.c, .slice (some ⟨p.place.b, p.place.o, none⟩) 16 p.place.c, .slice (some ⟨p.mix.b, p.mix.o, none⟩) 48 p.mix.c, .slice (some ⟨p.out.b, p.out.o, none⟩) 32 p.out.c, .slice (some ⟨p.soft.b, p.soft.o, none⟩) 7 p.soft.c, .slice (some ⟨p.odds.b, p.odds.o, none⟩) 6 p.odds.c] : List Value)[o]?) ∧ (∀ o, wx.cell? ⟨mb + 1, o, none⟩ = ([.int .i64 cf.pages, .int .i64 cf.size, .int .i64 cf.batch, .int .i64 cf.queue] : List Value)[o]?) from ⟨hx.mdl.1.model, hx.cnf.1.cell⟩))
          have k1 := Lib.hid (HTWO.out _ _ _ HL20.out)
          go_upto_region 20 with fail
          clear hjt
          go_region_held3 (fun wy : World => (∀ o, wy.cell? ⟨mb, o, none⟩ = ([Value.int .i64 1, .int .i64 8, .int .i64 4, .int .i64 8, .slice (some ⟨p.cuts.b, p.cuts.o, none⟩) 4 p.cuts.c, .slice (some ⟨p.embed.b, p.embed.o, none⟩) 32 p.embed.c, .slice (some ⟨p.place.b, p.place.o, none⟩) 16 p.place.c, .slice (some ⟨p.mix.b, p.mix.o, none⟩) 48 p.mix.c, .slice (some ⟨p.out.b, p.out.o, none⟩) 32 p.out.c, .slice (some ⟨p.soft.b, p.soft.o, none⟩) 7 p.soft.c, .slice (some ⟨p.odds.b, p.odds.o, none⟩) 6 p.odds.c] : List Value)[o]?) ∧ (∀ o, wy.cell? ⟨mb + 1, o, none⟩ = ([.int .i64 cf.pages, .int .i64 cf.size, .int .i64 cf.batch, .int .i64 cf.queue] : List Value)[o]?)) (first | (with_reducible exact k5.out) | (with_reducible exact k4.out) | (with_reducible exact k3.out) | (with_reducible exact k2.out) | (with_reducible exact k1.out)) (first
            | (go_at_call 22; refine (HRES.out _ w23 HL23.out k HKB.out.1 HKB.out.2 g1 0 c1 HRD23.out).mono ?_; rintro e w24 ⟨sb', rfl, HB24, own24, L24, R, HTW24⟩; have k5 := Lib.hid (HTWO.out _ _ _ (HL23.out.below HB24.out)); dsimp only)
            | (go_at_call 9; refine (HRNG.out _ w22 HL22.out).mono ?_; rintro e w23 ⟨r23, rfl, HI23, HA23⟩; obtain ⟨k, rfl⟩ : ∃ k : Nat, r23 = (k : Int) := ⟨r23.toNat, by have := HI23.out; have := HSYB.out; omega⟩; have HL23 := Lib.hid (HL22.out.asks HA23.out); have k4 := Lib.hid (HTWO.out _ _ _ HL23.out); have hkb : Sj.synced ≤ (k : Int) ∧ k ≤ Sj.log.length := (by have := HI23.out; omega); have HKB := Lib.hid hkb; have hkc : (k : Int) ≤ (c1 : Int) := (by have := HR21.out.caps; rw [bys_length] at this; omega); have HRD23 := Lib.hid (cut_rd HR21.out HB22.out HA23.out HG21.out hkb.2); clear hkb; dsimp only)
            | (go_at_call 24; refine (HSYN.out _ _ w21 HL21.out).mono ?_; rintro e wz ⟨rfl, hz⟩; subst hz; dsimp only)
            | (go_at_call 23; have _g := HL21; clear _g; refine (HLOG.out _ _ w21 HL21.out).mono ?_; rintro e w22 ⟨g2, c2, rfl, HB22, -, -⟩; have HL22 := Lib.hid (HL21.out.below HB22.out); have k3 := Lib.hid (HTWO.out _ _ _ HL22.out); dsimp only)
            | (go_at_call 23; refine (HLOG.out _ _ _ HL20.out).mono ?_; rintro e w21 ⟨g1, c1, rfl, HB21, HG21', HR21⟩; have HL21 := Lib.hid (HL20.out.below HB21.out); have HG21 := Lib.hid (show xb < g1 from by have := HG21'.out; have := HL20.out.st.lt; omega); have k2 := Lib.hid (HTWO.out _ _ _ HL21.out); dsimp only))
          have HSB' := Lib.hid (show w23.heap.size ≤ w24.heap.size from HB24.out.size)
          clear k1 k2 k3 k4 k5 hkc
          go_wp2
          go_loopg [100] 9 (fun gk s100 wx => ∃ (t : Nat) (own2 : Nat → Lb) (L2 : Lay), s100 = .int .i64 t ∧ t ≤ 9 ∧ Hid (Below w23.heap.size w23 wx) ∧ Hid (Two cf (15 * i + j) Sj R w23.heap.size own2 wx sb' L2) ∧ gk = 9 - t)
          case atStart => exact ⟨0, _, _, rfl, by omega, HB24, HTW24, rfl⟩
          case round =>
            obtain ⟨t, own2, L2, rfl, ht9, HBt, HTt, rfl⟩ := hrel
            by_cases htt : t < 9
            · have hAS := ans_any _ sb Lj Sj wr (HL23.out.srv.below HBt.out) HAT.out.1 (t : Int)
              have hAR := fun (wx : World) (hb : Below wr.heap.size wr wx) => ans_any _ sb' L2 R wx ((HTt.out.below hb HBt.out.size).srv) HTt.out.inv (t : Int)
              have hTW := HTt.out.ans (t : Int)
              generalize ansOf Sj (t : Int) = aS at hAS hTW
              generalize ansOf R (t : Int) = aR at hAR hTW
              obtain ⟨xs, er, ok⟩ := aS
              obtain ⟨ys, er2, ok2⟩ := aR
              simp only at hAS hAR hTW
              have HAS := Lib.hid hAS
              have HAR := Lib.hid hAR
              have tt9 : decide ((t : Int) < 9) = true := decide_eq_true (by omega)
              have wt : wrap64 ((t : Int) + 1) = (t : Int) + 1 := wrap64_in (by omega)
              have HT9 := Lib.hid htt
              clear hAS hAR htt
              cases ok with
              | false =>
                clear hTW
                go_wp2_with (first
                  | (go_at_call 17; have _g := HB25; clear _g; refine (HAR.out w25 HB25.out).mono ?_; rintro e w26 ⟨HB26, A26, c26, rfl, HR26⟩)
                  | (go_at_call 17; refine HAS.out.mono ?_; rintro e w25 ⟨HB25, A25, c25, rfl, HR25⟩))
                go_roundg (9 - (t + 1))
                case measure => have := HT9.out; omega
                case rel =>
                  have hb2 : Below wr.heap.size wr w26 := HB25.out.trans (HB26.out.mono HB25.out.size)
                  exact ⟨t + 1, _, _, by go_num, by have := HT9.out; omega, Lib.hid (HBt.out.trans (hb2.mono HBt.out.size)), Lib.hid (HTt.out.below hb2 HBt.out.size), rfl⟩
              | true =>
                have hTW' := hTW rfl
                simp only [Prod.mk.injEq] at hTW'
                obtain ⟨rfl, rfl, rfl⟩ := hTW'
                clear hTW
                go_wp2_with (first
                  | (go_at_call 19; refine (equal_same _ _ ys ys rfl w26 (HR25.out.below HB26.out) HR26.out).mono ?_; rintro e w27 ⟨rfl, HB27⟩)
                  | (go_at_call 17; have _g := HB25; clear _g; refine (HAR.out w25 HB25.out).mono ?_; rintro e w26 ⟨HB26, A26, c26, rfl, HR26⟩)
                  | (go_at_call 17; refine HAS.out.mono ?_; rintro e w25 ⟨HB25, A25, c25, rfl, HR25⟩))
                go_roundg (9 - (t + 1))
                case measure => have := HT9.out; omega
                case rel =>
                  have hb2 : Below wr.heap.size wr w27 := (HB25.out.trans (HB26.out.mono HB25.out.size)).trans (HB27.out.mono (Nat.le_trans HB25.out.size HB26.out.size))
                  exact ⟨t + 1, _, _, by go_num, by have := HT9.out; omega, Lib.hid (HBt.out.trans (hb2.mono HBt.out.size)), Lib.hid (HTt.out.below hb2 HBt.out.size), rfl⟩
            · obtain rfl : t = 9 := by omega
              have wi : wrap64 ((i : Int) + 1) = (i : Int) + 1 := wrap64_in (by have := HI.out; omega)
              have HN28 := Lib.hid (HL23.out.crash HBt.out HTt.out)
              go_wp2
              go_roundg (5 - (i + 1))
              case measure => have := HI.out; omega
              case rel => exact ⟨i + 1, own2, sb', L2, R, rfl, by go_num, by have := HLT.out; omega, Lib.hid (HN28.out.mono (by have := HJ.out; omega) (by have := HJ.out; omega)), rfl⟩
    · obtain ⟨w19, rfl⟩ : ∃ w19, w19 = wr := ⟨_, rfl⟩
      go_wp2_with (go_at_call 8; refine (HSV.out w19).mono ?_; rintro e w20 ⟨rfl, HB20⟩)
      go_ret
      refine ⟨rfl, Lib.hid ?_⟩
      have b1 := HLr.out.bel
      have e1 := HXB.out
      rw [e1] at b1
      exact b1.trans (HB20.out.mono (by have := b1.size; omega))
end Go.Proofs.YtllpoaoboieijaaGreat
