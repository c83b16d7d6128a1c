/-
  Proved: for every list of numbers NumField returns true: the rules of arithmetic hold for the numbers that it makes of the list, and what it reads reads behind the call as it did before. Conditions: none beyond those of the given row.
-/
import Derived.Below
import Derived.Carry
import Derived.ChangeSame
import Derived.ChangeSlices
import Derived.Deep.Fields
import Derived.LaidLaws
import Derived.LaidOnce
import Derived.Lay
import Derived.OpenShut
import Derived.ProofKit
import Derived.SevenTiedAt
import Derived.Test.YtgennilhbedmoaaGreatDoorCards
import Derived.Test.YtgennilhbedmoaaGreatDoorRows
import Derived.Test.YtgennilhbedmoaaGreatDoorTie
import Derived.Test.YtgennilhbedmoaaGreatDoorSa14
import Derived.Test.YtgennilhbedmoaaGreatDoorSa18
import Derived.Test.YtgennilhbedmoaaGreatDoorSa30
/-
  weftkeep1: NumField: the walk of the law.
-/
namespace Go.Proofs.YtgennilhbedmoaaGreatDoor
open Go.RowKit KeepPlain

theorem blkThree (w : World) (a b c : List Value) (ta tb tc : TypeId) : ∃ w0, w0 = ((w.alloc (.cells a.toArray ta)).alloc (.cells b.toArray tb)).alloc (.cells c.toArray tc) ∧ Below w.heap.size w w0 ∧ Blk w0 w.heap.size a ta ∧ Blk w0 (w.heap.size + 1) b tb ∧ Blk w0 (w.heap.size + 1 + 1) c tc := by
  refine ⟨_, rfl, (((Below.refl _ _).alloc (Nat.le_refl _) _).alloc (by simp only [World.size_alloc]; omega) _).alloc (by simp only [World.size_alloc]; omega) _, ((news_blk w a ta).alloc _).alloc _, ?_, ?_⟩
  · have := (news_blk (w.alloc (.cells a.toArray ta)) b tb).alloc (.cells c.toArray tc)
    simp only [World.size_alloc] at this
    exact this
  · have := news_blk ((w.alloc (.cells a.toArray ta)).alloc (.cells b.toArray tb)) c tc
    simp only [World.size_alloc] at this
    exact this
theorem rt_parts (q : Rat) : ∃ n d : ByteArray, RT q = .agg #[.string n, .string d] ∧ (n.toList == [48]) = decide (q.num = 0) := ⟨_, _, rfl, itoa_is0 q.num⟩
theorem sz200 {q : Rat} {k : Nat} (h : Sz q k) (hk : k ≤ 200) : Sz q 200 := sz_mono h hk
theorem sz500 {q : Rat} {k : Nat} (h : Sz q k) (hk : k ≤ 500) : Sz q 500 := sz_mono h hk
set_option maxRecDepth 100000 in
set_option maxHeartbeats 6400000 in
theorem law_field (A : Option Addr) (len c : Nat) (Ls : List Int) (w : World) (ho : Rd w (.slice A len c) Ls) (ht : Pow10 w) :
    Calls Tryz.prog 3 #[.slice A len c] w fun e w' => e = .returned (.bool true) ∧ Hid (Below w.heap.size w w') := by
  obtain ⟨w0, hw0, hb0, hk0⟩ : ∃ w0, w.alloc (.cells #[.slice A len c, .int .i64 0] 25) = w0 ∧ Below w.heap.size w w0 ∧ Blk w0 w.heap.size [.slice A len c, .int .i64 0] 25 := ⟨_, rfl, (Below.refl _ _).alloc (Nat.le_refl _) _, heap_alloc_new w _⟩
  have hst : St w0 w.heap.size (.slice A len c) Ls 0 := ⟨0, Nat.le_refl _, hk0, ho.below hb0, fun h0 e => by have := ho.lt h0 _ e; omega⟩
  have HB0 := Lib.hid hb0
  have ht0 := ht.below hb0
  have HP := Lib.hid (fun wx (k : KeepX w.heap.size w0 wx) => ht0.asks hst k)
  have HR1 := Lib.hid (Rat_st w.heap.size (.slice A len c) Ls 0 (by omega) w0 hst ht0)
  have HR2 := Lib.hid (fun wx (h : St wx w.heap.size (.slice A len c) Ls (0 + 8)) (hp : Pow10 wx) => Rat_st w.heap.size (.slice A len c) Ls (0 + 8) (by omega) wx h hp)
  have HR3 := Lib.hid (fun wx (h : St wx w.heap.size (.slice A len c) Ls (0 + 8 + 8)) (hp : Pow10 wx) => Rat_st w.heap.size (.slice A len c) Ls (0 + 8 + 8) (by omega) wx h hp)
  clear hb0 hk0 hst ho ht ht0
  go_enter Tryz.func3, Tryz.ntmps3
  go_upto_region 3 with (first | (go_at_call 4; have _g := HA2; clear _g; refine (HR3.out w2 HA2.out.2 (HP.out w2 (HA1.out.trans HA2.out).1)).mono ?_; rintro e w3 ⟨qc, rfl, HS3, HA3⟩; obtain ⟨cn, cd, hc, hc0⟩ := rt_parts qc; rw [hc]) | (go_at_call 4; have _g := HA1; clear _g; refine (HR2.out w1 HA1.out.2 (HP.out w1 HA1.out.1)).mono ?_; rintro e w2 ⟨qb, rfl, HS2, HA2⟩; obtain ⟨bn, bd, hb, hb0⟩ := rt_parts qb; rw [hb]) | (go_at_call 4; refine HR1.out.mono ?_; rintro e w1 ⟨qa, rfl, HS1, HA1⟩; obtain ⟨an, ad, ha, ha0⟩ := rt_parts qa; rw [ha]))
  have HBX := Lib.hid (show Below w.heap.size w w3 from ((HA1.out.trans HA2.out).trans HA3.out).1.below HB0.out (Nat.le_refl _))
  have HPX := Lib.hid (HP.out w3 ((HA1.out.trans HA2.out).trans HA3.out).1)
  obtain ⟨sn, sd, hs, -⟩ := rt_parts (qa + qb)
  obtain ⟨xn, xd, hx, -⟩ := rt_parts ((qa + qb) * qc)
  obtain ⟨pn, pd, hp, -⟩ := rt_parts (qa * qc)
  obtain ⟨qn, qd, hq, -⟩ := rt_parts (qb * qc)
  have s1 := sz_add HS1.out HS2.out
  have s2 := sz_mul HS1.out HS3.out
  have s3 := sz_mul HS2.out HS3.out
  have HADD := Lib.hid (fun wx (h : Pow10 wx) => num_Add_any qa qb (sz200 HS1.out (by omega)) (sz200 HS2.out (by omega)) (sz500 s1 (by omega)) wx h)
  have HMUL1 := Lib.hid (fun wx (h : Pow10 wx) => num_Mul_any (qa + qb) qc (sz200 s1 (by omega)) (sz200 HS3.out (by omega)) (sz500 (sz_mul s1 HS3.out) (by omega)) wx h)
  have HMUL2 := Lib.hid (fun wx (h : Pow10 wx) => num_Mul_any qa qc (sz200 HS1.out (by omega)) (sz200 HS3.out (by omega)) (sz500 s2 (by omega)) wx h)
  have HMUL3 := Lib.hid (fun wx (h : Pow10 wx) => num_Mul_any qb qc (sz200 HS2.out (by omega)) (sz200 HS3.out (by omega)) (sz500 s3 (by omega)) wx h)
  have HADD2 := Lib.hid (fun wx (h : Pow10 wx) => num_Add_any (qa * qc) (qb * qc) (sz200 s2 (by omega)) (sz200 s3 (by omega)) (sz500 (sz_add s2 s3) (by omega)) wx h)
  have HSUB := Lib.hid (fun wx (h : Pow10 wx) => num_Sub_any (qa + qb) qb (sz200 s1 (by omega)) (sz200 HS2.out (by omega)) (sz500 (sz_sub s1 HS2.out) (by omega)) wx h)
  have HDIV := Lib.hid (fun (h0 : qc ≠ 0) wx (h : Pow10 wx) => num_Div_any (qa * qc) qc h0 (sz200 s2 (by omega)) (sz200 HS3.out (by omega)) (sz500 (sz_div s2 HS3.out h0) (by omega)) wx h)
  have HD0 := Lib.hid (fun (h0 : qc ≠ 0) => congrArg RT (field_3 qa qc h0))
  have HC0 := Lib.hid hc0
  have HN0 := Lib.hid (show qc.num = 0 ↔ qc = 0 from Rat.num_eq_zero)
  simp only [← field_1, field_2] at HADD2 HSUB
  simp only [ha, hb, hc, hs, hx, hp, hq] at HADD HMUL1 HMUL2 HMUL3 HADD2 HSUB HDIV HD0
  obtain ⟨w4, hw4, hb4, hk4, hk5, hk6⟩ := blkThree w3 [.string an, .string ad] [.string bn, .string bd] [.string cn, .string cd] 27 27 27
  rw [← hw4]
  have HQ := Lib.hid (fun wx (h : Below w4.heap.size w4 wx) => And.intro (hk4.below h).cell (And.intro (hk5.below h).cell (hk6.below h).cell))
  have HB4 := Lib.hid (Below.refl w4.heap.size w4)
  have HW4 := Lib.hid (HBX.out.trans (hb4.mono HBX.out.size))
  have HPW := Lib.hid (fun wx (h : Below w4.heap.size w4 wx) => (HPX.out.below hb4).below h)
  clear hw4 hb4 hk4 hk5 hk6 ha hb hc hs hx hp hq ha0 hb0 hc0 s1 s2 s3 HR1 HR2 HR3 HS1 HS2 HS3 hw0
  obtain ⟨c4, c5, c6⟩ := HQ.out _ HB4.out
  go_upto_region 4 with (go_at_call 5; refine (HADD.out w4 (HPW.out _ HB4.out)).mono ?_; rintro e v5 ⟨rfl, hv5⟩)
  clear c4 c5 c6 
  obtain ⟨w5, hw, hbu, hku⟩ : ∃ w5, w5 = v5.alloc (.cells #[.string sn, .string sd] 27) ∧ Below v5.heap.size v5 w5 ∧ Blk w5 v5.heap.size [.string sn, .string sd] 27 := ⟨_, rfl, (Below.refl _ _).alloc (Nat.le_refl _) _, heap_alloc_new v5 _⟩
  rw [← hw]
  have HB5 := Lib.hid (show Below w4.heap.size w4 w5 from (HB4.out.trans (hv5.out.mono HB4.out.size)).trans (hbu.mono (Nat.le_trans HB4.out.size hv5.out.size)))
  have HK7 := Lib.hid hku
  clear hw hbu hku hv5
  obtain ⟨c4, c5, c6⟩ := HQ.out _ HB5.out
  have c7 := HK7.out.cell
  go_upto_region 5 with (go_at_call 6; refine (HMUL1.out w5 (HPW.out _ HB5.out)).mono ?_; rintro e v6 ⟨rfl, hv6⟩)
  clear c4 c5 c6 c7
  obtain ⟨w6, hw, hbu, hku⟩ : ∃ w6, w6 = v6.alloc (.cells #[.string xn, .string xd] 27) ∧ Below v6.heap.size v6 w6 ∧ Blk w6 v6.heap.size [.string xn, .string xd] 27 := ⟨_, rfl, (Below.refl _ _).alloc (Nat.le_refl _) _, heap_alloc_new v6 _⟩
  rw [← hw]
  have HB6 := Lib.hid (show Below w4.heap.size w4 w6 from (HB5.out.trans (hv6.out.mono HB5.out.size)).trans (hbu.mono (Nat.le_trans HB5.out.size hv6.out.size)))
  have HK7 := Lib.hid ((HK7.out.below hv6.out).below hbu)
  have HK9 := Lib.hid hku
  clear hw hbu hku hv6
  obtain ⟨c4, c5, c6⟩ := HQ.out _ HB6.out
  go_upto_region 6 with (go_at_call 6; refine (HMUL2.out w6 (HPW.out _ HB6.out)).mono ?_; rintro e v7 ⟨rfl, hv7⟩)
  clear c4 c5 c6 
  obtain ⟨w7, hw, hbu, hku⟩ : ∃ w7, w7 = v7.alloc (.cells #[.string pn, .string pd] 27) ∧ Below v7.heap.size v7 w7 ∧ Blk w7 v7.heap.size [.string pn, .string pd] 27 := ⟨_, rfl, (Below.refl _ _).alloc (Nat.le_refl _) _, heap_alloc_new v7 _⟩
  rw [← hw]
  have HB7 := Lib.hid (show Below w4.heap.size w4 w7 from (HB6.out.trans (hv7.out.mono HB6.out.size)).trans (hbu.mono (Nat.le_trans HB6.out.size hv7.out.size)))
  have HK7 := Lib.hid ((HK7.out.below hv7.out).below hbu)
  have HK9 := Lib.hid ((HK9.out.below hv7.out).below hbu)
  have HK11 := Lib.hid hku
  clear hw hbu hku hv7
  obtain ⟨c4, c5, c6⟩ := HQ.out _ HB7.out
  go_upto_region 7 with (go_at_call 6; refine (HMUL3.out w7 (HPW.out _ HB7.out)).mono ?_; rintro e v8 ⟨rfl, hv8⟩)
  clear c4 c5 c6 
  obtain ⟨w8, hw, hbu, hku⟩ : ∃ w8, w8 = v8.alloc (.cells #[.string qn, .string qd] 27) ∧ Below v8.heap.size v8 w8 ∧ Blk w8 v8.heap.size [.string qn, .string qd] 27 := ⟨_, rfl, (Below.refl _ _).alloc (Nat.le_refl _) _, heap_alloc_new v8 _⟩
  rw [← hw]
  have HB8 := Lib.hid (show Below w4.heap.size w4 w8 from (HB7.out.trans (hv8.out.mono HB7.out.size)).trans (hbu.mono (Nat.le_trans HB7.out.size hv8.out.size)))
  have HK7 := Lib.hid ((HK7.out.below hv8.out).below hbu)
  have HK9 := Lib.hid ((HK9.out.below hv8.out).below hbu)
  have HK11 := Lib.hid ((HK11.out.below hv8.out).below hbu)
  have HK13 := Lib.hid hku
  clear hw hbu hku hv8
  obtain ⟨c4, c5, c6⟩ := HQ.out _ HB8.out
  have c11 := HK11.out.cell
  have c13 := HK13.out.cell
  go_upto_region 8 with (go_at_call 5; refine (HADD2.out w8 (HPW.out _ HB8.out)).mono ?_; rintro e v9 ⟨rfl, hv9⟩)
  clear c4 c5 c6 c11 c13
  obtain ⟨w9, hw, hbu, hku⟩ : ∃ w9, w9 = v9.alloc (.cells #[.string xn, .string xd] 27) ∧ Below v9.heap.size v9 w9 ∧ Blk w9 v9.heap.size [.string xn, .string xd] 27 := ⟨_, rfl, (Below.refl _ _).alloc (Nat.le_refl _) _, heap_alloc_new v9 _⟩
  rw [← hw]
  have HB9 := Lib.hid (show Below w4.heap.size w4 w9 from (HB8.out.trans (hv9.out.mono HB8.out.size)).trans (hbu.mono (Nat.le_trans HB8.out.size hv9.out.size)))
  have HK7 := Lib.hid ((HK7.out.below hv9.out).below hbu)
  have HK9 := Lib.hid ((HK9.out.below hv9.out).below hbu)
  have HK11 := Lib.hid ((HK11.out.below hv9.out).below hbu)
  have HK13 := Lib.hid ((HK13.out.below hv9.out).below hbu)
  have HK15 := Lib.hid hku
  clear hw hbu hku hv9
  obtain ⟨c4, c5, c6⟩ := HQ.out _ HB9.out
  have c7 := HK7.out.cell
  go_upto_region 9 with (go_at_call 7; refine (HSUB.out w9 (HPW.out _ HB9.out)).mono ?_; rintro e v10 ⟨rfl, hv10⟩)
  clear c4 c5 c6 c7
  obtain ⟨w10, hw, hbu, hku⟩ : ∃ w10, w10 = v10.alloc (.cells #[.string an, .string ad] 27) ∧ Below v10.heap.size v10 w10 ∧ Blk w10 v10.heap.size [.string an, .string ad] 27 := ⟨_, rfl, (Below.refl _ _).alloc (Nat.le_refl _) _, heap_alloc_new v10 _⟩
  rw [← hw]
  have HB10 := Lib.hid (show Below w4.heap.size w4 w10 from (HB9.out.trans (hv10.out.mono HB9.out.size)).trans (hbu.mono (Nat.le_trans HB9.out.size hv10.out.size)))
  have HK7 := Lib.hid ((HK7.out.below hv10.out).below hbu)
  have HK9 := Lib.hid ((HK9.out.below hv10.out).below hbu)
  have HK11 := Lib.hid ((HK11.out.below hv10.out).below hbu)
  have HK13 := Lib.hid ((HK13.out.below hv10.out).below hbu)
  have HK15 := Lib.hid ((HK15.out.below hv10.out).below hbu)
  have HK17 := Lib.hid hku
  clear hw hbu hku hv10
  have HST := Lib.hid (stands_any w10 (HPW.out _ HB10.out))
  have e1 : (xn.toList == xn.toList) = true := beq_self_eq_true _
  have e2 : (xd.toList == xd.toList) = true := beq_self_eq_true _
  have e3 : (an.toList == an.toList) = true := beq_self_eq_true _
  have e4 : (ad.toList == ad.toList) = true := beq_self_eq_true _
  go_upto_region 11 with (go_at_call 8; refine HST.out.mono ?_; rintro e v11 ⟨rfl, hv⟩; have HB11 := Lib.hid (HB10.out.trans (hv.out.mono HB10.out.size)); obtain ⟨c4, c5, c6⟩ := HQ.out _ HB11.out; have HK7 := Lib.hid (HK7.out.below hv.out); have c7 := HK7.out.cell; have HK9 := Lib.hid (HK9.out.below hv.out); have c9 := HK9.out.cell; have HK11 := Lib.hid (HK11.out.below hv.out); have c11 := HK11.out.cell; have HK13 := Lib.hid (HK13.out.below hv.out); have c13 := HK13.out.cell; have HK15 := Lib.hid (HK15.out.below hv.out); have c15 := HK15.out.cell; have HK17 := Lib.hid (HK17.out.below hv.out); have c17 := HK17.out.cell)
  by_cases h0 : qc.num = 0
  · have ez : (cn.toList == [48]) = true := by rw [HC0.out]; simp [h0]
    go_wp2
    go_ret
    exact ⟨rfl, Lib.hid (HW4.out.trans (HB11.out.mono HW4.out.size))⟩
  · have ez : (cn.toList == [48]) = false := by rw [HC0.out]; simp [h0]
    have hq0 : qc ≠ 0 := fun e => h0 (HN0.out.2 e)
    have HDV := Lib.hid (HDIV.out hq0)
    have hd0 := HD0.out hq0
    simp only [hd0] at HDV
    clear hd0 hq0 h0
    go_upto_region 14 with (go_at_call 9; refine (HDV.out v11 (HPW.out _ HB11.out)).mono ?_; rintro e v12 ⟨rfl, hv12⟩)
    obtain ⟨w12, hw, hbu, hku⟩ : ∃ w12, w12 = v12.alloc (.cells #[.string an, .string ad] 27) ∧ Below v12.heap.size v12 w12 ∧ Blk w12 v12.heap.size [.string an, .string ad] 27 := ⟨_, rfl, (Below.refl _ _).alloc (Nat.le_refl _) _, heap_alloc_new v12 _⟩
    rw [← hw]
    have HB12 := Lib.hid (show Below w4.heap.size w4 w12 from (HB11.out.trans (hv12.out.mono HB11.out.size)).trans (hbu.mono (Nat.le_trans HB11.out.size hv12.out.size)))
    have z19 := hku.cell
    clear hw hbu hku hv12 c4 c5 c6 c7 c9 c11 c13 c15 c17
    obtain ⟨c4, c5, c6⟩ := HQ.out _ HB12.out
    go_wp2
    go_ret
    exact ⟨rfl, Lib.hid (HW4.out.trans (HB12.out.mono HW4.out.size))⟩
end Go.Proofs.YtgennilhbedmoaaGreatDoor
/-
  The argument opened; the row of a law; the table of the powers of ten.
-/
namespace Go.Proofs.YtgennilhbedmoaaGreatDoor
open Go.ChangeShapes Go.WideShapes Go.ChangeAt Go.RowKit Go.Deep

section
variable {H : Type} {enc : TypeId × Value → H} {P : Program}
theorem post_of_below {f : Func} {s : ChangeSpec} {apart fresh handsOn again : Bool} {W W' : World} {args : Array Value} {v : Value} {ds gs : List (DataW H)} {before : List MemPlace} {pa pv : List MemPlace}
    (hW : DataW.Whole enc P f.params.toList s.vars apart W args.toList ds gs before)
    (hres : ∀ (b : Nat) (sp : Nat → Bool) (hd : Bool), DataW.TrodAll enc P W' b sp hd f.resultTypes.toList (v.resultList f.resultTypes.size) (s.fn H (ds ++ gs)).results [])
    (hargs : ∀ sp : Nat → Bool, (∀ p ∈ before, sp p.block = true) → DataW.TrodAll enc P W' 0 sp true f.params.toList args.toList (s.fn H (ds ++ gs)).args pa)
    (hvars : ∀ sp : Nat → Bool, (∀ p ∈ before, sp p.block = true) → DataW.TrodVars enc P W' sp s.vars (s.fn H (ds ++ gs)).vars pv)
    (hps : before = pa ++ pv) (hb : Below W.heap.size W W')
    (hok : ∀ (j : Nat) (t : TypeId) (r : Value), f.resultTypes[j]? = some t → (v.resultList f.resultTypes.size)[j]? = some r → Value.okWide P W' .any 0 t r) :
    s.post enc P f apart fresh handsOn again W args v W' := by
  have hlt : ∀ p ∈ before, p.block < W.heap.size := fun p hp => hW.lt p hp
  have hold : ∀ p ∈ before, (fun b => decide (b < W.heap.size)) p.block = true := fun p hp => by simpa using hlt p hp
  refine ⟨ds, gs, before, [], pa, pv, hW, hres _ _ _, hargs _ hold, hvars _ hold, World.keptBut_mono (fun p hp => ⟨hp, ?_⟩) (hb.frame (· ∈ before)), fun _ => ?_⟩
  · rw [hps, List.mem_append] at hp
    exact Or.inr hp
  · obtain ⟨_, _, _, _, _, hz, hn⟩ := hW
    refine ⟨hok, _, _, ([] ++ pa) ++ pv, ⟨[] ++ pa, pv, trodAll_append (hargs _ (fun _ _ => rfl)) (hres _ _ _), hvars _ (fun _ _ => rfl), rfl, ?_, ?_⟩, ?_⟩
    · intro b off hp
      have hin : MemPlace.cell b off ∈ before := by rw [hps]; simpa using hp
      rw [hb.frozen (hlt _ hin)]
      exact hz b off hin
    · intro ha
      have := hn ha
      rw [hps] at this
      simpa using this
    · intro p hp _
      rw [hps]
      simpa using hp
end

theorem rowLaidOut : laidOutB Tryz.prog = true := by kernel_rfl
theorem rowTypes : ([22].all fun t => Tryz.prog.readableRec t && decide (t < Tryz.prog.types.size)) = true := by kernel_rfl
theorem rowCells3 : Tryz.prog.cellsOf 3 = 1 := by kernel_rfl
theorem rowCells22 : Tryz.prog.cellsOf 22 = 1 := by kernel_rfl

section
variable {H : Type} {enc : TypeId × Value → H} {W W' : World}
theorem trod_again (hb : Below W.heap.size W W') (sp : Nat → Bool) : ∀ {ts : List TypeId} {vs : List Value} {ds : List (DataW H)} {ps : List MemPlace}, (∀ t ∈ ts, t ∈ [22]) → DataW.TrodAll enc Tryz.prog W 0 (fun _ => true) true ts vs ds ps → (∀ x ∈ ps, x.block < W.heap.size) → (∀ x ∈ ps, sp x.block = true) → DataW.TrodAll enc Tryz.prog W' 0 sp true ts vs ds ps
  | [], [], [], _, _, h, _, _ => h
  | t :: _, _ :: _, _ :: _, _, hT, ⟨p, q, h1, h2, e⟩, hlt, hs => by
    have ht := List.all_eq_true.1 rowTypes t (hT t (List.mem_cons.2 (Or.inl rfl)))
    simp only [Bool.and_eq_true, decide_eq_true_eq] at ht
    exact ⟨p, q, WideElems.Trod_stays rowLaidOut ht.1 ht.2 h1 (fun x hx => hb.same (hlt x (by rw [e]; exact List.mem_append_left _ hx))) (fun x hx => hs x (by rw [e]; exact List.mem_append_left _ hx)),
      trod_again hb sp (fun t ht => hT t (List.mem_cons.2 (Or.inr ht))) h2 (fun x hx => hlt x (by rw [e]; exact List.mem_append_right _ hx)) (fun x hx => hs x (by rw [e]; exact List.mem_append_right _ hx)), e⟩
theorem open_i {n : Nat} {v : Value} {y : DataW H × List MemPlace} (h : DataW.trod enc Tryz.prog W 0 (fun _ => true) true n 3 [v] = some y) : ∃ x, v = .int .i64 x := by
  obtain ⟨x, hc, -, -⟩ := DataW.trod_int Tryz.underlying3 h
  exact ⟨x, by simpa using hc⟩
theorem open_rd {n : Nat} {v : Value} {y : DataW H × List MemPlace} (h : DataW.trod enc Tryz.prog W 0 (fun _ => true) true n 22 [v] = some y) : ∃ A c, ∃ l : List Int, v = .slice A l.length c ∧ Rd W v l := by
  rcases open_ints Tryz.underlying22 Tryz.underlying3 rowCells3 h with ⟨hcs, hx⟩ | ⟨a, len, cap, zs, hcs, _, hl, hm, hz, hx, hcell, hwz⟩
  · have : v = .slice none 0 0 := by simpa using hcs
    exact ⟨none, 0, [], this, by rw [this]; exact Rd.nil W⟩
  · have hv : v = .slice (some a) len cap := by simpa using hcs
    simp only [if_true] at hz
    have hlen : (zs.take len).length = len := by rw [List.length_take]; omega
    refine ⟨some a, cap, zs.take len, by rw [hlen]; exact hv, some a, cap, by rw [hlen]; exact hv, by rw [hlen]; exact hl, hm, fun hpos => ?_⟩
    rw [hlen] at hpos
    obtain ⟨b, off, spot⟩ := a
    have hspot : spot = none := by simpa [Addr.add] using World.cell?_spot (hcell 0 (by omega))
    subst hspot
    refine ⟨b, off, rfl, fun i hi => ?_⟩
    rw [hlen] at hi
    rw [← Go.Proofs.YtgennilhbedmoaaGreatDoor.add_plain, hcell i (by omega)]
    simp [List.getD, List.getElem?_eq_getElem (show i < zs.length by omega)]
end
theorem pow10_laid {W : World} (h : laidMet Tryz.prog Rows.numFieldRow.laid W) : Pow10 W := by
  obtain ⟨ps, h, -⟩ := h
  have h : DataW.LaidVars Tryz.prog W [("math/bits.deBruijn32tab", Rows.laid_math_bits_deBruijn32tab), ("math/bits.deBruijn64tab", Rows.laid_math_bits_deBruijn64tab), ("internal/strconv.uint64pow10", Rows.laid_internal_strconv_uint64pow10), ("unicode/utf8.acceptRanges", Rows.laid_unicode_utf8_acceptRanges), ("strconv.ErrRange", Rows.laid_strconv_ErrRange), ("strconv.ErrSyntax", Rows.laid_strconv_ErrSyntax), ("unicode/utf8.first", Rows.laid_unicode_utf8_first)] ps := h
  obtain ⟨g1, t1, cs1, f1, p1, q1, -, -, -, -, h, -⟩ := h
  obtain ⟨g2, t2, cs2, f2, p2, q2, -, -, -, -, h, -⟩ := h
  obtain ⟨g, t, cs, fuel, p, q, hg, hty, hvar, hd, -, -⟩ := h
  have hg' : Tryz.prog.globalNamed "internal/strconv.uint64pow10" = some 0 := by kernel_rfl
  obtain rfl := Option.some.inj (hg'.symm.trans hg)
  have ht' : (Tryz.prog.globals[0]?).map (·.type) = some 188 := by kernel_rfl
  obtain rfl := Option.some.inj (ht'.symm.trans hty)
  have hd' : DataW.trod (fun _ => ()) Tryz.prog W 0 (fun _ => true) false fuel 188 cs.toList = some (Lib.tabData .u64 Lib.pow10Tab, p) := hd
  unfold Pow10 Lib.TabIs
  rw [hvar, ← Lib.cells_of_tab Tryz.underlying188 Tryz.underlying82 (by kernel_rfl) (by kernel_rfl) hd']
end Go.Proofs.YtgennilhbedmoaaGreatDoor
/-
  Proved: for every list of numbers NumField returns true: the rules of arithmetic hold for the numbers that it makes of the list, and what it reads reads behind the call as it did before.
  Conditions: none beyond those of the given row.
-/
namespace Go.Proofs.YtgennilhbedmoaaGreatDoor
open Go.ChangeShapes Go.WideShapes Go.ChangeAt Go.RowKit

theorem fieldOwn : ownKnob Tryz.prog.godebug = none := by kernel_rfl
set_option maxRecDepth 100000 in
theorem field_row {H : Type} {enc : TypeId × Value → H} {W : World} {args : Array Value} {ds gs : List (DataW H)} {before : List MemPlace}
    {base : Nat} (hval : ∀ (j : Nat) t v, Tryz.f3.params[j]? = some t → args[j]? = some v → Value.okWide Tryz.prog W .any base t v)
    (hW : DataW.Whole enc Tryz.prog Tryz.f3.params.toList Rows.numFieldSpec.vars false W args.toList ds gs before) (ht : Pow10 W) :
    Calls Tryz.prog 3 args W fun e W' => ∃ v, e = .returned v ∧ Rows.numFieldSpec.post enc Tryz.prog Tryz.f3 false true false false W args v W' := by
  have hW' := hW
  obtain ⟨p, q, hA, hV, rfl, hfz, hnd⟩ := hW
  have hA' := hA
  rw [Tryz.params3] at hA hval
  obtain ⟨v0, vs0, d0, ds0, p0, q0, hargs, rfl, rfl, h0, r0⟩ := trodAll_cons hA
  obtain ⟨rfl, rfl, rfl⟩ := trodAll_nil r0
  obtain rfl : args = #[v0] := by cases args; simp_all
  obtain ⟨rfl, rfl⟩ := trodVars_none hV
  obtain ⟨A, len, c, rfl⟩ := okWide_slice Tryz.underlying22 (hval 0 22 v0 rfl rfl)
  obtain ⟨fuel, hf⟩ := h0
  obtain ⟨A', c', l, hv0, ho⟩ := open_rd (v := .slice A len c) (by simpa [Value.cells] using hf)
  refine (law_field A len c l W (by rw [hv0]; rw [hv0] at ho; exact ho) ht).mono fun e W' ⟨he, hb⟩ => ?_
  subst he
  have hlt : ∀ z ∈ p0 ++ [], z.block < W.heap.size := fun z hz => hW'.lt z (by simpa using hz)
  refine ⟨_, rfl, post_of_below (pa := p0 ++ []) (pv := []) hW' (fun b sp hd => ?_) (fun sp hsp => ?_) (fun _ _ => rfl) rfl hb.out (ok_one (by kernel_rfl) rfl (okWide_bool_mk Tryz.underlying4 _))⟩
  · exact trodAll_mk1 (shut_bool Tryz.underlying4 _)
  · exact trod_again hb.out sp (by rw [Tryz.params3]; decide) hA' hlt (fun z hz => hsp z (by simpa using hz))

set_option maxRecDepth 100000 in
theorem field_lifted (os : Os) (started : os.Started) (H : Type) (enc : TypeId × Value → H) :
    ReturnsInHanded {} Tryz.checked os 3 .any (fun w args => (Rows.numFieldSpec.pre enc Tryz.prog Tryz.f3 [] false w args ∧ laidMetH Tryz.prog Rows.numFieldRow.laid w) ∧ sizedMet enc Tryz.prog Tryz.f3 (OpenSpec.ofChange Rows.numFieldSpec) false w args)
      (Rows.numFieldSpec.post enc Tryz.prog Tryz.f3 false true false false) := by
  refine returnsInHanded_of_change_and (C := Tryz.checked) (X := fun w _ => laidMetH Tryz.prog Rows.numFieldRow.laid w) (fun _ _ _ hh h => h.of_heap hh) fieldOwn started (by kernel_rfl) Tryz.func3
    (ChangeSpec.witness_shaped (enc := enc) (C := Tryz.checked) (os := os) (X := fun w _ => laidMetH Tryz.prog Rows.numFieldRow.laid w) false (World.laidAll Tryz.prog os Rows.numFieldRow.laid) #[.slice none 0 0] 8 (World.laidAll_os _ _ _)
      (World.shaped_of_ZipB (by kernel_rfl) (by kernel_rfl)) (by kernel_rfl) (by kernel_rfl) (by kernel_rfl)
      (by rw [MakeChecks.laidMetH_plain _ _ _ (by kernel_rfl)]; exact laidMet_laidAll _ (by kernel_rfl) (by kernel_rfl))) ?_
  intro W base args ds gs before hval hW _ _ hX _
  rw [MakeChecks.laidMetH_plain _ _ _ (by kernel_rfl)] at hX
  exact field_row hval hW (pow10_laid hX)

theorem numField_said : Rows.NumFieldSaid :=
  OpenClaim.holds_of_wide 3 Tryz.f3 rfl rfl rfl rfl rfl rfl rfl ⟨rfl, rfl, rfl, rfl, rfl⟩ rfl rfl rfl rfl rfl (by kernel_rfl) Tryz.func3 (by kernel_rfl)
    (of_decide_eq_true (by kernel_rfl)) (by unfold Func.isWrapper; first | (rw [if_pos (by decide +kernel)]; kernel_rfl) | (rw [if_neg (by decide +kernel)]; exact ⟨rfl, rfl⟩))
    (fun os started H enc _ => field_lifted os started H enc)

theorem numField_holds : Rows.NumFieldCardSaid :=
  Claim7.holds_tied_plain_at .later [] [.data, .data, .data, .data, .sentinel, .sentinel, .pinned] true (true, "82b88ee8b50d92b7e105924d632d5cc88cd6b088525fd85049c0fc36b8132704") true numField_said (fun _ h => by cases h) (by kernel_rfl) (fun _ h => by cases h) numField_row_tie rfl ⟨rfl, rfl⟩ (by kernel_rfl) rfl
    (fun f fn hf hfn => by
      obtain rfl : f = 3 := Option.some.inj ((show Tryz.prog.funcNamed "weftworks/weftkeep1.NumField" = some 3 by kernel_rfl).symm.trans hf) |>.symm
      obtain rfl : fn = Tryz.f3 := (Option.some.inj (Tryz.func3.symm.trans hfn)).symm
      exact ⟨by kernel_rfl, fun j t ht => by
        rw [Tryz.params3] at ht
        have hm : t ∈ [22] := by simpa using Array.mem_of_getElem? ht
        have hall : ([22].all fun u => !Tryz.prog.wantsStandIn u) = true := by kernel_rfl
        exact (show Tryz.prog.wantsStandIn t = false by simpa using List.all_eq_true.1 hall t hm)⟩)
    (by kernel_rfl)
#print axioms numField_holds
end Go.Proofs.YtgennilhbedmoaaGreatDoor
