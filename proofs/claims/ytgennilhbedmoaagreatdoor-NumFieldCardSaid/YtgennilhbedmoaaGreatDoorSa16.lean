/-
  num: Check of the texts of a number.
  num: two, and Add.
  frac: Mul.
  The sizes of sums, products and quotients; the rules of arithmetic; texts of numbers with many digits.
-/
import Derived.Test.YtgennilhbedmoaaGreatDoorSa11
import Derived.Test.YtgennilhbedmoaaGreatDoorSa12
import Derived.Test.YtgennilhbedmoaaGreatDoorSa15
/-
  num: Check of the texts of a number.
-/
namespace Go.Proofs.YtgennilhbedmoaaGreatDoor
open Go.RowKit KeepPlain

theorem dec_is (u k : Nat) (hk : k < 10) : ((⟨(Lib.decDigits u).toArray⟩ : ByteArray).toList == [UInt8.ofNat (48 + k)]) = decide (u = k) := by
  have e : (⟨(Lib.decDigits u).toArray⟩ : ByteArray).toList = Lib.decDigits u := by rw [ByteArray.toList_eq]
  rw [e, ← dec_small hk]
  by_cases h : u = k
  · subst h; simp
  · rw [decide_eq_false h]
    exact beq_eq_false_iff_ne.2 (fun h2 => h (dec_inj h2))
theorem rat_den_one {q : Rat} (h : q.num = 0) : q.den = 1 := by
  have := q.reduced
  rw [h] at this
  simpa using this
set_option maxRecDepth 100000 in
set_option maxHeartbeats 3200000 in
theorem check_any (q : Rat) (hs : Sz q 200) (w : World) : Calls Tryz.prog 22 #[RT q] w fun e w' => e = .returned (.int .i64 0) ∧ Hid (Below w.heap.size w w') := by
  obtain ⟨h1, h2⟩ := hs
  have hl1 := dec_len_nd h1
  have hl2 := dec_len_nd h2
  have cD0 := dec_is q.den 0 (by omega)
  have cD1 := dec_is q.den 1 (by omega)
  have cA0 := dec_is q.num.natAbs 0 (by omega)
  rw [decide_eq_false q.den_nz] at cD0
  have hA : (q.num.natAbs = 0) = (q.num = 0) := by simp
  simp only [hA] at cA0
  have hcop : Nat.gcd q.num.natAbs q.den = 1 := q.reduced
  have HC := Lib.hid (fun wx => cut_any q.num wx)
  have HD1 := Lib.hid (fun wx => digits_any q.num.natAbs (by omega) wx)
  have HD2 := Lib.hid (fun wx => digits_any q.den (by omega) wx)
  have HP1 := Lib.hid (fun wx => parse_any (Lib.decDigits q.num.natAbs) (dec_dig _) (by omega) wx)
  have HP2 := Lib.hid (fun wx => parse_any (Lib.decDigits q.den) (dec_dig _) (by omega) wx)
  rw [dec_dv] at HP1 HP2
  have HG := Lib.hid (fun u v wx (hu : NV wx u q.num.natAbs) (hv : NV wx v q.den) => gcd_any q.num.natAbs q.den u v wx hu hv (by omega) (by omega))
  rw [hcop] at HG
  have HO := Lib.hid (fun v wx (h : NV wx v 1) => one_any 1 v wx h)
  have hz1 := @rat_den_one q
  have hn0 : q.num = 0 → decide (q.num < 0) = false := fun h => by rw [h]; rfl
  unfold RT
  generalize (⟨(Lib.itoa q.num).toArray⟩ : ByteArray) = NS at *
  generalize (⟨(Lib.decDigits q.den).toArray⟩ : ByteArray) = DS at *
  generalize (⟨(Lib.decDigits q.num.natAbs).toArray⟩ : ByteArray) = AS at *
  generalize decide (q.num < 0) = ng at *
  obtain ⟨w0, hw0, hb0, hk0⟩ : ∃ w0, w.alloc (.cells #[.string NS, .string DS] 27) = w0 ∧ Below w.heap.size w w0 ∧ Blk w0 w.heap.size [.string NS, .string DS] 27 := ⟨_, rfl, (Below.refl _ _).alloc (Nat.le_refl _) _, heap_alloc_new w _⟩
  have HB0 := Lib.hid hb0
  have HQ := Lib.hid (fun (wx : World) (hb : Below w0.heap.size w0 wx) => (hk0.below hb).cell)
  have q0 := hk0.cell
  clear hb0 hk0 h1 h2 hl1 hl2 hcop hA
  simp only [show UInt8.ofNat (48 + 0) = 48 from rfl, show UInt8.ofNat (48 + 1) = 49 from rfl] at cD0 cD1 cA0
  by_cases hd : q.den = 1
  · rw [decide_eq_true hd] at cD1
    clear HP1 HP2 HG HO hz1
    by_cases hn : q.num = 0
    · rw [decide_eq_true hn] at cA0
      have hng := hn0 hn
      subst hng
      clear hn hn0 hd
      go_enter Tryz.func22, Tryz.ntmps22
      go_wp2_with (first | (go_at_call 40; refine (HC.out w0).mono ?_; rintro e wz ⟨rfl, hz⟩; subst wz) | (go_at_call 41; have _g := HD1; refine (HD1.out w0).mono ?_; clear HD1; rintro e w1 ⟨rfl, HB1⟩; have q1 := HQ.out w1 HB1.out) | (go_at_call 41; refine (HD2.out w1).mono ?_; rintro e w2 ⟨rfl, HB2'⟩; have HB2 := Lib.hid (HB1.out.trans (HB2'.out.mono HB1.out.size)); have q2 := HQ.out w2 HB2.out))
      go_ret
      exact ⟨rfl, Lib.hid (HB0.out.trans (HB2.out.mono HB0.out.size))⟩
    · rw [decide_eq_false hn] at cA0
      clear hn hn0 hd
      go_enter Tryz.func22, Tryz.ntmps22
      go_upto_region 7 with (first | (go_at_call 40; refine (HC.out w0).mono ?_; rintro e wz ⟨rfl, hz⟩; subst wz) | (go_at_call 41; have _g := HD1; refine (HD1.out w0).mono ?_; clear HD1; rintro e w1 ⟨rfl, HB1⟩; have q1 := HQ.out w1 HB1.out) | (go_at_call 41; refine (HD2.out w1).mono ?_; rintro e w2 ⟨rfl, HB2'⟩; have HB2 := Lib.hid (HB1.out.trans (HB2'.out.mono HB1.out.size)); have q2 := HQ.out w2 HB2.out))
      clear hw0 q0 q1
      go_quiet (fail)
      go_wp2
      go_ret
      exact ⟨rfl, Lib.hid (HB0.out.trans ((below_drewN HB2.out _).mono HB0.out.size))⟩
  · rw [decide_eq_false hd] at cD1
    have hn : ¬ q.num = 0 := fun h => hd (hz1 h)
    rw [decide_eq_false hn] at cA0
    clear hn hn0 hd hz1
    go_enter Tryz.func22, Tryz.ntmps22
    go_upto_region 7 with (first | (go_at_call 40; refine (HC.out w0).mono ?_; rintro e wz ⟨rfl, hz⟩; subst wz) | (go_at_call 41; have _g := HD1; refine (HD1.out w0).mono ?_; clear HD1; rintro e w1 ⟨rfl, HB1⟩; have q1 := HQ.out w1 HB1.out) | (go_at_call 41; refine (HD2.out w1).mono ?_; rintro e w2 ⟨rfl, HB2'⟩; have HB2 := Lib.hid (HB1.out.trans (HB2'.out.mono HB1.out.size)); have q2 := HQ.out w2 HB2.out))
    clear hw0 q0 q1 q2
    go_region_held3 (fun wy : World => ∀ o, wy.cell? ⟨w.heap.size, o, none⟩ = ([Value.string NS, .string DS] : List Value)[o]?) (first | exact HQ.out _ HB5.out | exact HQ.out _ HB4.out | exact HQ.out _ HB3.out | exact HQ.out _ HB2.out.drew | exact HQ.out _ HB2.out) (first | (go_at_call 29; refine (HO.out _ w5 HN5.out).mono ?_; rintro e wz ⟨rfl, hz⟩; subst wz; dsimp only) | (go_at_call 42; refine (HG.out _ _ w4 HN3.out HN4.out).mono ?_; rintro e w5 ⟨v5, rfl, HN5, HB5'⟩; have HB5 := Lib.hid (HB4.out.trans (HB5'.out.mono HB4.out.size)); dsimp only) | (go_at_call 43; have _g := HB3; clear _g; refine (HP2.out w3).mono ?_; rintro e w4 ⟨v4, rfl, HN4, HB4'⟩; have HB4 := Lib.hid (HB3.out.trans (HB4'.out.mono HB3.out.size)); have HN3 := Lib.hid (HN3'.out.below HB4'.out); dsimp only) | (go_at_call 43; refine (HP1.out w2.drew).mono ?_; rintro e w3 ⟨v3, rfl, HN3', HB3'⟩; have HB3 : Hid (Below w0.heap.size w0 w3) := Lib.hid (HB2.out.trans ((below_undrew HB3'.out).mono HB2.out.size)); dsimp only))
    go_wp2
    go_ret
    exact ⟨rfl, Lib.hid (HB0.out.trans (HB5.out.mono HB0.out.size))⟩
end Go.Proofs.YtgennilhbedmoaaGreatDoor
/-
  num: two, and Add.
-/
namespace Go.Proofs.YtgennilhbedmoaaGreatDoor
open Go.RowKit KeepPlain

theorem results_rat3 {fn : Func} {a u : Tmp} (hf : fn.results = #[.cell a 27, .tmp u]) (tmps : Array Value) (w : World) (r : Nat) (x y z : Value) (hr : tmps.getD a undef = .pointer (some ⟨r, 0, none⟩)) (hu : tmps.getD u undef = z) (h : Blk w r [x, y] 27) :
    (results fn tmps).run Tryz.prog w = .ok (.tuple #[.agg #[x, y], z]) w := by rw [← hu]; exact results_rat2 hf tmps w r x y hr h
/-- What a function of two numbers answers. -/
def Two (F : Nat) (qa qb qc : Rat) : Prop := ∀ (a b : Value) (w : World), FV w a qa → FV w b qb → Calls Tryz.prog F #[a, b] w fun e w' => ∃ v, e = .returned v ∧ Hid (FV w' v qc) ∧ Hid (Below w.heap.size w w')
set_option maxRecDepth 100000 in
set_option maxHeartbeats 3200000 in
theorem two_Add (qa qb qc : Rat) (hF : Two 17 qa qb qc) (hsa : Sz qa 200) (hsb : Sz qb 200) (hsc : Sz qc 500) (w : World) (ht : Pow10 w) :
    Calls Tryz.prog 16 #[RT qa, RT qb, .func (.func 17) #[] #[]] w fun e w' => e = .returned (.tuple #[RT qc, .int .i64 0]) ∧ Hid (Below w.heap.size w w') := by
  have HC1 := Lib.hid (fun wx => check_any qa hsa wx)
  have HC2 := Lib.hid (fun wx => check_any qb hsb wx)
  have HO1 := Lib.hid (fun wx => fof_any qa hsa wx)
  have HO2 := Lib.hid (fun wx => fof_any qb hsb wx)
  have HA := Lib.hid (fun a b wx (ha : FV wx a qa) (hb : FV wx b qb) => hF a b wx ha hb)
  have HR := Lib.hid (fun v wx (h : FV wx v qc) (hp : Pow10 wx) => rat_any qc hsc v wx h hp)
  unfold RT at HC1 HC2 HO1 HO2 HR ⊢
  generalize (⟨(Lib.itoa qa.num).toArray⟩ : ByteArray) = NA at *
  generalize (⟨(Lib.decDigits qa.den).toArray⟩ : ByteArray) = DA at *
  generalize (⟨(Lib.itoa qb.num).toArray⟩ : ByteArray) = NB at *
  generalize (⟨(Lib.decDigits qb.den).toArray⟩ : ByteArray) = DB at *
  generalize (⟨(Lib.itoa qc.num).toArray⟩ : ByteArray) = NC at *
  generalize (⟨(Lib.decDigits qc.den).toArray⟩ : ByteArray) = DC at *
  obtain ⟨w0, hw0, hb0, hk0, hk1, hk2⟩ : ∃ w0, ((w.alloc (.cells #[.string NA, .string DA] 27)).alloc (.cells #[.string NB, .string DB] 27)).alloc (.cells #[.string ⟨#[]⟩, .string ⟨#[]⟩] 27) = w0 ∧ Below w.heap.size w w0 ∧ Blk w0 w.heap.size [.string NA, .string DA] 27 ∧ Blk w0 (w.heap.size + 1) [.string NB, .string DB] 27 ∧ Blk w0 (w.heap.size + 1 + 1) [.string ⟨#[]⟩, .string ⟨#[]⟩] 27 := by
    refine ⟨_, rfl, (((Below.refl _ _).alloc (Nat.le_refl _) _).alloc (by simp only [World.size_alloc]; omega) _).alloc (by simp only [World.size_alloc]; omega) _, ((news_blk w [.string NA, .string DA] 27).alloc _).alloc _, ?_, ?_⟩
    · have := (news_blk (w.alloc (.cells #[.string NA, .string DA] 27)) [.string NB, .string DB] 27).alloc (.cells #[.string ⟨#[]⟩, .string ⟨#[]⟩] 27)
      simp only [World.size_alloc] at this
      exact this
    · have := news_blk ((w.alloc (.cells #[.string NA, .string DA] 27)).alloc (.cells #[.string NB, .string DB] 27)) [.string ⟨#[]⟩, .string ⟨#[]⟩] 27
      simp only [World.size_alloc] at this
      exact this
  have HB0 := Lib.hid hb0
  have HK2 := Lib.hid hk2
  have HP := Lib.hid (fun (wx : World) (hb : Below w0.heap.size w0 wx) => (ht.below hb0).below hb)
  have HS := Lib.hid (fun (wx : World) (hb : Below w0.heap.size w0 wx) => show (∀ o, wx.cell? ⟨w.heap.size, o, none⟩ = ([Value.string NA, .string DA] : List Value)[o]?) ∧ (∀ o, wx.cell? ⟨w.heap.size + 1, o, none⟩ = ([Value.string NB, .string DB] : List Value)[o]?) from ⟨(hk0.below hb).cell, (hk1.below hb).cell⟩)
  have HT := Lib.hid (fun (wx : World) (hb : Below w0.heap.size w0 wx) (x y : Value) => show (∀ o, (setR wx (w.heap.size + 1 + 1) x y).cell? ⟨w.heap.size, o, none⟩ = ([Value.string NA, .string DA] : List Value)[o]?) ∧ (∀ o, (setR wx (w.heap.size + 1 + 1) x y).cell? ⟨w.heap.size + 1, o, none⟩ = ([Value.string NB, .string DB] : List Value)[o]?) from ⟨(((hk0.below hb).far (by simp; omega) _).far (by simp; omega) _).cell, (((hk1.below hb).far (by simp) _).far (by simp) _).cell⟩)
  have s0 := hk0.cell
  clear hb0 hk0 hk1 hk2 ht hF hsa hsb hsc
  go_enter Tryz.func16, Tryz.ntmps16
  go_upto_region 7 with (first | (go_at_call 22; have _g := HB1; clear _g; refine (HC2.out w1).mono ?_; rintro e w2 ⟨rfl, HB2'⟩; have HB2 := Lib.hid (HB1.out.trans (HB2'.out.mono HB1.out.size))) | (go_at_call 22; refine (HC1.out w0).mono ?_; rintro e w1 ⟨rfl, HB1⟩; obtain ⟨s0, s1⟩ := HS.out w1 HB1.out))
  clear hw0 s0 s1
  go_region_held3 (fun wy : World => (∀ o, wy.cell? ⟨w.heap.size, o, none⟩ = ([Value.string NA, .string DA] : List Value)[o]?) ∧ (∀ o, wy.cell? ⟨w.heap.size + 1, o, none⟩ = ([Value.string NB, .string DB] : List Value)[o]?)) (first | exact HT.out _ HB6.out _ _ | exact HS.out _ HB6.out | exact HS.out _ HB5.out | exact HS.out _ HB4.out | exact HS.out _ HB3.out | exact HS.out _ HB2.out.drew | exact HS.out _ HB2.out) (first | (go_at_call 28; refine (HR.out _ w5 HF5.out (HP.out _ HB5.out)).mono ?_; rintro e w6 ⟨rfl, HB6'⟩; have HB6 := Lib.hid (HB5.out.trans (HB6'.out.mono HB5.out.size)); have q6 := (HK2.out.below HB6.out).cell; have r6 := (HK2.out.below HB6.out).frozen; dsimp only) | (go_at_call 27; have _g := HB3; clear _g; refine (HO2.out w3).mono ?_; rintro e w4 ⟨v4, rfl, HF4, HB4'⟩; have HB4 := Lib.hid (HB3.out.trans (HB4'.out.mono HB3.out.size)); have HF3 := Lib.hid (HF3'.out.below HB4'.out); dsimp only) | (go_at_call 27; refine (HO1.out w2.drew).mono ?_; rintro e w3 ⟨v3, rfl, HF3', HB3'⟩; have HB3 : Hid (Below w0.heap.size w0 w3) := Lib.hid (HB2.out.trans ((below_undrew HB3'.out).mono HB2.out.size)); dsimp only) | (go_at_call 17; refine (HA.out _ _ w4 HF3.out HF4.out).mono ?_; rintro e w5 ⟨v5, rfl, HF5, HB5'⟩; have HB5 := Lib.hid (HB4.out.trans (HB5'.out.mono HB4.out.size)); dsimp only))
  go_wp2
  have HK6 := HK2.out.below HB6.out
  refine bodyPost_ret (results_rat2 rfl _ _ (w.heap.size + 1 + 1) _ _ rfl (blkR w6 _ _ _ _ _ HK6)) rfl ?_
  exact ⟨rfl, Lib.hid ((HB0.out.trans (HB6.out.mono HB0.out.size)).trans ((belowR _ _ _ _).mono (by omega)))⟩
set_option maxRecDepth 100000 in
set_option maxHeartbeats 1600000 in
theorem num_Add_any (qa qb : Rat) (hsa : Sz qa 200) (hsb : Sz qb 200) (hsc : Sz (qa + qb) 500) (w : World) (ht : Pow10 w) :
    Calls Tryz.prog 5 #[RT qa, RT qb] w fun e w' => e = .returned (.tuple #[RT (qa + qb), .int .i64 0]) ∧ Hid (Below w.heap.size w w') := by
  have HC := Lib.hid (fun wx (hp : Pow10 wx) => two_Add qa qb (qa + qb) (fun a b wx ha hb => fadd_any qa qb a b wx ha hb hsa hsb) hsa hsb hsc wx hp)
  generalize qa + qb = qc at *
  unfold RT at HC ⊢
  generalize (⟨(Lib.itoa qa.num).toArray⟩ : ByteArray) = NA at *
  generalize (⟨(Lib.decDigits qa.den).toArray⟩ : ByteArray) = DA at *
  generalize (⟨(Lib.itoa qb.num).toArray⟩ : ByteArray) = NB at *
  generalize (⟨(Lib.decDigits qb.den).toArray⟩ : ByteArray) = DB at *
  generalize (⟨(Lib.itoa qc.num).toArray⟩ : ByteArray) = NC at *
  generalize (⟨(Lib.decDigits qc.den).toArray⟩ : ByteArray) = DC at *
  obtain ⟨w0, hw0, hb0, hk0, hk1, hk2⟩ : ∃ w0, ((w.alloc (.cells #[.string NA, .string DA] 27)).alloc (.cells #[.string NB, .string DB] 27)).alloc (.cells #[.string ⟨#[]⟩, .string ⟨#[]⟩] 27) = w0 ∧ Below w.heap.size w w0 ∧ Blk w0 w.heap.size [.string NA, .string DA] 27 ∧ Blk w0 (w.heap.size + 1) [.string NB, .string DB] 27 ∧ Blk w0 (w.heap.size + 1 + 1) [.string ⟨#[]⟩, .string ⟨#[]⟩] 27 := by
    refine ⟨_, rfl, (((Below.refl _ _).alloc (Nat.le_refl _) _).alloc (by simp only [World.size_alloc]; omega) _).alloc (by simp only [World.size_alloc]; omega) _, ((news_blk w [.string NA, .string DA] 27).alloc _).alloc _, ?_, ?_⟩
    · have := (news_blk (w.alloc (.cells #[.string NA, .string DA] 27)) [.string NB, .string DB] 27).alloc (.cells #[.string ⟨#[]⟩, .string ⟨#[]⟩] 27)
      simp only [World.size_alloc] at this
      exact this
    · have := news_blk ((w.alloc (.cells #[.string NA, .string DA] 27)).alloc (.cells #[.string NB, .string DB] 27)) [.string ⟨#[]⟩, .string ⟨#[]⟩] 27
      simp only [World.size_alloc] at this
      exact this
  have HB0 := Lib.hid hb0
  have HK2 := Lib.hid hk2
  have HC := Lib.hid (HC.out w0 (ht.below hb0))
  have s0 := hk0.cell
  have s1 := hk1.cell
  clear hb0 hk0 hk1 hk2 ht hsa hsb hsc
  go_enter Tryz.func5, Tryz.ntmps5
  go_wp2_with (go_at_call 16; refine HC.out.mono ?_; rintro e w1 ⟨rfl, HB1⟩; have q6 := (HK2.out.below HB1.out).cell; have r6 := (HK2.out.below HB1.out).frozen)
  refine bodyPost_ret (results_rat2 rfl _ _ (w.heap.size + 1 + 1) _ _ rfl (blkR w1 _ _ _ _ _ (HK2.out.below HB1.out))) rfl ?_
  exact ⟨rfl, Lib.hid ((HB0.out.trans (HB1.out.mono HB0.out.size)).trans ((belowR _ _ _ _).mono (by omega)))⟩
end Go.Proofs.YtgennilhbedmoaaGreatDoor
/-
  frac: Mul.
-/
namespace Go.Proofs.YtgennilhbedmoaaGreatDoor
open Go.RowKit KeepPlain

set_option maxRecDepth 100000 in
set_option maxHeartbeats 3200000 in
theorem fmul_any (qa qb : Rat) (a b : Value) (w : World) (h : FV w a qa) (k : FV w b qb) (hsa : Sz qa 200) (hsb : Sz qb 200) :
    Calls Tryz.prog 18 #[a, b] w fun e w' => ∃ v, e = .returned v ∧ Hid (FV w' v (qa * qb)) ∧ Hid (Below w.heap.size w w') := by
  obtain ⟨ua, da, rfl, hua, hda⟩ := h
  obtain ⟨ub, db, rfl, hub, hdb⟩ := k
  have HQ := Lib.hid (rat_mul qa qb)
  have hdp : qa.den * qb.den ≠ 0 := Nat.mul_ne_zero qa.den_nz qb.den_nz
  have hl1 := nd_mul_len hsa.1 hsb.1
  have hl2 := nd_mul_len hsa.2 hsb.2
  have HM1 := Lib.hid (fun u v wx (hu : NV wx u qa.num.natAbs) (hv : NV wx v qb.num.natAbs) => mul_any qa.num.natAbs qb.num.natAbs u v wx hu hv (by have := hsa.1; omega) (by have := hsb.1; omega))
  have HM2 := Lib.hid (fun u v wx (hu : NV wx u qa.den) (hv : NV wx v qb.den) => mul_any qa.den qb.den u v wx hu hv (by have := hsa.2; omega) (by have := hsb.2; omega))
  have HR := Lib.hid (fun u d wx (hu : NV wx u (qa.num.natAbs * qb.num.natAbs)) (hd : NV wx d (qa.den * qb.den)) => reduced_any (decide (qa.num < 0) != decide (qb.num < 0)) _ _ hdp u d wx hu hd (by omega) (by omega))
  rw [← HQ.out] at HR
  clear hsa hsb hdp hl1 hl2 HQ
  generalize qa * qb = qq at *
  generalize decide (qa.num < 0) = na at *
  generalize decide (qb.num < 0) = nb at *
  generalize qa.num.natAbs = xa at *
  generalize qb.num.natAbs = xb at *
  generalize qa.den = ya at *
  generalize qb.den = yb at *
  obtain ⟨w0, hw0, hb0, hk0, hk1, hk2⟩ : ∃ w0, ((w.alloc (.cells #[.bool na, ua, da] 64)).alloc (.cells #[.bool nb, ub, db] 64)).alloc (.cells #[.bool false, .slice none 0 0, .slice none 0 0] 64) = w0 ∧ Below w.heap.size w w0 ∧ Blk w0 w.heap.size [.bool na, ua, da] 64 ∧ Blk w0 (w.heap.size + 1) [.bool nb, ub, db] 64 ∧ RB w0 (w.heap.size + 1 + 1) := by
    refine ⟨_, rfl, (((Below.refl _ _).alloc (Nat.le_refl _) _).alloc (by simp only [World.size_alloc]; omega) _).alloc (by simp only [World.size_alloc]; omega) _, ((news_blk w [.bool na, ua, da] 64).alloc _).alloc _, ?_, ?_⟩
    · have := (news_blk (w.alloc (.cells #[.bool na, ua, da] 64)) [.bool nb, ub, db] 64).alloc (.cells #[.bool false, .slice none 0 0, .slice none 0 0] 64)
      simp only [World.size_alloc] at this
      exact this
    · have := news_blk ((w.alloc (.cells #[.bool na, ua, da] 64)).alloc (.cells #[.bool nb, ub, db] 64)) [.bool false, .slice none 0 0, .slice none 0 0] 64
      simp only [World.size_alloc] at this
      exact this
  have HB0 := Lib.hid hb0
  have HK2 := Lib.hid hk2
  have HUA := Lib.hid (hua.below hb0)
  have HDA := Lib.hid (hda.below hb0)
  have HUB := Lib.hid (hub.below hb0)
  have HDB := Lib.hid (hdb.below hb0)
  have HS := Lib.hid (fun (wx : World) (hb : Below w0.heap.size w0 wx) => show (∀ o, wx.cell? ⟨w.heap.size, o, none⟩ = ([Value.bool na, ua, da] : List Value)[o]?) ∧ (∀ o, wx.cell? ⟨w.heap.size + 1, o, none⟩ = ([Value.bool nb, ub, db] : List Value)[o]?) from ⟨(hk0.below hb).cell, (hk1.below hb).cell⟩)
  have HT := Lib.hid (fun (wx : World) (hb : Below w0.heap.size w0 wx) (x y z : Value) => show (∀ o, (setF wx (w.heap.size + 1 + 1) x y z).cell? ⟨w.heap.size, o, none⟩ = ([Value.bool na, ua, da] : List Value)[o]?) ∧ (∀ o, (setF wx (w.heap.size + 1 + 1) x y z).cell? ⟨w.heap.size + 1, o, none⟩ = ([Value.bool nb, ub, db] : List Value)[o]?) from ⟨((((hk0.below hb).far (by simp; omega) _).far (by simp; omega) _).far (by simp; omega) _).cell, ((((hk1.below hb).far (by simp) _).far (by simp) _).far (by simp) _).cell⟩)
  clear hb0 hk0 hk1 hk2 hua hda hub hdb
  obtain ⟨A1, c1, rfl⟩ := HUA.out.shape
  obtain ⟨A2, c2, rfl⟩ := HDA.out.shape
  obtain ⟨A3, c3, rfl⟩ := HUB.out.shape
  obtain ⟨A4, c4, rfl⟩ := HDB.out.shape
  generalize (nd xa).length = l1 at *
  generalize (nd ya).length = l2 at *
  generalize (nd xb).length = l3 at *
  generalize (nd yb).length = l4 at *
  go_enter Tryz.func18, Tryz.ntmps18
  go_upto_region 1 with fail
  clear hw0
  go_region_held3 (fun wy : World => (∀ o, wy.cell? ⟨w.heap.size, o, none⟩ = ([Value.bool na, .slice A1 l1 c1, .slice A2 l2 c2] : List Value)[o]?) ∧ (∀ o, wy.cell? ⟨w.heap.size + 1, o, none⟩ = ([Value.bool nb, .slice A3 l3 c3, .slice A4 l4 c4] : List Value)[o]?)) (first | exact HT.out _ HB3.out _ _ _ | exact HS.out _ HB3.out | exact HS.out _ HB2.out | exact HS.out _ HB1.out | exact HS.out _ (Below.refl _ _).drew | exact HS.out _ (Below.refl _ _)) (first | (go_at_call 31; have _g := HB2; clear _g; refine (HR.out _ _ w2 HN1.out HN2.out).mono ?_; rintro e w3 ⟨r3, rfl, HF3, HB3'⟩; obtain ⟨u3, d3, rfl, hs1, hs2⟩ := HF3.out; obtain ⟨A7, c7, rfl⟩ := hs1.shape; obtain ⟨A8, c8, rfl⟩ := hs2.shape; have HB3 := Lib.hid (HB2.out.trans (HB3'.out.mono HB2.out.size)); have q3 := Blk.cell (HK2.out.below HB3.out); have r3 := Blk.frozen (HK2.out.below HB3.out); dsimp only) | (go_at_call 30; have _g := HB1; clear _g; refine (HM2.out _ _ w1 (HDA.out.below HB1.out) (HDB.out.below HB1.out)).mono ?_; rintro e w2 ⟨r2, rfl, HN2, HB2'⟩; have HB2 := Lib.hid (HB1.out.trans (HB2'.out.mono HB1.out.size)); have HN1 := Lib.hid (HN1'.out.below HB2'.out); dsimp only) | (go_at_call 30; refine (HM1.out _ _ w0.drew (HUA.out.below (Below.refl _ _).drew) (HUB.out.below (Below.refl _ _).drew)).mono ?_; rintro e w1 ⟨r1, rfl, HN1', HB1'⟩; have HB1 : Hid (Below w0.heap.size w0 w1) := Lib.hid (below_undrew HB1'.out); dsimp only))
  go_wp2
  have HK3 := HK2.out.below HB3.out
  refine bodyPost_ret (results_frac rfl _ _ (w.heap.size + 1 + 1) _ _ _ rfl (blk3 w3 _ _ _ _ _ _ _ HK3)) rfl ?_
  exact ⟨_, rfl, Lib.hid ⟨_, _, rfl, nvF hs1 HK3 _ _ _, nvF hs2 HK3 _ _ _⟩, Lib.hid ((HB0.out.trans (HB3.out.mono HB0.out.size)).trans ((belowF _ _ _ _ _).mono (by omega)))⟩
end Go.Proofs.YtgennilhbedmoaaGreatDoor
/-
  The sizes of sums, products and quotients; the rules of arithmetic; texts of numbers with many digits.
-/
namespace Go.Proofs.YtgennilhbedmoaaGreatDoor
open Go.RowKit KeepPlain

theorem sz_mk (x : Int) (d : Nat) (k : Nat) (hd : d ≠ 0) (h1 : (nd x.natAbs).length ≤ k) (h2 : (nd d).length ≤ k) : Sz (mkRat x d) k := by
  refine ⟨?_, ?_⟩
  · refine Nat.le_trans (nd_len_mono ?_) h1
    rw [Rat.num_mkRat, if_neg hd]
    exact Int.natAbs_ediv_le_natAbs _ _
  · refine Nat.le_trans (nd_len_mono ?_) h2
    rw [Rat.den_mkRat, if_neg hd]
    exact Nat.div_le_self _ _
theorem sg_len (neg : Bool) (n k : Nat) (h : (nd n).length ≤ k) : (nd (sg neg n).natAbs).length ≤ k := by rw [sg_abs]; exact h
theorem sz_mul {a b : Rat} {i j : Nat} (ha : Sz a i) (hb : Sz b j) : Sz (a * b) (i + j) := by
  rw [rat_mul]
  exact sz_mk _ _ _ (Nat.mul_ne_zero a.den_nz b.den_nz) (sg_len _ _ _ (nd_mul_len ha.1 hb.1)) (nd_mul_len ha.2 hb.2)
theorem sz_div {a b : Rat} {i j : Nat} (ha : Sz a i) (hb : Sz b j) (h0 : b ≠ 0) : Sz (a / b) (i + j) := by
  rw [rat_div a b h0]
  have hnb : b.num.natAbs ≠ 0 := fun e => h0 (Rat.num_eq_zero.1 (by omega))
  exact sz_mk _ _ _ (Nat.mul_ne_zero a.den_nz hnb) (sg_len _ _ _ (nd_mul_len ha.1 hb.2)) (nd_mul_len ha.2 hb.1)
theorem sz_mono {a : Rat} {i j : Nat} (h : Sz a i) (hj : i ≤ j) : Sz a j := ⟨Nat.le_trans h.1 hj, Nat.le_trans h.2 hj⟩
theorem sz_add {a b : Rat} {i j : Nat} (ha : Sz a i) (hb : Sz b j) : Sz (a + b) (i + j + 1) := by
  rw [rat_add]
  refine sz_mk _ _ _ (Nat.mul_ne_zero a.den_nz b.den_nz) ?_ (Nat.le_trans (nd_mul_len ha.2 hb.2) (by omega))
  refine Nat.le_trans (nd_len_mono (Int.natAbs_add_le _ _)) ?_
  rw [sg_abs, sg_abs]
  refine nd_add_len (nd_mul_len ha.1 hb.2) ?_
  have := nd_mul_len hb.1 ha.2
  omega
theorem sz_neg {a : Rat} {i : Nat} (ha : Sz a i) : Sz (-a) i := ⟨by rw [Rat.neg_num, Int.natAbs_neg]; exact ha.1, by rw [Rat.neg_den]; exact ha.2⟩
theorem sz_sub {a b : Rat} {i j : Nat} (ha : Sz a i) (hb : Sz b j) : Sz (a - b) (i + j + 1) := by
  rw [Rat.sub_eq_add_neg]; exact sz_add ha (sz_neg hb)
theorem field_1 (a b c : Rat) : (a + b) * c = a * c + b * c := Rat.add_mul a b c
theorem field_2 (a b : Rat) : a + b - b = a := by
  rw [Rat.sub_eq_add_neg, Rat.add_assoc, Rat.add_neg_cancel, Rat.add_zero]
theorem field_3 (a c : Rat) (h : c ≠ 0) : a * c / c = a := Rat.mul_div_cancel h
/-- The digits of a power of ten. -/
theorem dec_ten : ∀ k : Nat, Lib.decDigits (10 ^ k) = 49 :: List.replicate k 48
  | 0 => by rw [Nat.pow_zero, dec_small (by omega)]; rfl
  | k + 1 => by
    have h0 : 0 < 10 ^ k := Nat.pow_pos (by omega)
    rw [Nat.pow_succ, dec_big (by omega), show 10 ^ k * 10 / 10 = 10 ^ k by omega, show 10 ^ k * 10 % 10 = 0 by omega, dec_ten k, List.replicate_succ']
    rfl
theorem dec_long (k : Nat) : Lib.decDigits (10 ^ (k + 1) + 1) = 49 :: (List.replicate k 48 ++ [49]) := by
  have h0 : 0 < 10 ^ k := Nat.pow_pos (by omega)
  rw [Nat.pow_succ, dec_big (by omega), show (10 ^ k * 10 + 1) / 10 = 10 ^ k by omega, show (10 ^ k * 10 + 1) % 10 = 1 by omega, dec_ten k]
  rfl
/-- A number with many digits is odd. -/
theorem long_cop (k s : Nat) : Nat.Coprime (10 ^ (k + 1) + 1) (2 ^ s) := by
  refine Nat.Coprime.pow_right s (Nat.Coprime.symm ?_)
  have h : (10 ^ (k + 1) + 1) % 2 = 1 := by rw [Nat.pow_succ]; omega
  show Nat.gcd 2 _ = 1
  rw [Nat.gcd_rec, h]; exact Nat.gcd_one_left 2
end Go.Proofs.YtgennilhbedmoaaGreatDoor
