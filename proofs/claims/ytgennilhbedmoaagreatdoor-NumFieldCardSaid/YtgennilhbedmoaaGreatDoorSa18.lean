/-
  num: Sub, Mul; two for Div.
-/
import Derived.Test.YtgennilhbedmoaaGreatDoorSa16
import Derived.Test.YtgennilhbedmoaaGreatDoorSa17
/-
  num: Sub, Mul; two for Div.
-/
namespace Go.Proofs.YtgennilhbedmoaaGreatDoor
open Go.RowKit KeepPlain

set_option maxRecDepth 100000 in
set_option maxHeartbeats 3200000 in
theorem two_Sub (qa qb qc : Rat) (hF : Two 19 qa qb qc) (hsa : Sz qa 200) (hsb : Sz qb 200) (hsc : Sz qc 500) (w : World) (ht : Pow10 w) :
    Calls Tryz.prog 16 #[RT qa, RT qb, .func (.func 19) #[] #[]] w fun e w' => e = .returned (.tuple #[RT qc, .int .i64 0]) ∧ Hid (Below w.heap.size w w') := by
  have HC1 := Lib.hid (fun wx => check_any qa hsa wx)
  have HC2 := Lib.hid (fun wx => check_any qb hsb wx)
  have HO1 := Lib.hid (fun wx => fof_any qa hsa wx)
  have HO2 := Lib.hid (fun wx => fof_any qb hsb wx)
  have HA := Lib.hid (fun a b wx (ha : FV wx a qa) (hb : FV wx b qb) => hF a b wx ha hb)
  have HR := Lib.hid (fun v wx (h : FV wx v qc) (hp : Pow10 wx) => rat_any qc hsc v wx h hp)
  unfold RT at HC1 HC2 HO1 HO2 HR ⊢
  generalize (⟨(Lib.itoa qa.num).toArray⟩ : ByteArray) = NA at *
  generalize (⟨(Lib.decDigits qa.den).toArray⟩ : ByteArray) = DA at *
  generalize (⟨(Lib.itoa qb.num).toArray⟩ : ByteArray) = NB at *
  generalize (⟨(Lib.decDigits qb.den).toArray⟩ : ByteArray) = DB at *
  generalize (⟨(Lib.itoa qc.num).toArray⟩ : ByteArray) = NC at *
  generalize (⟨(Lib.decDigits qc.den).toArray⟩ : ByteArray) = DC at *
  obtain ⟨w0, hw0, hb0, hk0, hk1, hk2⟩ : ∃ w0, ((w.alloc (.cells #[.string NA, .string DA] 27)).alloc (.cells #[.string NB, .string DB] 27)).alloc (.cells #[.string ⟨#[]⟩, .string ⟨#[]⟩] 27) = w0 ∧ Below w.heap.size w w0 ∧ Blk w0 w.heap.size [.string NA, .string DA] 27 ∧ Blk w0 (w.heap.size + 1) [.string NB, .string DB] 27 ∧ Blk w0 (w.heap.size + 1 + 1) [.string ⟨#[]⟩, .string ⟨#[]⟩] 27 := by
    refine ⟨_, rfl, (((Below.refl _ _).alloc (Nat.le_refl _) _).alloc (by simp only [World.size_alloc]; omega) _).alloc (by simp only [World.size_alloc]; omega) _, ((news_blk w [.string NA, .string DA] 27).alloc _).alloc _, ?_, ?_⟩
    · have := (news_blk (w.alloc (.cells #[.string NA, .string DA] 27)) [.string NB, .string DB] 27).alloc (.cells #[.string ⟨#[]⟩, .string ⟨#[]⟩] 27)
      simp only [World.size_alloc] at this
      exact this
    · have := news_blk ((w.alloc (.cells #[.string NA, .string DA] 27)).alloc (.cells #[.string NB, .string DB] 27)) [.string ⟨#[]⟩, .string ⟨#[]⟩] 27
      simp only [World.size_alloc] at this
      exact this
  have HB0 := Lib.hid hb0
  have HK2 := Lib.hid hk2
  have HP := Lib.hid (fun (wx : World) (hb : Below w0.heap.size w0 wx) => (ht.below hb0).below hb)
  have HS := Lib.hid (fun (wx : World) (hb : Below w0.heap.size w0 wx) => show (∀ o, wx.cell? ⟨w.heap.size, o, none⟩ = ([Value.string NA, .string DA] : List Value)[o]?) ∧ (∀ o, wx.cell? ⟨w.heap.size + 1, o, none⟩ = ([Value.string NB, .string DB] : List Value)[o]?) from ⟨(hk0.below hb).cell, (hk1.below hb).cell⟩)
  have HT := Lib.hid (fun (wx : World) (hb : Below w0.heap.size w0 wx) (x y : Value) => show (∀ o, (setR wx (w.heap.size + 1 + 1) x y).cell? ⟨w.heap.size, o, none⟩ = ([Value.string NA, .string DA] : List Value)[o]?) ∧ (∀ o, (setR wx (w.heap.size + 1 + 1) x y).cell? ⟨w.heap.size + 1, o, none⟩ = ([Value.string NB, .string DB] : List Value)[o]?) from ⟨(((hk0.below hb).far (by simp; omega) _).far (by simp; omega) _).cell, (((hk1.below hb).far (by simp) _).far (by simp) _).cell⟩)
  have s0 := hk0.cell
  clear hb0 hk0 hk1 hk2 ht hF hsa hsb hsc
  go_enter Tryz.func16, Tryz.ntmps16
  go_upto_region 7 with (first | (go_at_call 22; have _g := HB1; clear _g; refine (HC2.out w1).mono ?_; rintro e w2 ⟨rfl, HB2'⟩; have HB2 := Lib.hid (HB1.out.trans (HB2'.out.mono HB1.out.size))) | (go_at_call 22; refine (HC1.out w0).mono ?_; rintro e w1 ⟨rfl, HB1⟩; obtain ⟨s0, s1⟩ := HS.out w1 HB1.out))
  clear hw0 s0 s1
  go_region_held3 (fun wy : World => (∀ o, wy.cell? ⟨w.heap.size, o, none⟩ = ([Value.string NA, .string DA] : List Value)[o]?) ∧ (∀ o, wy.cell? ⟨w.heap.size + 1, o, none⟩ = ([Value.string NB, .string DB] : List Value)[o]?)) (first | exact HT.out _ HB6.out _ _ | exact HS.out _ HB6.out | exact HS.out _ HB5.out | exact HS.out _ HB4.out | exact HS.out _ HB3.out | exact HS.out _ HB2.out.drew | exact HS.out _ HB2.out) (first | (go_at_call 28; refine (HR.out _ w5 HF5.out (HP.out _ HB5.out)).mono ?_; rintro e w6 ⟨rfl, HB6'⟩; have HB6 := Lib.hid (HB5.out.trans (HB6'.out.mono HB5.out.size)); have q6 := (HK2.out.below HB6.out).cell; have r6 := (HK2.out.below HB6.out).frozen; dsimp only) | (go_at_call 27; have _g := HB3; clear _g; refine (HO2.out w3).mono ?_; rintro e w4 ⟨v4, rfl, HF4, HB4'⟩; have HB4 := Lib.hid (HB3.out.trans (HB4'.out.mono HB3.out.size)); have HF3 := Lib.hid (HF3'.out.below HB4'.out); dsimp only) | (go_at_call 27; refine (HO1.out w2.drew).mono ?_; rintro e w3 ⟨v3, rfl, HF3', HB3'⟩; have HB3 : Hid (Below w0.heap.size w0 w3) := Lib.hid (HB2.out.trans ((below_undrew HB3'.out).mono HB2.out.size)); dsimp only) | (go_at_call 19; refine (HA.out _ _ w4 HF3.out HF4.out).mono ?_; rintro e w5 ⟨v5, rfl, HF5, HB5'⟩; have HB5 := Lib.hid (HB4.out.trans (HB5'.out.mono HB4.out.size)); dsimp only))
  go_wp2
  have HK6 := HK2.out.below HB6.out
  refine bodyPost_ret (results_rat2 rfl _ _ (w.heap.size + 1 + 1) _ _ rfl (blkR w6 _ _ _ _ _ HK6)) rfl ?_
  exact ⟨rfl, Lib.hid ((HB0.out.trans (HB6.out.mono HB0.out.size)).trans ((belowR _ _ _ _).mono (by omega)))⟩
set_option maxRecDepth 100000 in
set_option maxHeartbeats 1600000 in
theorem num_Sub_any (qa qb : Rat) (hsa : Sz qa 200) (hsb : Sz qb 200) (hsc : Sz (qa - qb) 500) (w : World) (ht : Pow10 w) :
    Calls Tryz.prog 7 #[RT qa, RT qb] w fun e w' => e = .returned (.tuple #[RT (qa - qb), .int .i64 0]) ∧ Hid (Below w.heap.size w w') := by
  have HC := Lib.hid (fun wx (hp : Pow10 wx) => two_Sub qa qb (qa - qb) (fun a b wx ha hb => fsub_any qa qb a b wx ha hb hsa hsb) hsa hsb hsc wx hp)
  generalize qa - qb = qc at *
  unfold RT at HC ⊢
  generalize (⟨(Lib.itoa qa.num).toArray⟩ : ByteArray) = NA at *
  generalize (⟨(Lib.decDigits qa.den).toArray⟩ : ByteArray) = DA at *
  generalize (⟨(Lib.itoa qb.num).toArray⟩ : ByteArray) = NB at *
  generalize (⟨(Lib.decDigits qb.den).toArray⟩ : ByteArray) = DB at *
  generalize (⟨(Lib.itoa qc.num).toArray⟩ : ByteArray) = NC at *
  generalize (⟨(Lib.decDigits qc.den).toArray⟩ : ByteArray) = DC at *
  obtain ⟨w0, hw0, hb0, hk0, hk1, hk2⟩ : ∃ w0, ((w.alloc (.cells #[.string NA, .string DA] 27)).alloc (.cells #[.string NB, .string DB] 27)).alloc (.cells #[.string ⟨#[]⟩, .string ⟨#[]⟩] 27) = w0 ∧ Below w.heap.size w w0 ∧ Blk w0 w.heap.size [.string NA, .string DA] 27 ∧ Blk w0 (w.heap.size + 1) [.string NB, .string DB] 27 ∧ Blk w0 (w.heap.size + 1 + 1) [.string ⟨#[]⟩, .string ⟨#[]⟩] 27 := by
    refine ⟨_, rfl, (((Below.refl _ _).alloc (Nat.le_refl _) _).alloc (by simp only [World.size_alloc]; omega) _).alloc (by simp only [World.size_alloc]; omega) _, ((news_blk w [.string NA, .string DA] 27).alloc _).alloc _, ?_, ?_⟩
    · have := (news_blk (w.alloc (.cells #[.string NA, .string DA] 27)) [.string NB, .string DB] 27).alloc (.cells #[.string ⟨#[]⟩, .string ⟨#[]⟩] 27)
      simp only [World.size_alloc] at this
      exact this
    · have := news_blk ((w.alloc (.cells #[.string NA, .string DA] 27)).alloc (.cells #[.string NB, .string DB] 27)) [.string ⟨#[]⟩, .string ⟨#[]⟩] 27
      simp only [World.size_alloc] at this
      exact this
  have HB0 := Lib.hid hb0
  have HK2 := Lib.hid hk2
  have HC := Lib.hid (HC.out w0 (ht.below hb0))
  have s0 := hk0.cell
  have s1 := hk1.cell
  clear hb0 hk0 hk1 hk2 ht hsa hsb hsc
  go_enter Tryz.func7, Tryz.ntmps7
  go_wp2_with (go_at_call 16; refine HC.out.mono ?_; rintro e w1 ⟨rfl, HB1⟩; have q6 := (HK2.out.below HB1.out).cell; have r6 := (HK2.out.below HB1.out).frozen)
  refine bodyPost_ret (results_rat2 rfl _ _ (w.heap.size + 1 + 1) _ _ rfl (blkR w1 _ _ _ _ _ (HK2.out.below HB1.out))) rfl ?_
  exact ⟨rfl, Lib.hid ((HB0.out.trans (HB1.out.mono HB0.out.size)).trans ((belowR _ _ _ _).mono (by omega)))⟩
set_option maxRecDepth 100000 in
set_option maxHeartbeats 3200000 in
theorem two_Mul (qa qb qc : Rat) (hF : Two 18 qa qb qc) (hsa : Sz qa 200) (hsb : Sz qb 200) (hsc : Sz qc 500) (w : World) (ht : Pow10 w) :
    Calls Tryz.prog 16 #[RT qa, RT qb, .func (.func 18) #[] #[]] w fun e w' => e = .returned (.tuple #[RT qc, .int .i64 0]) ∧ Hid (Below w.heap.size w w') := by
  have HC1 := Lib.hid (fun wx => check_any qa hsa wx)
  have HC2 := Lib.hid (fun wx => check_any qb hsb wx)
  have HO1 := Lib.hid (fun wx => fof_any qa hsa wx)
  have HO2 := Lib.hid (fun wx => fof_any qb hsb wx)
  have HA := Lib.hid (fun a b wx (ha : FV wx a qa) (hb : FV wx b qb) => hF a b wx ha hb)
  have HR := Lib.hid (fun v wx (h : FV wx v qc) (hp : Pow10 wx) => rat_any qc hsc v wx h hp)
  unfold RT at HC1 HC2 HO1 HO2 HR ⊢
  generalize (⟨(Lib.itoa qa.num).toArray⟩ : ByteArray) = NA at *
  generalize (⟨(Lib.decDigits qa.den).toArray⟩ : ByteArray) = DA at *
  generalize (⟨(Lib.itoa qb.num).toArray⟩ : ByteArray) = NB at *
  generalize (⟨(Lib.decDigits qb.den).toArray⟩ : ByteArray) = DB at *
  generalize (⟨(Lib.itoa qc.num).toArray⟩ : ByteArray) = NC at *
  generalize (⟨(Lib.decDigits qc.den).toArray⟩ : ByteArray) = DC at *
  obtain ⟨w0, hw0, hb0, hk0, hk1, hk2⟩ : ∃ w0, ((w.alloc (.cells #[.string NA, .string DA] 27)).alloc (.cells #[.string NB, .string DB] 27)).alloc (.cells #[.string ⟨#[]⟩, .string ⟨#[]⟩] 27) = w0 ∧ Below w.heap.size w w0 ∧ Blk w0 w.heap.size [.string NA, .string DA] 27 ∧ Blk w0 (w.heap.size + 1) [.string NB, .string DB] 27 ∧ Blk w0 (w.heap.size + 1 + 1) [.string ⟨#[]⟩, .string ⟨#[]⟩] 27 := by
    refine ⟨_, rfl, (((Below.refl _ _).alloc (Nat.le_refl _) _).alloc (by simp only [World.size_alloc]; omega) _).alloc (by simp only [World.size_alloc]; omega) _, ((news_blk w [.string NA, .string DA] 27).alloc _).alloc _, ?_, ?_⟩
    · have := (news_blk (w.alloc (.cells #[.string NA, .string DA] 27)) [.string NB, .string DB] 27).alloc (.cells #[.string ⟨#[]⟩, .string ⟨#[]⟩] 27)
      simp only [World.size_alloc] at this
      exact this
    · have := news_blk ((w.alloc (.cells #[.string NA, .string DA] 27)).alloc (.cells #[.string NB, .string DB] 27)) [.string ⟨#[]⟩, .string ⟨#[]⟩] 27
      simp only [World.size_alloc] at this
      exact this
  have HB0 := Lib.hid hb0
  have HK2 := Lib.hid hk2
  have HP := Lib.hid (fun (wx : World) (hb : Below w0.heap.size w0 wx) => (ht.below hb0).below hb)
  have HS := Lib.hid (fun (wx : World) (hb : Below w0.heap.size w0 wx) => show (∀ o, wx.cell? ⟨w.heap.size, o, none⟩ = ([Value.string NA, .string DA] : List Value)[o]?) ∧ (∀ o, wx.cell? ⟨w.heap.size + 1, o, none⟩ = ([Value.string NB, .string DB] : List Value)[o]?) from ⟨(hk0.below hb).cell, (hk1.below hb).cell⟩)
  have HT := Lib.hid (fun (wx : World) (hb : Below w0.heap.size w0 wx) (x y : Value) => show (∀ o, (setR wx (w.heap.size + 1 + 1) x y).cell? ⟨w.heap.size, o, none⟩ = ([Value.string NA, .string DA] : List Value)[o]?) ∧ (∀ o, (setR wx (w.heap.size + 1 + 1) x y).cell? ⟨w.heap.size + 1, o, none⟩ = ([Value.string NB, .string DB] : List Value)[o]?) from ⟨(((hk0.below hb).far (by simp; omega) _).far (by simp; omega) _).cell, (((hk1.below hb).far (by simp) _).far (by simp) _).cell⟩)
  have s0 := hk0.cell
  clear hb0 hk0 hk1 hk2 ht hF hsa hsb hsc
  go_enter Tryz.func16, Tryz.ntmps16
  go_upto_region 7 with (first | (go_at_call 22; have _g := HB1; clear _g; refine (HC2.out w1).mono ?_; rintro e w2 ⟨rfl, HB2'⟩; have HB2 := Lib.hid (HB1.out.trans (HB2'.out.mono HB1.out.size))) | (go_at_call 22; refine (HC1.out w0).mono ?_; rintro e w1 ⟨rfl, HB1⟩; obtain ⟨s0, s1⟩ := HS.out w1 HB1.out))
  clear hw0 s0 s1
  go_region_held3 (fun wy : World => (∀ o, wy.cell? ⟨w.heap.size, o, none⟩ = ([Value.string NA, .string DA] : List Value)[o]?) ∧ (∀ o, wy.cell? ⟨w.heap.size + 1, o, none⟩ = ([Value.string NB, .string DB] : List Value)[o]?)) (first | exact HT.out _ HB6.out _ _ | exact HS.out _ HB6.out | exact HS.out _ HB5.out | exact HS.out _ HB4.out | exact HS.out _ HB3.out | exact HS.out _ HB2.out.drew | exact HS.out _ HB2.out) (first | (go_at_call 28; refine (HR.out _ w5 HF5.out (HP.out _ HB5.out)).mono ?_; rintro e w6 ⟨rfl, HB6'⟩; have HB6 := Lib.hid (HB5.out.trans (HB6'.out.mono HB5.out.size)); have q6 := (HK2.out.below HB6.out).cell; have r6 := (HK2.out.below HB6.out).frozen; dsimp only) | (go_at_call 27; have _g := HB3; clear _g; refine (HO2.out w3).mono ?_; rintro e w4 ⟨v4, rfl, HF4, HB4'⟩; have HB4 := Lib.hid (HB3.out.trans (HB4'.out.mono HB3.out.size)); have HF3 := Lib.hid (HF3'.out.below HB4'.out); dsimp only) | (go_at_call 27; refine (HO1.out w2.drew).mono ?_; rintro e w3 ⟨v3, rfl, HF3', HB3'⟩; have HB3 : Hid (Below w0.heap.size w0 w3) := Lib.hid (HB2.out.trans ((below_undrew HB3'.out).mono HB2.out.size)); dsimp only) | (go_at_call 18; refine (HA.out _ _ w4 HF3.out HF4.out).mono ?_; rintro e w5 ⟨v5, rfl, HF5, HB5'⟩; have HB5 := Lib.hid (HB4.out.trans (HB5'.out.mono HB4.out.size)); dsimp only))
  go_wp2
  have HK6 := HK2.out.below HB6.out
  refine bodyPost_ret (results_rat2 rfl _ _ (w.heap.size + 1 + 1) _ _ rfl (blkR w6 _ _ _ _ _ HK6)) rfl ?_
  exact ⟨rfl, Lib.hid ((HB0.out.trans (HB6.out.mono HB0.out.size)).trans ((belowR _ _ _ _).mono (by omega)))⟩
set_option maxRecDepth 100000 in
set_option maxHeartbeats 1600000 in
theorem num_Mul_any (qa qb : Rat) (hsa : Sz qa 200) (hsb : Sz qb 200) (hsc : Sz (qa * qb) 500) (w : World) (ht : Pow10 w) :
    Calls Tryz.prog 6 #[RT qa, RT qb] w fun e w' => e = .returned (.tuple #[RT (qa * qb), .int .i64 0]) ∧ Hid (Below w.heap.size w w') := by
  have HC := Lib.hid (fun wx (hp : Pow10 wx) => two_Mul qa qb (qa * qb) (fun a b wx ha hb => fmul_any qa qb a b wx ha hb hsa hsb) hsa hsb hsc wx hp)
  generalize qa * qb = qc at *
  unfold RT at HC ⊢
  generalize (⟨(Lib.itoa qa.num).toArray⟩ : ByteArray) = NA at *
  generalize (⟨(Lib.decDigits qa.den).toArray⟩ : ByteArray) = DA at *
  generalize (⟨(Lib.itoa qb.num).toArray⟩ : ByteArray) = NB at *
  generalize (⟨(Lib.decDigits qb.den).toArray⟩ : ByteArray) = DB at *
  generalize (⟨(Lib.itoa qc.num).toArray⟩ : ByteArray) = NC at *
  generalize (⟨(Lib.decDigits qc.den).toArray⟩ : ByteArray) = DC at *
  obtain ⟨w0, hw0, hb0, hk0, hk1, hk2⟩ : ∃ w0, ((w.alloc (.cells #[.string NA, .string DA] 27)).alloc (.cells #[.string NB, .string DB] 27)).alloc (.cells #[.string ⟨#[]⟩, .string ⟨#[]⟩] 27) = w0 ∧ Below w.heap.size w w0 ∧ Blk w0 w.heap.size [.string NA, .string DA] 27 ∧ Blk w0 (w.heap.size + 1) [.string NB, .string DB] 27 ∧ Blk w0 (w.heap.size + 1 + 1) [.string ⟨#[]⟩, .string ⟨#[]⟩] 27 := by
    refine ⟨_, rfl, (((Below.refl _ _).alloc (Nat.le_refl _) _).alloc (by simp only [World.size_alloc]; omega) _).alloc (by simp only [World.size_alloc]; omega) _, ((news_blk w [.string NA, .string DA] 27).alloc _).alloc _, ?_, ?_⟩
    · have := (news_blk (w.alloc (.cells #[.string NA, .string DA] 27)) [.string NB, .string DB] 27).alloc (.cells #[.string ⟨#[]⟩, .string ⟨#[]⟩] 27)
      simp only [World.size_alloc] at this
      exact this
    · have := news_blk ((w.alloc (.cells #[.string NA, .string DA] 27)).alloc (.cells #[.string NB, .string DB] 27)) [.string ⟨#[]⟩, .string ⟨#[]⟩] 27
      simp only [World.size_alloc] at this
      exact this
  have HB0 := Lib.hid hb0
  have HK2 := Lib.hid hk2
  have HC := Lib.hid (HC.out w0 (ht.below hb0))
  have s0 := hk0.cell
  have s1 := hk1.cell
  clear hb0 hk0 hk1 hk2 ht hsa hsb hsc
  go_enter Tryz.func6, Tryz.ntmps6
  go_wp2_with (go_at_call 16; refine HC.out.mono ?_; rintro e w1 ⟨rfl, HB1⟩; have q6 := (HK2.out.below HB1.out).cell; have r6 := (HK2.out.below HB1.out).frozen)
  refine bodyPost_ret (results_rat2 rfl _ _ (w.heap.size + 1 + 1) _ _ rfl (blkR w1 _ _ _ _ _ (HK2.out.below HB1.out))) rfl ?_
  exact ⟨rfl, Lib.hid ((HB0.out.trans (HB1.out.mono HB0.out.size)).trans ((belowR _ _ _ _).mono (by omega)))⟩
set_option maxRecDepth 100000 in
set_option maxHeartbeats 3200000 in
theorem two_Div (qa qb qc : Rat) (hF : Two 23 qa qb qc) (hsa : Sz qa 200) (hsb : Sz qb 200) (hsc : Sz qc 500) (w : World) (ht : Pow10 w) :
    Calls Tryz.prog 16 #[RT qa, RT qb, .func (.func 23) #[] #[]] w fun e w' => e = .returned (.tuple #[RT qc, .int .i64 0]) ∧ Hid (Below w.heap.size w w') := by
  have HC1 := Lib.hid (fun wx => check_any qa hsa wx)
  have HC2 := Lib.hid (fun wx => check_any qb hsb wx)
  have HO1 := Lib.hid (fun wx => fof_any qa hsa wx)
  have HO2 := Lib.hid (fun wx => fof_any qb hsb wx)
  have HA := Lib.hid (fun a b wx (ha : FV wx a qa) (hb : FV wx b qb) => hF a b wx ha hb)
  have HR := Lib.hid (fun v wx (h : FV wx v qc) (hp : Pow10 wx) => rat_any qc hsc v wx h hp)
  unfold RT at HC1 HC2 HO1 HO2 HR ⊢
  generalize (⟨(Lib.itoa qa.num).toArray⟩ : ByteArray) = NA at *
  generalize (⟨(Lib.decDigits qa.den).toArray⟩ : ByteArray) = DA at *
  generalize (⟨(Lib.itoa qb.num).toArray⟩ : ByteArray) = NB at *
  generalize (⟨(Lib.decDigits qb.den).toArray⟩ : ByteArray) = DB at *
  generalize (⟨(Lib.itoa qc.num).toArray⟩ : ByteArray) = NC at *
  generalize (⟨(Lib.decDigits qc.den).toArray⟩ : ByteArray) = DC at *
  obtain ⟨w0, hw0, hb0, hk0, hk1, hk2⟩ : ∃ w0, ((w.alloc (.cells #[.string NA, .string DA] 27)).alloc (.cells #[.string NB, .string DB] 27)).alloc (.cells #[.string ⟨#[]⟩, .string ⟨#[]⟩] 27) = w0 ∧ Below w.heap.size w w0 ∧ Blk w0 w.heap.size [.string NA, .string DA] 27 ∧ Blk w0 (w.heap.size + 1) [.string NB, .string DB] 27 ∧ Blk w0 (w.heap.size + 1 + 1) [.string ⟨#[]⟩, .string ⟨#[]⟩] 27 := by
    refine ⟨_, rfl, (((Below.refl _ _).alloc (Nat.le_refl _) _).alloc (by simp only [World.size_alloc]; omega) _).alloc (by simp only [World.size_alloc]; omega) _, ((news_blk w [.string NA, .string DA] 27).alloc _).alloc _, ?_, ?_⟩
    · have := (news_blk (w.alloc (.cells #[.string NA, .string DA] 27)) [.string NB, .string DB] 27).alloc (.cells #[.string ⟨#[]⟩, .string ⟨#[]⟩] 27)
      simp only [World.size_alloc] at this
      exact this
    · have := news_blk ((w.alloc (.cells #[.string NA, .string DA] 27)).alloc (.cells #[.string NB, .string DB] 27)) [.string ⟨#[]⟩, .string ⟨#[]⟩] 27
      simp only [World.size_alloc] at this
      exact this
  have HB0 := Lib.hid hb0
  have HK2 := Lib.hid hk2
  have HP := Lib.hid (fun (wx : World) (hb : Below w0.heap.size w0 wx) => (ht.below hb0).below hb)
  have HS := Lib.hid (fun (wx : World) (hb : Below w0.heap.size w0 wx) => show (∀ o, wx.cell? ⟨w.heap.size, o, none⟩ = ([Value.string NA, .string DA] : List Value)[o]?) ∧ (∀ o, wx.cell? ⟨w.heap.size + 1, o, none⟩ = ([Value.string NB, .string DB] : List Value)[o]?) from ⟨(hk0.below hb).cell, (hk1.below hb).cell⟩)
  have HT := Lib.hid (fun (wx : World) (hb : Below w0.heap.size w0 wx) (x y : Value) => show (∀ o, (setR wx (w.heap.size + 1 + 1) x y).cell? ⟨w.heap.size, o, none⟩ = ([Value.string NA, .string DA] : List Value)[o]?) ∧ (∀ o, (setR wx (w.heap.size + 1 + 1) x y).cell? ⟨w.heap.size + 1, o, none⟩ = ([Value.string NB, .string DB] : List Value)[o]?) from ⟨(((hk0.below hb).far (by simp; omega) _).far (by simp; omega) _).cell, (((hk1.below hb).far (by simp) _).far (by simp) _).cell⟩)
  have s0 := hk0.cell
  clear hb0 hk0 hk1 hk2 ht hF hsa hsb hsc
  go_enter Tryz.func16, Tryz.ntmps16
  go_upto_region 7 with (first | (go_at_call 22; have _g := HB1; clear _g; refine (HC2.out w1).mono ?_; rintro e w2 ⟨rfl, HB2'⟩; have HB2 := Lib.hid (HB1.out.trans (HB2'.out.mono HB1.out.size))) | (go_at_call 22; refine (HC1.out w0).mono ?_; rintro e w1 ⟨rfl, HB1⟩; obtain ⟨s0, s1⟩ := HS.out w1 HB1.out))
  clear hw0 s0 s1
  go_region_held3 (fun wy : World => (∀ o, wy.cell? ⟨w.heap.size, o, none⟩ = ([Value.string NA, .string DA] : List Value)[o]?) ∧ (∀ o, wy.cell? ⟨w.heap.size + 1, o, none⟩ = ([Value.string NB, .string DB] : List Value)[o]?)) (first | exact HT.out _ HB6.out _ _ | exact HS.out _ HB6.out | exact HS.out _ HB5.out | exact HS.out _ HB4.out | exact HS.out _ HB3.out | exact HS.out _ HB2.out.drew | exact HS.out _ HB2.out) (first | (go_at_call 28; refine (HR.out _ w5 HF5.out (HP.out _ HB5.out)).mono ?_; rintro e w6 ⟨rfl, HB6'⟩; have HB6 := Lib.hid (HB5.out.trans (HB6'.out.mono HB5.out.size)); have q6 := (HK2.out.below HB6.out).cell; have r6 := (HK2.out.below HB6.out).frozen; dsimp only) | (go_at_call 27; have _g := HB3; clear _g; refine (HO2.out w3).mono ?_; rintro e w4 ⟨v4, rfl, HF4, HB4'⟩; have HB4 := Lib.hid (HB3.out.trans (HB4'.out.mono HB3.out.size)); have HF3 := Lib.hid (HF3'.out.below HB4'.out); dsimp only) | (go_at_call 27; refine (HO1.out w2.drew).mono ?_; rintro e w3 ⟨v3, rfl, HF3', HB3'⟩; have HB3 : Hid (Below w0.heap.size w0 w3) := Lib.hid (HB2.out.trans ((below_undrew HB3'.out).mono HB2.out.size)); dsimp only) | (go_at_call 23; refine (HA.out _ _ w4 HF3.out HF4.out).mono ?_; rintro e w5 ⟨v5, rfl, HF5, HB5'⟩; have HB5 := Lib.hid (HB4.out.trans (HB5'.out.mono HB4.out.size)); dsimp only))
  go_wp2
  have HK6 := HK2.out.below HB6.out
  refine bodyPost_ret (results_rat2 rfl _ _ (w.heap.size + 1 + 1) _ _ rfl (blkR w6 _ _ _ _ _ HK6)) rfl ?_
  exact ⟨rfl, Lib.hid ((HB0.out.trans (HB6.out.mono HB0.out.size)).trans ((belowR _ _ _ _).mono (by omega)))⟩
theorem itoa_is0 (x : Int) : ((⟨(Lib.itoa x).toArray⟩ : ByteArray).toList == [48]) = decide (x = 0) := by
  have e : (⟨(Lib.itoa x).toArray⟩ : ByteArray).toList = Lib.itoa x := by rw [ByteArray.toList_eq]
  rw [e]
  by_cases h : x < 0
  · rw [itoa_neg' h, decide_eq_false (by omega)]
    exact beq_eq_false_iff_ne.2 (fun h2 => by injection h2 with h3 _; exact absurd h3 (by decide))
  · rw [itoa_pos' h]
    have h1 : [48] = Lib.decDigits 0 := by rw [dec_small (by omega)]; rfl
    rw [h1]
    by_cases h0 : x = 0
    · subst h0; simp
    · rw [decide_eq_false h0]
      exact beq_eq_false_iff_ne.2 (fun h2 => h0 (by have := dec_inj h2; omega))
set_option maxRecDepth 100000 in
set_option maxHeartbeats 1600000 in
theorem num_Div_any (qa qb : Rat) (h0 : qb ≠ 0) (hsa : Sz qa 200) (hsb : Sz qb 200) (hsc : Sz (qa / qb) 500) (w : World) (ht : Pow10 w) :
    Calls Tryz.prog 9 #[RT qa, RT qb] w fun e w' => e = .returned (.tuple #[RT (qa / qb), .int .i64 0]) ∧ Hid (Below w.heap.size w w') := by
  have HC := Lib.hid (fun wx (hp : Pow10 wx) => two_Div qa qb (qa / qb) (fun a b wx ha hb => fdiv_any qa qb a b wx ha hb hsa hsb h0) hsa hsb hsc wx hp)
  have HC1 := Lib.hid (fun wx => check_any qa hsa wx)
  have HC2 := Lib.hid (fun wx => check_any qb hsb wx)
  have c0 := itoa_is0 qb.num
  rw [decide_eq_false (fun e => h0 (Rat.num_eq_zero.1 e))] at c0
  generalize qa / qb = qc at *
  unfold RT at HC HC1 HC2 ⊢
  generalize (⟨(Lib.itoa qa.num).toArray⟩ : ByteArray) = NA at *
  generalize (⟨(Lib.decDigits qa.den).toArray⟩ : ByteArray) = DA at *
  generalize (⟨(Lib.itoa qb.num).toArray⟩ : ByteArray) = NB at *
  generalize (⟨(Lib.decDigits qb.den).toArray⟩ : ByteArray) = DB at *
  generalize (⟨(Lib.itoa qc.num).toArray⟩ : ByteArray) = NC at *
  generalize (⟨(Lib.decDigits qc.den).toArray⟩ : ByteArray) = DC at *
  obtain ⟨w0, hw0, hb0, hk0, hk1, hk2⟩ : ∃ w0, ((w.alloc (.cells #[.string NA, .string DA] 27)).alloc (.cells #[.string NB, .string DB] 27)).alloc (.cells #[.string ⟨#[]⟩, .string ⟨#[]⟩] 27) = w0 ∧ Below w.heap.size w w0 ∧ Blk w0 w.heap.size [.string NA, .string DA] 27 ∧ Blk w0 (w.heap.size + 1) [.string NB, .string DB] 27 ∧ Blk w0 (w.heap.size + 1 + 1) [.string ⟨#[]⟩, .string ⟨#[]⟩] 27 := by
    refine ⟨_, rfl, (((Below.refl _ _).alloc (Nat.le_refl _) _).alloc (by simp only [World.size_alloc]; omega) _).alloc (by simp only [World.size_alloc]; omega) _, ((news_blk w [.string NA, .string DA] 27).alloc _).alloc _, ?_, ?_⟩
    · have := (news_blk (w.alloc (.cells #[.string NA, .string DA] 27)) [.string NB, .string DB] 27).alloc (.cells #[.string ⟨#[]⟩, .string ⟨#[]⟩] 27)
      simp only [World.size_alloc] at this
      exact this
    · have := news_blk ((w.alloc (.cells #[.string NA, .string DA] 27)).alloc (.cells #[.string NB, .string DB] 27)) [.string ⟨#[]⟩, .string ⟨#[]⟩] 27
      simp only [World.size_alloc] at this
      exact this
  have HB0 := Lib.hid hb0
  have HK2 := Lib.hid hk2
  have HS := Lib.hid (fun (wx : World) (hb : Below w0.heap.size w0 wx) => show (∀ o, wx.cell? ⟨w.heap.size, o, none⟩ = ([Value.string NA, .string DA] : List Value)[o]?) ∧ (∀ o, wx.cell? ⟨w.heap.size + 1, o, none⟩ = ([Value.string NB, .string DB] : List Value)[o]?) from ⟨(hk0.below hb).cell, (hk1.below hb).cell⟩)
  have HP := Lib.hid (fun (wx : World) (hb : Below w0.heap.size w0 wx) => (ht.below hb0).below hb)
  have s0 := hk0.cell
  have s1 := hk1.cell
  clear hb0 hk0 hk1 hk2 ht hsa hsb hsc
  go_enter Tryz.func9, Tryz.ntmps9
  go_wp2_with (first | (go_at_call 16; have _g := HB2; clear _g; refine (HC.out w2 (HP.out w2 HB2.out)).mono ?_; rintro e w3 ⟨rfl, HB3'⟩; have HB3 := Lib.hid (HB2.out.trans (HB3'.out.mono HB2.out.size)); have q6 := (HK2.out.below HB3.out).cell; have r6 := (HK2.out.below HB3.out).frozen) | (go_at_call 22; have _g := HB1; clear _g; refine (HC2.out w1).mono ?_; rintro e w2 ⟨rfl, HB2'⟩; have HB2 := Lib.hid (HB1.out.trans (HB2'.out.mono HB1.out.size)); obtain ⟨s2, s3⟩ := HS.out w2 HB2.out) | (go_at_call 22; refine (HC1.out w0).mono ?_; rintro e w1 ⟨rfl, HB1⟩; obtain ⟨s2, s3⟩ := HS.out w1 HB1.out))
  refine bodyPost_ret (results_rat2 rfl _ _ (w.heap.size + 1 + 1) _ _ rfl (blkR w3 _ _ _ _ _ (HK2.out.below HB3.out))) rfl ?_
  exact ⟨rfl, Lib.hid ((HB0.out.trans (HB3.out.mono HB0.out.size)).trans ((belowR _ _ _ _).mono (by omega)))⟩
end Go.Proofs.YtgennilhbedmoaaGreatDoor
