/-
  nat: Parse.
  strings.CutPrefix of a number's text; num: digits.
  frac: Of and Rat.
-/
import Derived.Lib.ConvBytes
import Derived.Lib.ParseIntB
import Derived.Shelf.Strings.SlTrimAscii
import Derived.Test.YtgennilhbedmoaaGreatDoorSa5
import Derived.Test.YtgennilhbedmoaaGreatDoorSa11
import Derived.Test.YtgennilhbedmoaaGreatDoorSa13
import Derived.Test.YtgennilhbedmoaaGreatDoorSa14
/-
  nat: Parse.
-/
namespace Go.Proofs.YtgennilhbedmoaaGreatDoor
open Go.RowKit KeepPlain

theorem dvA_ge (a : Nat) (l : List UInt8) : a ≤ dvA a l := by
  induction l generalizing a with
  | nil => exact Nat.le_refl _
  | cons c l ih => rw [dvA_cons]; exact Nat.le_trans (by omega) (ih _)
theorem parseM {M : Nat} (hM : M < 1844674407370955162) (l : List UInt8) (a : Nat) (hd : Dig l) (h : dvA a l ≤ M) : Lib.parseUintM M a l = .ok (dvA a l) := by
  induction l generalizing a with
  | nil => rfl
  | cons c l ih =>
    have hc := hd c (by simp)
    have h1 := dvA_ge (a * 10 + (c.toNat - 48)) l
    rw [dvA_cons] at h ⊢
    rw [Lib.parseUintM, if_pos hc, if_neg (by omega), if_neg (by omega)]
    exact ih _ (fun x hx => hd x (by simp [hx])) h
theorem parseB {l : List UInt8} (hd : Dig l) (h0 : l ≠ []) (h9 : l.length ≤ 9) : Lib.parseUintB 32 l = .ok (dv l) := by
  unfold Lib.parseUintB
  rw [if_neg h0]
  refine parseM (by decide) l 0 hd ?_
  have h1 := dv_lt l hd
  have h2 : 10 ^ l.length ≤ 10 ^ 9 := Nat.pow_le_pow_right (by decide) h9
  have h3 : (10 : Nat) ^ 9 ≤ 2 ^ 32 - 1 := by decide
  show dv l ≤ _
  exact Nat.le_trans (Nat.le_of_lt h1) (Nat.le_trans h2 h3)
theorem below_bytes (w : World) (e : TypeId) (s : ByteArray) : Below w.heap.size w (Lib.bytesWorld w e s) :=
  ⟨rfl, rfl, rfl, by rw [Lib.bytesWorld_size]; omega, fun b hb => Lib.bytesWorld_at_old w e s b hb⟩
/-- A piece of digits. -/
theorem piece {l : List UInt8} (hd : Dig l) (lo e : Nat) (hle : lo < e) (he : e ≤ l.length) (h9 : e ≤ lo + 9) (w : World) :
    Calls Tryz.prog 62 #[.string ((⟨l.toArray⟩ : ByteArray).extract lo e), .int .i64 10, .int .i64 32] w fun r w' => r = .returned (.tuple #[.int .u64 (dv ((l.drop lo).take (e - lo)) : Nat), .nilIface]) ∧ Hid (Below w.heap.size w w') := by
  have hl : ((⟨l.toArray⟩ : ByteArray).extract lo e).data.toList = (l.drop lo).take (e - lo) := by
    rw [Lib.extract_data]
  have hd2 : Dig ((l.drop lo).take (e - lo)) := fun c hc => hd c (List.mem_of_mem_drop (List.mem_of_mem_take hc))
  have hlen : ((l.drop lo).take (e - lo)).length = e - lo := by simp; omega
  refine (Tryz.strconv_ParseUint_10_at32_ok ((⟨l.toArray⟩ : ByteArray).extract lo e) ?_ (dv ((l.drop lo).take (e - lo))) ?_ w).mono ?_
  · have : ((⟨l.toArray⟩ : ByteArray).extract lo e).size = e - lo := by
      rw [← ByteArray.size_data, ← Array.length_toList, hl, hlen]
    omega
  · rw [hl]
    exact parseB hd2 (fun h => by rw [h] at hlen; simp at hlen; omega) (by omega)
  · rintro r w' ⟨rfl, h | h⟩
    · subst h; exact ⟨rfl, Lib.hid (Below.refl _ _)⟩
    · subst h; exact ⟨rfl, Lib.hid (below_bytes _ _ _)⟩
set_option maxRecDepth 100000 in
set_option maxHeartbeats 3200000 in
theorem parse_any (l : List UInt8) (hd : Dig l) (hl : l.length ≤ 4000) (w : World) :
    Calls Tryz.prog 43 #[.string ⟨l.toArray⟩] w fun e w' => ∃ r, e = .returned r ∧ Hid (NV w' r (dv l)) ∧ Hid (Below w.heap.size w w') := by
  obtain ⟨n, hn⟩ : ∃ n, n = l.length := ⟨_, rfl⟩
  have HD := Lib.hid hd
  have HN := Lib.hid hn
  have hsz : (⟨l.toArray⟩ : ByteArray).size = n := by rw [hn, ← ByteArray.size_data]; simp
  rw [← hn] at hl
  have HPC := Lib.hid (fun lo e (hle : lo < e) (he : e ≤ n) (h9 : e ≤ lo + 9) wx => piece hd lo e hle (by omega) h9 wx)
  obtain ⟨S, hS⟩ : ∃ S : ByteArray, S = ⟨l.toArray⟩ := ⟨_, rfl⟩
  rw [← hS] at hsz HPC ⊢
  have HL := Lib.hid hl
  clear hd hn hS
  go_enter Tryz.func43, Tryz.ntmps43
  go_wp2
  go_loopg [3, 4] n (fun gk s3 s4 wx => ∃ (E : Int) (i : Nat) (o : List Nat), s4 = .int .i64 E ∧ E.toNat = gk ∧ Hid (-9 ≤ E ∧ E ≤ n ∧ (0 < E → n - gk = 9 * i) ∧ i ≤ 1000) ∧ Hid ((∀ x ∈ o, x < 1000000000) ∧ o.length = i) ∧ Hid (nv o = dv (l.drop gk)) ∧ Hid (wx.ownsRow w.heap.size 81 1 s3 i (us o)) ∧ Hid (Below w.heap.size w wx))
  case atStart => exact ⟨n, 0, [], congrArg (Value.int .i64) (by first | rfl | rw [hsz]), by omega, Lib.hid ⟨by omega, Int.le_refl _, fun _ => by omega, by omega⟩, Lib.hid ⟨fun x hx => absurd hx (by simp), rfl⟩, Lib.hid (by rw [HN.out, List.drop_length]; rfl), Lib.hid (World.ownsRow_nil _ _ _ _), Lib.hid (Below.refl _ _)⟩
  case round =>
    obtain ⟨E, i, o, rfl, hE, HE, HO, HV, HOW, HB⟩ := hrel
    obtain ⟨A3, c3, hv3⟩ := ownsRow_shape HOW.out
    subst hv3
    by_cases h0 : 0 < E
    · obtain rfl : E = (gk : Int) := by omega
      obtain ⟨lo, hlo⟩ : ∃ lo, lo = gk - 9 := ⟨_, rfl⟩
      obtain ⟨he1, he2, he3, he4⟩ := HE.out
      have hpc := HPC.out lo gk (by omega) (by omega) (by omega)
      have hdd : Dig ((l.drop lo).take (gk - lo)) := fun c hc => HD.out c (List.mem_of_mem_drop (List.mem_of_mem_take hc))
      have hx : dv ((l.drop lo).take (gk - lo)) < 1000000000 := by
        have h1 := dv_lt _ hdd
        have h2 : 10 ^ ((l.drop lo).take (gk - lo)).length ≤ 10 ^ 9 := Nat.pow_le_pow_right (by decide) (by simp; omega)
        exact Nat.lt_of_lt_of_le h1 h2
      have HVN := Lib.hid (show nv (o ++ [dv ((l.drop lo).take (gk - lo))]) = dv (l.drop lo) by
        rw [nv_snoc, HO.out.2]
        refine chunk_step HV.out (l := l.drop gk) (i := i) ?_ ?_
        · rw [List.length_drop, ← HN.out]; exact he3 h0
        · have : l.drop gk = (l.drop lo).drop (gk - lo) := by rw [List.drop_drop]; congr 1; omega
          rw [this, List.take_append_drop])
      obtain ⟨x, hxe⟩ : ∃ x, x = dv ((l.drop lo).take (gk - lo)) := ⟨_, rfl⟩
      rw [← hxe] at hpc hx HVN
      have HP := Lib.hid hpc
      have HX := Lib.hid hx
      have u1 : (x : Int) % 4294967296 = x := by omega
      have u2 : IntKind.u32.wrap (x : Int) = x := u32_in (by omega)
      have HE2 := Lib.hid (show -9 ≤ (gk : Int) - 9 ∧ (gk : Int) - 9 ≤ n ∧ (0 < (gk : Int) - 9 → n - lo = 9 * (i + 1)) ∧ i + 1 ≤ 1000 by
        have := he3 h0
        have := HL.out
        exact ⟨by omega, by omega, fun _ => by omega, by omega⟩)
      have HLO := Lib.hid (show ((gk : Int) - 9).toNat = lo ∧ lo < gk by omega)
      have hgn : (gk : Int) ≤ (S.size : Int) := by omega
      have hi1 : i ≤ 1000 := he4
      have bg : gk ≤ 4000 := by have := HL.out; omega
      clear hpc hx hxe hdd he1 he2 he3 he4 HV
      rcases Nat.lt_or_ge gk 9 with h9 | h9
      all_goals
        first | (have hmx : (gk : Int) - 9 = (lo : Int) := (by omega); clear hlo) | (have hmx : lo = 0 := (by omega); clear hlo; subst hmx)
        go_wp2_with (first | (go_at_call 62; (try rw [show (max ((gk : Int) - 9) 0).toNat = 0 by omega]); refine (HP.out wr).mono ?_; rintro e w1 ⟨rfl, HB1⟩) | (at_builtin; refine wpList_appU rfl _ _ rfl w.heap.size _ i o rfl (ownsRow_below (ownsRow_below HOW.out HB1.out) ((Below.refl _ _).alloc (Nat.le_refl _) _)) x w1.heap.size rfl ((news_blk w1 [_] _).cell 0) (by omega) (Nat.le_trans HB.out.size (Nat.le_trans HB1.out.size (alloc_le _ _))) ?_; intro g cap w3 hown hb; have HO3 := Lib.hid hown; have HB3 := Lib.hid hb; clear hown hb))
        first | go_roundg lo | go_roundg 0
        case measure => exact HLO.out.2
        case rel =>
          obtain ⟨ho1, ho2⟩ := HO.out
          exact ⟨(gk : Int) - 9, i + 1, o ++ [x], congrArg (Value.int .i64) (by first | rfl | omega), HLO.out.1, HE2, Lib.hid ⟨fun z hz => by
            rcases List.mem_append.1 hz with h1 | h1
            · exact ho1 z h1
            · rw [List.mem_singleton.1 h1]; exact HX.out, by simp [ho2]⟩, HVN, HO3, Lib.hid (((HB.out.trans (HB1.out.mono HB.out.size)).alloc (Nat.le_trans HB.out.size HB1.out.size) _).trans HB3.out)⟩
    · have hg : gk = 0 := by omega
      subst hg
      have HVV := Lib.hid (show nv o = dv l by have := HV.out; rwa [List.drop_zero] at this)
      have HTR := Lib.hid (trim_any _ i _ o wr (rdu_row HOW.out) HO.out.1 (by have := HE.out; omega))
      clear HV
      go_wp2_with (go_at_call 46; refine HTR.out.mono ?_; rintro e wz ⟨m, rfl, HN2, hz⟩; subst wz)
      go_ret
      exact ⟨_, rfl, Lib.hid (by rw [← HVV.out]; exact HN2.out), HB⟩
end Go.Proofs.YtgennilhbedmoaaGreatDoor
/-
  strings.CutPrefix of a number's text; num: digits.
-/
namespace Go.Proofs.YtgennilhbedmoaaGreatDoor
open Go.RowKit KeepPlain

theorem ba_len (l : List UInt8) : (⟨l.toArray⟩ : ByteArray).size = l.length := by rw [← ByteArray.size_data]; simp
theorem bytes_eta' (s : ByteArray) : (⟨s.data.toList.toArray⟩ : ByteArray) = s := by cases s; simp
theorem itoa_neg' {x : Int} (h : x < 0) : Lib.itoa x = 45 :: Lib.decDigits x.natAbs := by unfold Lib.itoa; rw [if_pos h]
theorem itoa_pos' {x : Int} (h : ¬ x < 0) : Lib.itoa x = Lib.decDigits x.natAbs := by
  unfold Lib.itoa; rw [if_neg h]
  congr 1; omega
set_option maxRecDepth 100000 in
set_option maxHeartbeats 1600000 in
theorem cut_any (x : Int) (w : World) : Calls Tryz.prog 40 #[.string ⟨(Lib.itoa x).toArray⟩, .string ⟨#[45]⟩] w fun e w' => e = .returned (.tuple #[.string ⟨(Lib.decDigits x.natAbs).toArray⟩, .bool (decide (x < 0))]) ∧ w' = w := by
  have hd := dec_dig x.natAbs
  have hne := dec_ne x.natAbs
  have hlen := dec_len_pos x.natAbs
  by_cases hx : x < 0
  · rw [itoa_neg' hx, decide_eq_true hx]
    generalize Lib.decDigits x.natAbs = d at *
    obtain ⟨S, hS⟩ : ∃ S : ByteArray, S = ⟨(45 :: d).toArray⟩ := ⟨_, rfl⟩
    have hsz : S.size = d.length + 1 := by rw [hS, ← ByteArray.size_data]; simp
    have hq : ((S.extract 0 1).toList == [45]) = true := by
      rw [ByteArray.toList_eq, Lib.extract_data, hS]; rfl
    have hr : S.extract 1 (d.length + 1) = ⟨d.toArray⟩ := by
      have h1 : (S.extract 1 (d.length + 1)).data.toList = d := by
        rw [Lib.extract_data, hS]
        show ((45 :: d).drop 1).take (d.length + 1 - 1) = d
        simp
      rw [← bytes_eta' (S.extract 1 (d.length + 1)), h1]
    have HR := Lib.hid hr
    rw [← hS]
    clear hS hr hd hne hlen hx
    go_enter Tryz.func40, Tryz.ntmps40
    go_wp2
    go_ret2
    exact ⟨by rw [← HR.out]; rfl, rfl⟩
  · rw [itoa_pos' hx, decide_eq_false hx]
    obtain ⟨c, d, hcd, hc⟩ : ∃ c d, Lib.decDigits x.natAbs = c :: d ∧ 48 ≤ c.toNat := by
      cases h : Lib.decDigits x.natAbs with
      | nil => exact absurd h hne
      | cons c d => exact ⟨c, d, rfl, (hd c (by rw [h]; simp)).1⟩
    rw [hcd]
    obtain ⟨S, hS⟩ : ∃ S : ByteArray, S = ⟨(c :: d).toArray⟩ := ⟨_, rfl⟩
    have hsz : S.size = d.length + 1 := by rw [hS, ← ByteArray.size_data]; simp
    have hq : ((S.extract 0 1).toList == [45]) = false := by
      rw [ByteArray.toList_eq, Lib.extract_data, hS]
      show ([c] == [45]) = false
      have : c ≠ 45 := fun e => by rw [e] at hc; revert hc; decide
      simp [this]
    rw [← hS]
    clear hS hd hne hlen hx hcd hc
    go_enter Tryz.func40, Tryz.ntmps40
    go_wp2
    go_ret2
    exact ⟨rfl, rfl⟩
theorem drop_all {p : UInt8 → Bool} : ∀ m : List UInt8, (∀ c ∈ m, p c = true) → m.dropWhile p = []
  | [], _ => rfl
  | c :: m, h => by
    rw [List.dropWhile_cons_of_pos (h c (by simp))]
    exact drop_all m (fun x hx => h x (by simp [hx]))
theorem cutset_size : (⟨#[48, 49, 50, 51, 52, 53, 54, 55, 56, 57]⟩ : ByteArray).size = 10 := rfl
theorem trim_digits (l : List UInt8) (hd : Dig l) : Lib.trimS l [48, 49, 50, 51, 52, 53, 54, 55, 56, 57] = [] := by
  have h : ∀ m : List UInt8, Dig m → m.dropWhile (fun x => ([48, 49, 50, 51, 52, 53, 54, 55, 56, 57] : List UInt8).contains x) = [] := by
    intro m hm
    refine drop_all m fun c hc => ?_
    have h1 := hm c hc
    have h2 : ∀ n : Fin 10, ([48, 49, 50, 51, 52, 53, 54, 55, 56, 57] : List UInt8).contains (UInt8.ofNat (48 + n.val)) = true := by decide
    have h3 := h2 ⟨c.toNat - 48, by omega⟩
    have h4 : UInt8.ofNat (48 + (c.toNat - 48)) = c := by rw [show 48 + (c.toNat - 48) = c.toNat by omega]; simp
    simp only [h4] at h3
    exact h3
  unfold Lib.trimS Lib.trimLeftS Lib.trimRightS
  rw [h l.reverse (fun c hc => hd c (by simpa using hc))]
  rfl
theorem trim_info : (Tryz.prog.info? (Tryz.lays160_ren.t 116)).map (fun i => (i.zero, i.size)) = some (some (.agg (Array.replicate 256 (.bool false))), 256) := by kernel_rfl
theorem cutset_ascii : ∀ (j : Nat) b, (⟨#[48, 49, 50, 51, 52, 53, 54, 55, 56, 57]⟩ : ByteArray).data.toList[j]? = some b → b.toNat < 128 := ascii_of_all (by decide)
theorem trim_at (s : ByteArray) (hs : s.size ≤ 9223372036854775807) (w : World) :
    Calls Tryz.prog 58 #[.string s, .string ⟨#[48, 49, 50, 51, 52, 53, 54, 55, 56, 57]⟩] w fun e w' => e = .returned (.string ⟨(Lib.trimS s.data.toList [48, 49, 50, 51, 52, 53, 54, 55, 56, 57]).toArray⟩) ∧ Below w.heap.size w w' :=
  Any.strings_Trim_laid Tryz.lays160 trim_info s ⟨#[48, 49, 50, 51, 52, 53, 54, 55, 56, 57]⟩ w hs (by rw [cutset_size]; decide) cutset_ascii
set_option maxRecDepth 100000 in
set_option maxHeartbeats 1600000 in
theorem digits_any (u : Nat) (hu : (Lib.decDigits u).length ≤ 100000) (w : World) : Calls Tryz.prog 41 #[.string ⟨(Lib.decDigits u).toArray⟩] w fun e w' => e = .returned (.bool true) ∧ Hid (Below w.heap.size w w') := by
  have hd := dec_dig u
  obtain ⟨S, hS⟩ : ∃ S : ByteArray, S = ⟨(Lib.decDigits u).toArray⟩ := ⟨_, rfl⟩
  have hdl : S.data.toList = Lib.decDigits u := by rw [hS]
  have hsz : S.size = (Lib.decDigits u).length := by rw [hS, ba_len]
  have ht := trim_at S (by rw [hsz]; exact Nat.le_trans hu (by decide)) w
  rw [hdl, trim_digits _ hd] at ht
  have HT := Lib.hid ht
  have htl : S.toList = Lib.decDigits u := by rw [ByteArray.toList_eq, hdl]
  have hp : 0 < (Lib.decDigits u).length := dec_len_pos u
  have hne : ¬ S.toList = [] := by rw [htl]; exact dec_ne u
  have hem : S.toList.isEmpty = false := by rw [htl]; cases h : Lib.decDigits u with
    | nil => exact absurd h (dec_ne u)
    | cons c d => rfl
  have H48 := Lib.hid (show ∀ (h : 0 < S.size), (((S[0]'h).toNat : Nat) : Int) = 48 → (S.toList == [48]) = true from fun h e => by
    rw [htl]
    have h0 : (Lib.decDigits u)[0]? = some (S[0]'h) := by rw [← hdl]; exact Lib.data_getElem? S 0 h
    by_cases hu0 : u = 0
    · subst hu0; rw [dec_small (by omega)]; rfl
    · obtain ⟨c, l, e1, e2⟩ := dec_head u hu0
      rw [e1] at h0
      have : c = S[0]'h := by simpa using h0
      rw [← this] at e
      omega)
  rw [← hS]
  clear ht hS htl hd hdl hu
  go_enter Tryz.func41, Tryz.ntmps41
  go_wp2_with (go_at_call 58; refine HT.out.mono ?_; rintro e w1 ⟨rfl, hb1⟩; have HB1 := Lib.hid hb1; clear hb1)
  · have h48 := H48.out (by omega) (by assumption)
    go_ret
    exact ⟨by rw [h48]; rfl, HB1⟩
  · go_ret
    exact ⟨rfl, HB1⟩
end Go.Proofs.YtgennilhbedmoaaGreatDoor
/-
  frac: Of and Rat.
-/
namespace Go.Proofs.YtgennilhbedmoaaGreatDoor
open Go.RowKit KeepPlain

/-- A rational number as two texts. -/
def RT (q : Rat) : Value := .agg #[.string ⟨(Lib.itoa q.num).toArray⟩, .string ⟨(Lib.decDigits q.den).toArray⟩]
theorem dec_len_nd {x k : Nat} (h : (nd x).length ≤ k) : (Lib.decDigits x).length ≤ 9 * k + 1 := by
  rcases Nat.eq_zero_or_pos k with e | e
  · subst e
    have : x = 0 := (nd_nil_iff x).1 (List.length_eq_zero_iff.1 (by omega))
    rw [this, dec_small (by omega)]; simp
  · have h1 := nd_lt_pow x
    have h2 : 1000000000 ^ (nd x).length ≤ 1000000000 ^ k := Nat.pow_le_pow_right (by decide) h
    have h3 : (1000000000 : Nat) ^ k = 10 ^ (9 * k) := by rw [show (1000000000 : Nat) = 10 ^ 9 from rfl, ← Nat.pow_mul]
    have := dec_len_le x (9 * k) (by omega) (by rw [← h3]; exact Nat.lt_of_lt_of_le h1 h2)
    omega
theorem results_rat {fn : Func} {a : Tmp} (hf : fn.results = #[.cell a 27]) (tmps : Array Value) (w : World) (r : Nat) (x y : Value) (hr : tmps.getD a undef = .pointer (some ⟨r, 0, none⟩)) (h : Blk w r [x, y] 27) :
    (results fn tmps).run Tryz.prog w = .ok (.agg #[x, y]) w :=
  results_cell_row (P := Tryz.prog) hf tmps w r 27 #[x, y] (0, 0) _ hr h Tryz.underlying27 rfl (by kernel_rfl)
theorem run_load_rat {w : World} {r : Nat} {x y : Value} (h : Blk w r [x, y] 27) : (loadVar 27 ⟨r, 0, none⟩).run Tryz.prog w = .ok (.agg #[x, y]) w :=
  run_loadVar_row (P := Tryz.prog) w r 27 27 #[x, y] (0, 0) _ h Tryz.underlying27 rfl (by kernel_rfl)
theorem results_rat2 {fn : Func} {a u : Tmp} (hf : fn.results = #[.cell a 27, .tmp u]) (tmps : Array Value) (w : World) (r : Nat) (x y : Value) (hr : tmps.getD a undef = .pointer (some ⟨r, 0, none⟩)) (h : Blk w r [x, y] 27) :
    (results fn tmps).run Tryz.prog w = .ok (.tuple #[.agg #[x, y], tmps.getD u undef]) w := by
  rw [results_cell_tmp hf, hr]
  simp only [asAddr, Sem.run_pure, Result.andThen_ok]
  rw [run_load_rat h]
  rfl
def setR (w : World) (r : Nat) (x y : Value) : World := (w.setCell ⟨r, 0, none⟩ x).setCell ⟨r, 1, none⟩ y
theorem belowR (w : World) (r : Nat) (x y : Value) : Below r w (setR w r x y) :=
  ((Below.refl r w).setCell (p := ⟨r, 0, none⟩) (Nat.le_refl r) x).setCell (p := ⟨r, 1, none⟩) (Nat.le_refl r) y
theorem blkR (w : World) (x y x' y' : Value) (r : Nat) (h : Blk w r [x, y] 27) : Blk (setR w r x' y') r [x', y'] 27 := (h.set 0 _).set 1 _
set_option maxRecDepth 100000 in
set_option maxHeartbeats 3200000 in
theorem fof_any (q : Rat) (hs : Sz q 200) (w : World) : Calls Tryz.prog 27 #[RT q] w fun e w' => ∃ v, e = .returned v ∧ Hid (FV w' v q) ∧ Hid (Below w.heap.size w w') := by
  obtain ⟨h1, h2⟩ := hs
  have hl1 := dec_len_nd h1
  have hl2 := dec_len_nd h2
  have HC := Lib.hid (fun wx => cut_any q.num wx)
  have HP1 := Lib.hid (fun wx => parse_any (Lib.decDigits q.num.natAbs) (dec_dig _) (by omega) wx)
  have HP2 := Lib.hid (fun wx => parse_any (Lib.decDigits q.den) (dec_dig _) (by omega) wx)
  rw [dec_dv] at HP1 HP2
  unfold RT
  have HFV := Lib.hid (fun wx u d (hu : NV wx u q.num.natAbs) (hd : NV wx d q.den) => show FV wx (.agg #[.bool (decide (q.num < 0)), u, d]) q from ⟨u, d, rfl, hu, hd⟩)
  generalize (⟨(Lib.itoa q.num).toArray⟩ : ByteArray) = NS at *
  generalize (⟨(Lib.decDigits q.den).toArray⟩ : ByteArray) = DS at *
  generalize (⟨(Lib.decDigits q.num.natAbs).toArray⟩ : ByteArray) = AS at *
  generalize decide (q.num < 0) = ng at *
  obtain ⟨w0, hw0, hb0, hk0, hk1⟩ : ∃ w0, (w.alloc (.cells #[.string NS, .string DS] 27)).alloc (.cells #[.bool false, .slice none 0 0, .slice none 0 0] 64) = w0 ∧ Below w.heap.size w w0 ∧ Blk w0 w.heap.size [.string NS, .string DS] 27 ∧ RB w0 (w.heap.size + 1) := by
    refine ⟨_, rfl, ((Below.refl _ _).alloc (Nat.le_refl _) _).alloc (by simp only [World.size_alloc]; omega) _, (news_blk w [.string NS, .string DS] 27).alloc _, ?_⟩
    have := news_blk (w.alloc (.cells #[.string NS, .string DS] 27)) [.bool false, .slice none 0 0, .slice none 0 0] 64
    simp only [World.size_alloc] at this
    exact this
  have HB0 := Lib.hid hb0
  have HK1 := Lib.hid hk1
  have HQ := Lib.hid (fun (wx : World) (hb : Below w0.heap.size w0 wx) => (hk0.below hb).cell)
  have HT := Lib.hid (fun (wx : World) (hb : Below w0.heap.size w0 wx) (x y z : Value) => show (∀ o, (setF wx (w.heap.size + 1) x y z).cell? ⟨w.heap.size, o, none⟩ = ([Value.string NS, .string DS] : List Value)[o]?) from ((((hk0.below hb).far (by simp) _).far (by simp) _).far (by simp) _).cell)
  have q0 := hk0.cell
  clear hb0 hk0 hk1 h1 h2 hl1 hl2
  go_enter Tryz.func27, Tryz.ntmps27
  go_upto_region 2 with (go_at_call 40; refine (HC.out w0).mono ?_; rintro e wz ⟨rfl, hz⟩; subst wz)
  clear hw0 q0
  go_region_held3 (fun wy : World => ∀ o, wy.cell? ⟨w.heap.size, o, none⟩ = ([Value.string NS, .string DS] : List Value)[o]?) (first | exact HT.out _ HB4.out _ _ _ | exact HQ.out _ HB4.out | exact HQ.out _ HB3.out | exact HQ.out _ (Below.refl _ _).drew | exact HQ.out _ (Below.refl _ _)) (first | (go_at_call 43; have _g := HB3; clear _g; refine (HP2.out w3).mono ?_; rintro e w4 ⟨v4, rfl, HN4, HB4'⟩; obtain ⟨g4, c4, rfl⟩ := HN4.out.shape; have HB4 := Lib.hid (HB3.out.trans (HB4'.out.mono HB3.out.size)); have HN3 := Lib.hid (HN3'.out.below HB4'.out); have q4 := Blk.cell (HK1.out.below HB4.out); have r4 := Blk.frozen (HK1.out.below HB4.out); dsimp only) | (go_at_call 43; refine (HP1.out w0.drew).mono ?_; rintro e w3 ⟨v3, rfl, HN3', HB3'⟩; obtain ⟨g3, c3, rfl⟩ := HN3'.out.shape; have HB3 : Hid (Below w0.heap.size w0 w3) := Lib.hid (below_undrew HB3'.out); dsimp only))
  go_wp2
  have HK4 := HK1.out.below HB4.out
  refine bodyPost_ret (results_frac rfl _ _ (w.heap.size + 1) _ _ _ rfl (blk3 w4 _ _ _ _ _ _ _ HK4)) rfl ?_
  exact ⟨_, rfl, Lib.hid (HFV.out _ _ _ (nvF HN3.out HK4 _ _ _) (nvF HN4.out HK4 _ _ _)), Lib.hid ((HB0.out.trans (HB4.out.mono HB0.out.size)).trans ((belowF _ _ _ _ _).mono (by omega)))⟩
set_option maxRecDepth 100000 in
set_option maxHeartbeats 3200000 in
theorem rat_any (q : Rat) (hs : Sz q 500) (v : Value) (w : World) (h : FV w v q) (ht : Pow10 w) : Calls Tryz.prog 28 #[v] w fun e w' => e = .returned (RT q) ∧ Hid (Below w.heap.size w w') := by
  obtain ⟨u, d, rfl, hu, hd⟩ := h
  obtain ⟨w0, hw0, hb0, hk0, hk1⟩ : ∃ w0, (w.alloc (.cells #[.bool (decide (q.num < 0)), u, d] 64)).alloc (.cells #[.string ⟨#[]⟩, .string ⟨#[]⟩] 27) = w0 ∧ Below w.heap.size w w0 ∧ Blk w0 w.heap.size [.bool (decide (q.num < 0)), u, d] 64 ∧ Blk w0 (w.heap.size + 1) [.string ⟨#[]⟩, .string ⟨#[]⟩] 27 := by
    refine ⟨_, rfl, ((Below.refl _ _).alloc (Nat.le_refl _) _).alloc (by simp only [World.size_alloc]; omega) _, (news_blk w [.bool (decide (q.num < 0)), u, d] 64).alloc _, ?_⟩
    have := news_blk (w.alloc (.cells #[.bool (decide (q.num < 0)), u, d] 64)) [.string ⟨#[]⟩, .string ⟨#[]⟩] 27
    simp only [World.size_alloc] at this
    exact this
  have HB0 := Lib.hid hb0
  have HK1 := Lib.hid hk1
  have HQ := Lib.hid (fun (wx : World) (hb : Below w0.heap.size w0 wx) => (hk0.below hb).cell)
  have q0 := hk0.cell
  have HS := Lib.hid (string_any q.num.natAbs u w0 (hu.below hb0) hs.1 (ht.below hb0))
  have HT := Lib.hid (fun wx (hb : Below w0.heap.size w0 wx) => string_any q.den d wx ((hd.below hb0).below hb) hs.2 ((ht.below hb0).below hb))
  have hlen := dec_len_nd hs.1
  obtain ⟨A1, c1, rfl⟩ := hu.shape
  obtain ⟨A2, c2, rfl⟩ := hd.shape
  clear hb0 hk0 hk1 hu hd hs ht
  unfold RT
  generalize (nd q.num.natAbs).length = l1 at *
  generalize (nd q.den).length = l2 at *
  by_cases hn : q.num < 0
  · have HI := Lib.hid (show (⟨(Lib.itoa q.num).toArray⟩ : ByteArray) = ⟨#[45]⟩ ++ ⟨(Lib.decDigits q.num.natAbs).toArray⟩ by
      rw [itoa_neg' hn]
      apply ByteArray.ext
      simp [ByteArray.data_append])
    have hadd : ∀ W, (Op.stringOp .add ⟨#[45]⟩ ⟨(Lib.decDigits q.num.natAbs).toArray⟩).run Tryz.prog W = .ok (.string (⟨#[45]⟩ ++ ⟨(Lib.decDigits q.num.natAbs).toArray⟩)) W := fun W => run_string_add_sum W _ _ (by
      have e1 : ((⟨#[45]⟩ : ByteArray)).size = 1 := rfl
      have e2 := ba_size (Lib.decDigits q.num.natAbs)
      omega)
    rw [HI.out]
    rw [decide_eq_true hn] at HQ q0
    simp only [decide_eq_true hn] at hw0 ⊢
    generalize (⟨(Lib.decDigits q.num.natAbs).toArray⟩ : ByteArray) = NS at *
    generalize (⟨(Lib.decDigits q.den).toArray⟩ : ByteArray) = DS at *
    clear hn hlen HI
    go_enter Tryz.func28, Tryz.ntmps28
    go_wp2_with (first | (go_at_call 45; have _g := HB1; clear _g; refine (HT.out w1 HB1.out).mono ?_; rintro e w2 ⟨rfl, HB2⟩; have HK2 := Lib.hid ((HK1.out.below HB1.out).below HB2.out); have q2 := HK2.out.cell; have r2 := HK2.out.frozen) | (go_at_call 45; refine HS.out.mono ?_; rintro e w1 ⟨rfl, HB1⟩; have q1 := HQ.out w1 HB1.out))
    refine bodyPost_ret (results_rat rfl _ _ (w.heap.size + 1) _ _ rfl (blkR w2 _ _ _ _ _ HK2.out)) rfl ?_
    exact ⟨rfl, Lib.hid (((HB0.out.trans (HB1.out.mono HB0.out.size)).trans (HB2.out.mono (Nat.le_trans HB0.out.size HB1.out.size))).trans ((belowR _ _ _ _).mono (by omega)))⟩
  · have HI := itoa_pos' hn
    rw [HI]
    clear HI
    rw [decide_eq_false hn] at HQ q0
    simp only [decide_eq_false hn] at hw0 ⊢
    generalize (⟨(Lib.decDigits q.num.natAbs).toArray⟩ : ByteArray) = NS at *
    generalize (⟨(Lib.decDigits q.den).toArray⟩ : ByteArray) = DS at *
    clear hn hlen
    go_enter Tryz.func28, Tryz.ntmps28
    go_wp2_with (first | (go_at_call 45; have _g := HB1; clear _g; refine (HT.out w1 HB1.out).mono ?_; rintro e w2 ⟨rfl, HB2⟩; have HK2 := Lib.hid ((HK1.out.below HB1.out).below HB2.out); have q2 := HK2.out.cell; have r2 := HK2.out.frozen) | (go_at_call 45; refine HS.out.mono ?_; rintro e w1 ⟨rfl, HB1⟩; have q1 := HQ.out w1 HB1.out))
    refine bodyPost_ret (results_rat rfl _ _ (w.heap.size + 1) _ _ rfl (blkR w2 _ _ _ _ _ HK2.out)) rfl ?_
    exact ⟨rfl, Lib.hid (((HB0.out.trans (HB1.out.mono HB0.out.size)).trans (HB2.out.mono (Nat.le_trans HB0.out.size HB1.out.size))).trans ((belowR _ _ _ _).mono (by omega)))⟩
end Go.Proofs.YtgennilhbedmoaaGreatDoor
