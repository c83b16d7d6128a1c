/-
  readRecord of a whole record.
  ServeCrashes: Submit, Cancel and Tick of any server; the bytes of a record, read again.
  call: a record's call is made again.
-/
import Derived.Test.YtllpoaoboieijaaGreatSc3
/-
  readRecord of a whole record.
-/
namespace Go.Proofs.YtllpoaoboieijaaGreat
open Go.RowKit

theorem drew_eq (w : World) (a b : Nat) : (w.drewN a).drewN b = w.drewN (a + b) := by simp [World.drewN, Nat.add_assoc]
set_option maxRecDepth 100000 in
set_option maxHeartbeats 1600000 in
theorem read_ok (own : Nat → Lb) (sb : Nat) (L : Lay) (S : Srv) (w : World) (h : SrvAt own w sb L S) (l : List Int) (b o n c m : Nat) (hr : RdV w (.slice (some ⟨b, o, none⟩) n c) (bys l)) (hm : m + 10 ≤ n) (hbig : n ≤ 100000000) (h2 : numTo (l.take 2) 2 = (m : Int))
    (h6 : numTo ((l.drop 2).take 4) 4 = S.records) (hs : numTo ((l.drop (6 + m)).take 4) 4 = crcOf (l.take (6 + m))) :
    Calls Tryz.prog 51 #[.pointer (some ⟨sb, 0, none⟩), .slice (some ⟨b, o, none⟩) n c] w fun e w' => ∃ A c', e = .returned (.tuple #[.slice (some ⟨b, o + 6, none⟩) m (c - 6), .slice A (n - (10 + m)) c', .bool true]) ∧ c' = c - (10 + m) ∧ (c ≠ 10 + m → A = some ⟨b, o + (10 + m), none⟩) ∧ ∃ k, w' = w.drewN k := by
  have c2 := h.blk.cell
  simp only [srvCells] at c2
  have hcap := hr.caps
  have hn : n = l.length := by rw [hcap.1, bys_length]
  have hcm := hcap.2.2
  unfold maxLen at hcm
  have t1 : decide ((n : Int) < 10) = false := decide_eq_false (by omega)
  have t2 : decide ((n : Int) < (m : Int) + 10) = false := decide_eq_false (by omega)
  have u1 : (2 : Int) ≤ (c : Int) := by omega
  have u2 : (6 : Int) ≤ (c : Int) := by omega
  have u3 : (6 : Int) + (m : Int) ≤ (c : Int) := by omega
  have u4 : (10 : Int) + (m : Int) ≤ (c : Int) := by omega
  have u5 : (6 : Int) + (m : Int) ≤ 10 + (m : Int) := by omega
  have u6 : (10 : Int) + (m : Int) ≤ (n : Int) := by omega
  have u7 : (0 : Int) ≤ 6 + (m : Int) := by omega
  have u8 : (0 : Int) ≤ 10 + (m : Int) := by omega
  have v1 : ¬ c = 2 := by omega
  have v2 : ¬ c = 6 := by omega
  have v3 : ¬ c = 6 + m := by omega
  have z1 : ((6 : Int) + (m : Int)).toNat = 6 + m := by omega
  have z2 : ((10 : Int) + (m : Int)).toNat = 10 + m := by omega
  have HN1 := Lib.hid (num_at (l.take 2) 2 (by simp; omega) (by omega) _ h2 (some ⟨b, o, none⟩) c w (rdv_first hr hn 2 (by omega)))
  have HN2 := Lib.hid (fun (k : Nat) => num_at ((l.drop 2).take 4) 4 (by simp; omega) (by omega) _ h6 (some ⟨b, o + 2, none⟩) (c - 2) (w.drewN k) (rdv_part (show RdV (w.drewN k) _ _ from hr) hn 2 4 (by omega)))
  have e4 : 10 + m - (6 + m) = 4 := by omega
  have HN3 := Lib.hid (fun (k : Nat) => (show Calls Tryz.prog 48 #[.slice (some ⟨b, o + (6 + m), none⟩) (10 + m - (6 + m)) (c - (6 + m))] (w.drewN k) fun e w' => e = .returned (.int .i64 (crcOf (l.take (6 + m)))) ∧ w' = w.drewN k from by rw [e4]; exact num_at ((l.drop (6 + m)).take 4) 4 (by simp; omega) (by omega) _ hs (some ⟨b, o + (6 + m), none⟩) (c - (6 + m)) (w.drewN k) (rdv_part (show RdV (w.drewN k) _ _ from hr) hn (6 + m) 4 (by omega))))
  clear e4
  have HC := Lib.hid (fun (k : Nat) => code_at (l.take (6 + m)) (6 + m) (by simp; omega) _ rfl (some ⟨b, o, none⟩) c (w.drewN k) (rdv_first (show RdV (w.drewN k) _ _ from hr) hn (6 + m) (by omega)))
  generalize crcOf (l.take (6 + m)) = cr at HN3 HC
  have ws : IntKind.i64.wrap ((m : Int) + 10) = (m : Int) + 10 := IntWalk.i64_in _ (by omega)
  have ws6 : IntKind.i64.wrap (6 + (m : Int)) = 6 + (m : Int) := IntWalk.i64_in _ (by omega)
  have ws10 : IntKind.i64.wrap (10 + (m : Int)) = 10 + (m : Int) := IntWalk.i64_in _ (by omega)
  clear h hr hcap hn hcm hm hbig h2 h6 hs
  go_enter Tryz.func51, Tryz.ntmps51
  go_upto_region 4 with (go_at_call 48; refine HN1.out.mono ?_; rintro e w1 ⟨rfl, hw1⟩; subst hw1)
  go_quiet (first | (go_at_call 48; with_reducible exact Calls.quiet_of_same (HN2.out _)) | (go_at_call 48; with_reducible exact Calls.quiet_of_same (HN3.out _)) | (go_at_call 49; with_reducible exact Calls.quiet_of_same (HC.out _)))
  clear c2
  by_cases v4 : c = 10 + m
  · subst v4
    have y1 : ((10 + m : Nat) : Int) = 10 + (m : Int) := by omega
    have y2 : ¬ (10 + m = 6) := by omega
    go_upto_region 6 with fail
    go_quiet (fail)
    go_wp2
    go_ret3
    exact ⟨_, _, rfl, by omega, fun e => absurd rfl e, _, drew_eq _ _ _⟩
  · go_upto_region 6 with fail
    go_quiet (fail)
    go_wp2
    go_ret3
    exact ⟨_, _, rfl, rfl, fun _ => rfl, _, drew_eq _ _ _⟩
end Go.Proofs.YtllpoaoboieijaaGreat
/-
  ServeCrashes: Submit, Cancel and Tick of any server; the bytes of a record, read again.
-/
namespace Go.Proofs.YtllpoaoboieijaaGreat
open Go.RowKit

theorem cloglen {S : Srv} (h : CInv S) (hr : S.records ≤ 10000) : S.log.length ≤ 10000000 := by have := h.log; omega
theorem GoesNew.of {own : Nat → Lb} {sb : Nat} {L : Lay} {T : Srv} {w w' : World} (h : Goes own sb L Tin T w w') : GoesNew own sb T w w' := by
  obtain ⟨own', L', h1, -, h2⟩ := h
  exact ⟨own', L', h1, h2⟩
theorem csub_any (own : Nat → Lb) (sb : Nat) (L : Lay) (S : Srv) (q : Ask) (A : Option Addr) (c : Nat) (w : World) (h : SrvAt own w sb L S) (hi : CInv S) (hrec : S.records ≤ 10000) (hr : RdO own w (.slice A q.prompt.length c) (ints q.prompt)) :
    Calls Tryz.prog 13 #[.pointer (some ⟨sb, 0, none⟩), q.val A c] w fun e w' => ∃ T, e = .returned (.int .i64 (accAll S q)) ∧ GoesNew own sb T w w' ∧ (accAll S q = 0 → T = S.took q) ∧ (accAll S q ≠ 0 → T = S) := by
  have hf := hi.few
  have hacc : ∀ (own : Nat → Lb) (w : World), SrvAt own w sb L S → RdV w (.slice A q.prompt.length c) (ints q.prompt) → Calls Tryz.prog 32 #[.pointer (some ⟨sb, 0, none⟩), q.val A c] w fun e w' => e = .returned (.int .i64 (accAll S q)) ∧ ∃ own', SrvAt own' w' sb L S ∧ Ext own w own' w' Tloc := fun own w hs hr =>
    acc_any own sb L S q A c w hs (by rw [hi.voc]; decide) hr (by omega) hi.pn (by have := hi.wf.size0; have := hi.wf.size1; omega)
  by_cases hz : accAll S q = 0
  · have hok := askOk hz
    have hp0 := hok.p0
    rw [hz] at hacc
    obtain ⟨A0, c0, hv, h1, h2, h3⟩ := hr.1
    obtain ⟨b, o, hA, hc⟩ := h3 (by rw [ints_length]; omega)
    have hA' : A = some ⟨b, o, none⟩ := by injection hv with e1; rw [e1, hA]
    rw [hA'] at hacc hr ⊢
    refine (submit_ok own sb L S q b o c w h hr hacc ⟨by omega, hok.p1⟩ hok.new (cloglen hi hrec)).mono ?_
    rintro e w' ⟨rfl, own', L', h', x⟩
    exact ⟨S.took q, by rw [hz], ⟨own', L', h', x⟩, fun _ => rfl, fun n => absurd hz n⟩
  · refine (submit_no own sb L S q A c _ hz w h hr.1 hacc).mono ?_
    rintro e w' ⟨rfl, own', h', x⟩
    exact ⟨S, rfl, ⟨own', L, h', x.mono fun l e => by rw [show l = .loc from e]; intro f; cases f⟩, fun n => absurd n hz, fun _ => rfl⟩

theorem bodyTo_part (k : Int) (l : List Int) : ∀ (n i : Nat), i < n → ((bodyTo k l n).drop (1 + 4 * i)).take 4 = lowL (l.getD i 0) 4
  | n + 1, i, h => by
    have hl := bodyTo_length k l n
    by_cases e : i = n
    · subst e
      rw [bodyTo, List.drop_append_of_le_length (by omega), ← hl, List.drop_length, List.nil_append, List.take_of_length_le (by rw [lowL_length]; omega)]
    · have := bodyTo_part k l n i (by omega)
      rw [bodyTo, List.drop_append_of_le_length (by omega), List.take_append_of_le_length (by rw [List.length_drop]; omega)]
      exact this
theorem bodyL_part (k : Int) (l : List Int) (i : Nat) (h : i < l.length) : ((bodyL k l).drop (1 + 4 * i)).take 4 = lowL (l.getD i 0) 4 := bodyTo_part k l l.length i h
theorem bodyL_kind (k : Int) (l : List Int) : (bodyL k l).getD 0 0 = k % 256 := by
  have : ∀ n, (bodyTo k l n).getD 0 0 = k % 256 := fun n => by
    induction n with
    | zero => rfl
    | succ n ih =>
      have hl := bodyTo_length k l n
      rw [bodyTo, List.getD, List.getElem?_append_left (by omega)]
      exact ih
  exact this _
/-- A number of 32 bits, there and back. -/
theorem back32 (x : Int) (h : -2147483648 ≤ x ∧ x ≤ 2147483647) : w32 (x % 4294967296) = x := by
  unfold w32 wrap64 RowKit.wrap32; omega
end Go.Proofs.YtllpoaoboieijaaGreat
/-
  call: a record's call is made again.
-/
namespace Go.Proofs.YtllpoaoboieijaaGreat
open Go.RowKit

/-- What the end of a call is proved of, for each kind of record. -/
structure Parse (w : World) (wx : World) (v : Value) (n : Nat) (l : List Int) : Prop where
  bel : Below w.heap.size w wx
  row : wx.ownsRow w.heap.size 3 1 v n (ints l)
theorem ints_take_snoc (l : List Int) (i : Nat) (h : i < l.length) : ints (l.take i) ++ [Value.int .i64 (l.getD i 0)] = ints (l.take (i + 1)) := by
  rw [List.take_succ_eq_append_getElem h, ints, ints, List.map_append]
  simp [List.getD, h]
theorem row_some2 {w : World} {base : Nat} {t : TypeId} {sz : Nat} {A : Option Addr} {n c j : Nat} {xs : List Value} (h : w.ownsRow base t sz (.slice A n c) n xs) (hj : j < n) : ∃ g, A = some ⟨g, 0, none⟩ := by
  rcases h.2 with ⟨hv, hn⟩ | ⟨g, cap, cur, hv, -⟩
  · omega
  · injection hv with e; exact ⟨g, e⟩
set_option maxRecDepth 100000 in
set_option maxHeartbeats 3200000 in
theorem call_any (own : Nat → Lb) (sb : Nat) (L : Lay) (S T : Srv) (w : World) (h : SrvAt own w sb L S) (cmd : Cmd) (b o n c : Nat) (hr : RdO own w (.slice (some ⟨b, o, none⟩) n c) (bys (bodyL cmd.kind cmd.args))) (hl : cmd.args.length ≤ 37) (hin : ∀ x, x ∈ cmd.args → -2147483648 ≤ x ∧ x ≤ 2147483647) (hi : CInv S) (hrec : S.records ≤ 10000) (hd : Did cmd S T) :
    Calls Tryz.prog 52 #[.pointer (some ⟨sb, 0, none⟩), .slice (some ⟨b, o, none⟩) n c] w fun e w' => e = .returned (.bool true) ∧ GoesNew own sb T w w' := by
  have HI := Lib.hid (And.intro hi hrec)
  have HD := Lib.hid hd
  clear hi hrec hd
  have hcap := hr.1.caps
  rw [bys_length, bodyL_length] at hcap
  have hn := hcap.1
  have hb0 := rdv_cells hr.1 (by rw [hn, bodyL_length])
  have hk := hb0 0 (by omega)
  rw [bodyL_kind, add_plain, Nat.add_zero] at hk
  obtain ⟨m, hm⟩ : ∃ m, cmd.args.length = m := ⟨_, rfl⟩
  rw [hm] at hn hl
  have t1 : ((n : Int) == 0) = false := by simp; omega
  have t2 : ((n : Int).tmod 4 == 1) = true := by
    rw [Int.tmod_eq_emod_of_nonneg (by omega)]; simp; omega
  have t2' : ((n : Int).tmod 4 != 1) = false := by
    rw [Int.tmod_eq_emod_of_nonneg (by omega)]; simp; omega
  have t3 : (n : Int) % 4 = 1 := by omega
  have hc1 : 1 ≤ c := by omega
  have HR := Lib.hid hr
  have HN := Lib.hid hn
  have HM := Lib.hid hm
  have HIN := Lib.hid hin
  have H := Lib.hid h
  have hnp : (0 : Int) < n := by omega
  have hn1 : (1 : Int) ≤ n := by omega
  have hcp : (1 : Int) ≤ c := by omega
  generalize hkd : cmd.kind % 256 = kd at hk
  have HKD := Lib.hid hkd
  clear hkd hr hcap hb0 hm hin h hn
  obtain ⟨cc, hcc⟩ : ∃ cc, cc = c := ⟨c, rfl⟩
  have HCC := Lib.hid hcc
  clear hcc
  go_enter Tryz.func52, Tryz.ntmps52
  obtain rfl | hce := Decidable.em (c = 1)
  all_goals
    go_wp2
    clear t1 t2 t2' t3
    go_loopg [1, 6] m (fun gk s1 s6 wx => ∃ (i : Nat) (A1 : Option Addr) (n1 c1 : Nat), s1 = .slice A1 n1 c1 ∧ i ≤ m ∧ n1 = 4 * (m - i) ∧ c1 = cc - (1 + 4 * i) ∧ (i < m → A1 = some ⟨b, o + (1 + 4 * i), none⟩) ∧ Hid (Parse w wx s6 i (cmd.args.take i)) ∧ gk = m - i)
    case atStart => exact ⟨0, _, _, _, rfl, Nat.zero_le _, by have := HN.out; omega, by have := HCC.out; omega, fun e => by first | rfl | (have := HN.out; have := HR.out.1.caps; omega), Lib.hid ⟨Below.refl _ _, World.ownsRow_nil _ _ _ _⟩, rfl⟩
    case round =>
      obtain ⟨i, A1, n1, c1, rfl, hi, hn1, hc1, hA1, HPr, rfl⟩ := hrel
      by_cases hlt : i < m
      · obtain rfl := hA1 hlt
        have hcap := HR.out.1.caps
        rw [bys_length, bodyL_length, HM.out, ← HCC.out] at hcap
        have hn14 : (4 : Int) ≤ (n1 : Int) := by omega
        have hc14 : (4 : Int) ≤ (c1 : Int) := by omega
        have t4 : decide ((0 : Int) < (n1 : Int)) = true := decide_eq_true (by omega)
        have hX := HIN.out (cmd.args.getD i 0) (by
          rw [List.getD, List.getElem?_eq_getElem (by rw [HM.out]; exact hlt)]
          exact List.getElem_mem _)
        have hrd : RdV wr (.slice (some ⟨b, o + (1 + 4 * i), none⟩) 4 c1) (bys (lowL (cmd.args.getD i 0) 4)) := by
          have := rdv_part (HR.out.1.below HPr.out.bel) (by rw [HN.out, bodyL_length, HM.out]) (1 + 4 * i) 4 (by have := HN.out; omega)
          rw [bodyL_part _ _ _ (by rw [HM.out]; exact hlt)] at this
          rw [hc1, HCC.out]; exact this
        have HNUM := Lib.hid (num_at _ 4 (by rw [lowL_length]) (by omega) _ (num_low4 _) _ _ _ hrd)
        have HB32 : wrap64 (RowKit.wrap32 (cmd.args.getD i 0 % 4294967296)) = cmd.args.getD i 0 := back32 _ hX
        have HSN := Lib.hid (ints_take_snoc cmd.args i (by rw [HM.out]; exact hlt))
        generalize cmd.args.getD i 0 = x at HNUM HB32 HSN
        generalize hy : x % 4294967296 = y at HNUM HB32
        clear hy hX hrd
        obtain ⟨A6, c6, hv6⟩ := ownsRow_shape HPr.out.row
        subst hv6
        have HNC := Lib.hid (And.intro hn1 (And.intro hc1 hcap))
        obtain ⟨i0, hi3, hz0, hz1, hz2⟩ := info_parts info3
        have hb1 : i + 1 ≤ maxLen := by unfold maxLen; omega
        have hb2 : (i + 1) * 8 ≤ 140737488355328 := by omega
        have HIM := Lib.hid hlt
        clear hn1 hc1 hcap hA1 hlt
        by_cases h4 : c1 = 4
        · subst h4
          have H4 := Lib.hid (show (4 : Nat) = 4 from rfl)
          go_wp2_with (first | (go_at_call 48; refine HNUM.out.mono ?_; rintro e w1 ⟨rfl, hw1⟩; subst hw1) | (at_builtin; refine wpList_append_lies _ rfl _ _ 22 rfl w.heap.size 3 i0 (.int .i64 0) 1 8 Tryz.underlying22 hi3 hz0 hz1 hz2 rfl (by decide) _ i _ rfl (ownsRow_below HPr.out.row (Below.alloc (Below.refl _ _) (Nat.le_refl _) _)) ⟨w1.heap.size, 0, none⟩ 1 1 [.int .i64 x] rfl rfl (news1' _ _ _) (one_int _ _) Nat.one_pos hb1 hb2 (Nat.le_trans HPr.out.bel.size (alloc_le _ _)) _ rfl ?_; intro g8 cap8 w8 hown8 hgrow8 hat8 hlt8; have HP8 := Lib.hid (show Parse w w8 (.slice (some ⟨g8, 0, none⟩) (i + 1) cap8) (i + 1) (cmd.args.take (i + 1)) from ⟨Below.trans (HPr.out.bel.alloc HPr.out.bel.size _) (Below.ofGrown hgrow8 (Nat.le_trans HPr.out.bel.size (alloc_le _ _)) (ownsRow_base HPr.out.row)), by rw [← HSN.out]; exact hown8⟩); clear hown8 hgrow8 hat8 hlt8))
          go_roundg (m - (i + 1))
          case measure => have := HIM.out; omega
          case rel => exact ⟨i + 1, _, _, _, rfl, by have := HIM.out; omega, by have := HNC.out; omega, by have := HNC.out; have := H4.out; omega, fun e => by first | (rw [show o + (1 + 4 * (i + 1)) = o + (1 + 4 * i) + 4 by omega]; done) | (exfalso; have := HNC.out; have := H4.out; omega), HP8, rfl⟩
        · have H4 := Lib.hid h4
          go_wp2_with (first | (go_at_call 48; refine HNUM.out.mono ?_; rintro e w1 ⟨rfl, hw1⟩; subst hw1) | (at_builtin; refine wpList_append_lies _ rfl _ _ 22 rfl w.heap.size 3 i0 (.int .i64 0) 1 8 Tryz.underlying22 hi3 hz0 hz1 hz2 rfl (by decide) _ i _ rfl (ownsRow_below HPr.out.row (Below.alloc (Below.refl _ _) (Nat.le_refl _) _)) ⟨w1.heap.size, 0, none⟩ 1 1 [.int .i64 x] rfl rfl (news1' _ _ _) (one_int _ _) Nat.one_pos hb1 hb2 (Nat.le_trans HPr.out.bel.size (alloc_le _ _)) _ rfl ?_; intro g8 cap8 w8 hown8 hgrow8 hat8 hlt8; have HP8 := Lib.hid (show Parse w w8 (.slice (some ⟨g8, 0, none⟩) (i + 1) cap8) (i + 1) (cmd.args.take (i + 1)) from ⟨Below.trans (HPr.out.bel.alloc HPr.out.bel.size _) (Below.ofGrown hgrow8 (Nat.le_trans HPr.out.bel.size (alloc_le _ _)) (ownsRow_base HPr.out.row)), by rw [← HSN.out]; exact hown8⟩); clear hown8 hgrow8 hat8 hlt8))
          go_roundg (m - (i + 1))
          case measure => have := HIM.out; omega
          case rel => exact ⟨i + 1, _, _, _, rfl, by have := HIM.out; omega, by have := HNC.out; omega, by have := HNC.out; have := H4.out; omega, fun e => by first | (rw [show o + (1 + 4 * (i + 1)) = o + (1 + 4 * i) + 4 by omega]; done) | (exfalso; have := HNC.out; have := H4.out; omega), HP8, rfl⟩
      · obtain rfl : i = m := by omega
        have hP := HPr.out
        rw [List.take_of_length_le (by rw [HM.out]; exact Nat.le_refl _)] at hP
        have hn0 : n1 = 0 := by omega
        subst hn0
        have HP := Lib.hid hP
        clear hP hn1 hc1 hA1 hlt hi
        cases cmd with
        | tick =>
          obtain rfl : kd = 4 := by have := HKD.out; simpa [Cmd.kind] using this.symm
          obtain rfl : i = 0 := by have := HM.out; simpa [Cmd.args] using this.symm
          obtain ⟨A6, c6, hv6⟩ := ownsRow_shape HP.out.row
          subst hv6
          have HS := Lib.hid (H.out.below HP.out.bel)
          have HTK := Lib.hid (tick_any compute_any next_said tokOk _ sb L S wr HS.out HI.out.1.wf (by have := HI.out.1.few; omega) (cloglen HI.out.1 HI.out.2) (by have := HI.out.2; omega))
          go_wp2_with (go_at_call 14; refine HTK.out.mono ?_; rintro e w9 ⟨ys, zs, hys, hzs, rfl, own9, L9, h9, -, x9⟩; have HYZ := Lib.hid (And.intro hys hzs); have H9 := Lib.hid h9; have X9 := Lib.hid x9; clear hys hzs h9 x9)
          go_ret
          have hT : T = S.ticked tokF ys zs := did_uniq HI.out.1 HD.out ⟨ys, zs, HYZ.out.1, HYZ.out.2, rfl⟩
          exact ⟨rfl, own9, L9, by rw [hT]; exact H9.out, (Ext.below HP.out.bel Tin .other).trans X9.out⟩
        | sub q =>
          obtain rfl : kd = 1 := by have := HKD.out; simpa [Cmd.kind] using this.symm
          obtain ⟨hacc, h9, h200, hT⟩ := HD.out
          have hok := askOk hacc
          have hp0 := hok.p0
          have hp1 := hok.p1
          have HACC := Lib.hid (And.intro hacc hT)
          obtain ⟨pl, hpl⟩ : ∃ pl, q.prompt.length = pl := ⟨_, rfl⟩
          obtain rfl : i = pl + 5 := by have := HM.out; rw [← this]; simp [Cmd.args, Ask.args, hpl]
          obtain ⟨A6, c6, hv6⟩ := ownsRow_shape HP.out.row
          subst hv6
          obtain ⟨g6, rfl⟩ := row_some2 (j := 0) HP.out.row (Nat.succ_pos _)
          have hcells := fun j u h => (add_plain g6 0 j) ▸ HP.out.row.cells (g := g6) rfl j u h
          have q0 := hcells 0 (.int .i64 q.id) rfl
          have q1 := hcells 1 (.int .i64 q.deadline) rfl
          have q2 := hcells 2 (.int .i64 q.most) rfl
          have q3 := hcells 3 (.int .i64 q.seed) rfl
          have q4 := hcells 4 (.int .i64 (q.prompt.length : Int)) rfl
          rw [hpl] at hp0 hp1 q4
          simp only [Nat.zero_add] at q0 q1 q2 q3 q4
          have HPL := Lib.hid (And.intro hpl (And.intro hp0 hp1))
          have HCELLS := Lib.hid hcells
          have pp : (0 : Int) < (pl : Int) := by omega
          have pq : (pl : Int) ≤ 32 := by omega
          have hc6 := (rdv_row HP.out.row).caps
          have hg6 := (HP.out.row.lt g6 rfl).1
          have c65 : ¬ c6 = 5 := by omega
          have c55 : (5 : Int) ≤ (c6 : Int) := by omega
          have hro : RdO (relab own w.heap.size .other) wr.drew (.slice (some ⟨g6, 5, none⟩) q.prompt.length (c6 - 5)) (ints q.prompt) := by
            refine ⟨⟨_, c6 - 5, by rw [ints_length], by rw [ints_length]; omega, by omega, fun _ => ⟨g6, 5, rfl, fun j hj => ?_⟩⟩, fun _ k hk => ?_⟩
            · show wr.cell? _ = _
              have hcj := HCELLS.out (5 + j) (ints q.prompt)[j] (by
                have e : ints (Cmd.sub q).args = [.int .i64 q.id, .int .i64 q.deadline, .int .i64 q.most, .int .i64 q.seed, .int .i64 (q.prompt.length : Int)] ++ ints q.prompt := rfl
                rw [e, List.getElem?_append_right (by simp)]
                simp only [List.length_cons, List.length_nil]
                rw [show 5 + j - (0 + 1 + 1 + 1 + 1 + 1) = j by omega, List.getElem?_eq_getElem hj])
              rwa [Nat.zero_add] at hcj
            · have : g6 = k := by simpa [Value.ownBlock] using hk
              rw [← this]; exact relab_new _ hg6
          have hsub := csub_any _ sb L S q (some ⟨g6, 5, none⟩) (c6 - 5) wr.drew (by have := (H.out.below HP.out.bel).drewN 1; exact this) HI.out.1 HI.out.2 hro
          simp only [Ask.val, hpl, hacc] at hsub
          have HSUB := Lib.hid hsub
          clear hacc h9 h200 hT hok hpl hcells hp0 hp1 hc6 hg6 hro hsub
          go_upto_region 10 with fail
          have f0 : (0 : Int) < (pl : Int) + 5 := by omega
          have f1 : (1 : Int) < (pl : Int) + 5 := by omega
          have f2 : (2 : Int) < (pl : Int) + 5 := by omega
          have f3 : (3 : Int) < (pl : Int) + 5 := by omega
          have f5 : (5 : Int) ≤ (pl : Int) + 5 := by omega
          refine wp_region_still_tail 16 (by kernel_rfl) (by kernel_rfl) ?_
          simp only [List.take_succ_cons, List.take_zero, List.drop_succ_cons, List.drop_zero]
          repeat still_step
          refine wpStill_nil ?_
          go_wp2_with (go_at_call 13; refine HSUB.out.mono ?_; rintro e w9 ⟨T', rfl, hg9, hT9, -⟩; have HG9 := Lib.hid hg9; have HT9 := Lib.hid hT9; clear hg9 hT9)
          go_ret
          obtain ⟨own9, L9, h9, x9⟩ := HG9.out
          refine ⟨rfl, own9, L9, ?_, (Ext.below HP.out.bel Tin .other).trans ?_⟩
          · rw [HACC.out.2, ← HT9.out trivial]; exact h9
          · exact ⟨x9.os, x9.tape, x9.output, x9.size, x9.lab, x9.keep⟩
        | can id =>
          obtain rfl : kd = 2 := by have := HKD.out; simpa [Cmd.kind] using this.symm
          obtain rfl : i = 1 := by have := HM.out; simpa [Cmd.args] using this.symm
          obtain ⟨r, hg, ho, hT⟩ := HD.out
          obtain rfl : r.id = id := (get_mem hg).2
          have HS := Lib.hid (H.out.below HP.out.bel)
          have HCN := Lib.hid (cancel_open _ sb L S r wr HS.out HI.out.1 HI.out.2 hg ho)
          have HT := Lib.hid hT
          obtain ⟨A6, c6, hv6⟩ := ownsRow_shape HP.out.row
          subst hv6
          obtain ⟨g6, rfl⟩ := row_some2 (j := 0) HP.out.row Nat.one_pos
          have q0 : wr.cell? ⟨g6, 0, none⟩ = some (.int .i64 r.id) := by
            have := HP.out.row.cells (g := g6) rfl 0 (.int .i64 r.id) rfl
            rwa [add_plain] at this
          clear hg ho hT
          go_wp2_with (go_at_call 21; refine HCN.out.mono ?_; rintro e w9 ⟨rfl, hg9⟩; have HG9 := Lib.hid hg9; clear hg9)
          go_ret
          obtain ⟨own9, L9, h9, -, x9⟩ := HG9.out
          exact ⟨rfl, own9, L9, by rw [HT.out]; exact h9, (Ext.below HP.out.bel Tin .other).trans x9⟩
end Go.Proofs.YtllpoaoboieijaaGreat
