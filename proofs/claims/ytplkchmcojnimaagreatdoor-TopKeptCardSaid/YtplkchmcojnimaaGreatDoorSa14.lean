/-
  models: single.
  models: Gather: the errors.
-/
import Derived.Test.YtplkchmcojnimaaGreatDoorSa13
/-
  models: single.
-/
namespace Go.Proofs.YtplkchmcojnimaaGreatDoor
open Go.RowKit

theorem quiet_add {P : Program} {f : FuncId} {args : Array Value} {w : World} {a n : Nat} {v : Value}
    (h : Calls P f args (w.drewN (a + n)) fun e w' => e = .returned v ∧ ∃ m, w' = (w.drewN (a + n)).drewN m) :
    Calls P f args (w.drewN (a + n)) fun e w'' => e = .returned v ∧ ∃ m, w'' = w.drewN (a + m) :=
  h.mono fun _ _ ⟨he, m, hm⟩ => ⟨he, n + m, by rw [hm, World.drewN_drewN, Nat.add_assoc]⟩
/-- What single answers, and when. -/
structure SCase (B : List Int) (n : Nat) (ls : List (List Int)) (js : Nat → Nat) (t : Nat) (k : Int) : Prop where
  good : ∀ i, i < t → ls.getD i [] = shard B n (js i) ∧ js i < n
  new : ∀ i, i < t → ∀ j, j < i → js j ≠ js i
  le : t ≤ ls.length
  stop : (k = 0 ∧ t = ls.length) ∨ (k = 6 ∧ t < ls.length ∧ ls.getD t [] = shard B n (js t) ∧ js t < n ∧ ∃ j, j < t ∧ js j = js t) ∨ (k = 12 ∧ t < ls.length ∧ Bytes (ls.getD t []) ∧ 12 ≤ (ls.getD t []).length ∧ intactB (ls.getD t []) = false)

set_option maxRecDepth 100000 in
set_option maxHeartbeats 3200000 in
theorem single_any (B : List Int) (hB : Bytes B) (n : Nat) (hn : 1 ≤ n ∧ n ≤ 64) (ls : List (List Int)) (js : Nat → Nat) (t : Nat) (k : Int) (hS : SCase B n ls js t k) (h0 : 0 < ls.length) (V : List Value) (b0 o0 N c0 : Nat) (w : World) (hV : RdV w (.slice (some ⟨b0, o0, none⟩) N c0) V) (hL : ShR w V ls) :
    Calls Tryz.prog 40 #[.slice (some ⟨b0, o0, none⟩) N c0] w fun e w' => ∃ mp, e = .returned (.tuple #[.map mp, .int .i64 k]) ∧ Hid (k = 0 → ∃ mb E, mp = some mb ∧ MpAt w' mb E t ∧ EInv w' B n js t E) ∧ Hid (Below w.heap.size w w') := by
  have hN : N = ls.length := by have := hV.caps; rw [hL.len] at this; omega
  have HN := Lib.hid hN
  have HS := Lib.hid hS
  have HV := Lib.hid hV
  have HL := Lib.hid hL
  have HB := Lib.hid hB
  have HH := Lib.hid hn
  have H0 := Lib.hid h0
  have hNN : ((N : Int) == 0) = false := by simp; omega
  have hcap := hV.caps
  have hcm : N ≤ 9223372036854775807 := by have h1 := hcap.2.1; have h2 := hcap.2.2; unfold maxLen at h2; omega
  have hmm : ∀ W : World, Sem.run Tryz.prog (Instr.makeMap 73 none) W = .ok (.map (some W.heap.size)) (W.alloc (.map #[] 0)) := fun W => make_map W
  clear hV hL hB hn hS h0 hN hcap
  go_enter Tryz.func40, Tryz.ntmps40
  go_wp2
  have HMM := Lib.hid hmm
  clear hmm
  go_loopg [15] ls.length (fun gk s15 wx => ∃ (i : Nat) (E : List Ent), s15 = .int .i64 i ∧ i ≤ t ∧ gk = ls.length - i ∧ Hid (MpAt wx w.heap.size E i) ∧ Hid (EInv w B n js i E) ∧ Hid (Below w.heap.size w wx))
  case atStart => exact ⟨0, [], rfl, Nat.zero_le _, rfl, Lib.hid (heap_alloc_new w _), Lib.hid (EInv.nil _ _ _ _), Lib.hid ((Below.refl _ _).alloc (Nat.le_refl _) _)⟩
  case round =>
    obtain ⟨i, E, rfl, hit, rfl, HM, HE, HBW⟩ := hrel
    have hle := HS.out.le
    have hnl := HN.out
    have HVr := Lib.hid (HV.out.below HBW.out)
    have HLr := Lib.hid (HL.out.below HBW.out)
    by_cases hend : i = ls.length
    · have hiN : ¬ i < N := by omega
      have ht : t = ls.length := by omega
      have hk : k = 0 := by
        rcases HS.out.stop with h | h | h
        · exact h.1
        · omega
        · omega
      subst hk
      have HT := Lib.hid (show i = t by omega)
      clear hend hnl hle ht hit
      go_wp2
      go_ret2
      exact ⟨_, rfl, Lib.hid ⟨_, rfl, E, by rw [← HT.out]; exact HM.out, by rw [← HT.out]; exact HE.out.below HBW.out⟩, HBW⟩
    · have hiN : i < N := by omega
      have hil : i < ls.length := by omega
      -- the element at hand: its ten-th byte is some number
      have h12 : 12 ≤ (ls.getD i []).length ∧ Bytes (ls.getD i []) := by
        by_cases c : i < t
        · obtain ⟨g1, g2⟩ := HS.out.good i c
          obtain ⟨s1, -, -, -, -, -, -, -, s9⟩ := shard_shape HB.out HH.out g2 _ g1
          exact ⟨by omega, s9⟩
        · have : i = t := by omega
          subst this
          rcases HS.out.stop with h | h | h
          · omega
          · obtain ⟨s1, -, -, -, -, -, -, -, s9⟩ := shard_shape HB.out HH.out h.2.2.2.1 _ h.2.2.1
            exact ⟨by omega, s9⟩
          · exact ⟨h.2.2.2.1, h.2.2.1⟩
      obtain ⟨g, p, c, c1w, hrw⟩ := shr_at HV.out HL.out hil h12.1
      have c1 : wr.cell? ⟨b0, o0 + i, none⟩ = some (.slice (some ⟨g, p, none⟩) (ls.getD i []).length c) := by rw [HBW.out.cell (p := ⟨b0, o0 + i, none⟩) (World.block_lt_of_cell? w _ c1w)]; exact c1w
      have hr := hrw.below HBW.out
      clear c1w
      have HI := Lib.hid (intact_any (ls.getD i []) h12.2 (by omega) _ _ _ wr hr)
      have HR := Lib.hid hr
      have c10 := byte_at hr (i := 10) (by omega)
      obtain ⟨y, hy⟩ : ∃ y : Nat, (ls.getD i []).getD 10 0 = (y : Int) ∧ y < 256 := h12.2.getD 10
      rw [hy.1] at c10
      have hlen := h12.1
      have hL' : (ls.getD i []).length ≤ 9223372036854775807 := by have h1 := hr.caps.2.1; have h2 := hr.caps.2.2; unfold maxLen at h2; omega
      have e1 : IntKind.i64.wrap (y : Int) = (y : Int) := IntWalk.i64_in _ (by omega)
      have t1 : ¬ ((ls.getD i []).length : Int) < 12 := by omega
      have t2 : 10 < (ls.getD i []).length := by omega
      by_cases hbad : intactB (ls.getD i []) = false
      · have hk : k = 12 := by
          by_cases c : i < t
          · obtain ⟨g1, g2⟩ := HS.out.good i c
            have := (shard_shape HB.out HH.out g2 _ g1).2.2.2.2.2.2.2.1
            rw [this] at hbad; cases hbad
          · have : i = t := by omega
            subst this
            rcases HS.out.stop with h | h | h
            · omega
            · have := (shard_shape HB.out HH.out h.2.2.2.1 _ h.2.2.1).2.2.2.2.2.2.2.1
              rw [this] at hbad; cases hbad
            · exact h.1
        subst hk
        have HBD := Lib.hid hbad
        clear hbad hend hil h12 hnl hle hit hy hlen hrw
        generalize ls.getD i [] = s at *
        go_wp2_with (first | (at_lookup; refine wl_lookup HM.out rfl _ _ rfl rfl y rfl ?_) | (go_at_call 34; refine HI.out.mono ?_; rintro e wz ⟨rfl, m1, hz⟩; subst wz; rw [HBD.out]))
        go_ret2
        exact ⟨_, rfl, Lib.hid (fun h => absurd h (by decide)), Lib.hid (below_drewN HBW.out m1)⟩
      · have hsg : (ls.getD i []) = shard B n (js i) ∧ js i < n ∧ 0 < t := by
          by_cases c : i < t
          · exact ⟨(HS.out.good i c).1, (HS.out.good i c).2, by omega⟩
          · have : i = t := by omega
            subst this
            rcases HS.out.stop with h | h | h
            · omega
            · exact ⟨h.2.2.1, h.2.2.2.1, by obtain ⟨j, hj, -⟩ := h.2.2.2.2; omega⟩
            · exact absurd h.2.2.2.2 hbad
        have HTW := Lib.hid (show i < t ∨ (k = 6 ∧ ∃ j, j < i ∧ js j = js i) by
          by_cases c : i < t
          · exact .inl c
          · have : i = t := by omega
            subst this
            rcases HS.out.stop with h | h | h
            · omega
            · exact .inr ⟨h.1, h.2.2.2.2⟩
            · exact absurd h.2.2.2.2 hbad)
        obtain ⟨s1, s4, s5, s10, s11, s6, sd, si, -⟩ := shard_shape HB.out HH.out hsg.2.1 _ hsg.1
        obtain ⟨z1, -, -, -, z11, z6, -, -, -⟩ := shard_shape HB.out HH.out (HS.out.good 0 hsg.2.2).2 _ (HS.out.good 0 hsg.2.2).1
        obtain ⟨g0, p0, d0, f0, hr0⟩ := shr_at HVr.out HLr.out (k := 0) H0.out (by omega)
        have c4 := byte_at hr (i := 4) (by omega)
        have c5 := byte_at hr (i := 5) (by omega)
        have c11 := byte_at hr (i := 11) (by omega)
        have f11 := byte_at hr0 (i := 11) (by omega)
        rw [s4] at c4
        rw [s5] at c5
        rw [s11] at c11
        rw [z11] at f11
        rw [Nat.add_zero] at f0
        have hy1 : y = js i := by have := hy.1; rw [s10] at this; omega
        subst hy1
        have hq1 := rdv_part hr rfl 6 4 (by omega)
        have hq2 := rdv_part hr0 rfl 6 4 (by omega)
        rw [s6] at hq1
        rw [z6] at hq2
        have HEQ := Lib.hid (fun m => equal_same (low4 (crcOf B)) _ _ _ _ _ (wr.drewN m) (hq1.drewN m) (hq2.drewN m))
        have HRE := Lib.hid (fun A hA => rdv_rest hrw rfl 12 (by omega) A hA)
        have HSI := Lib.hid (show intactB (ls.getD i []) = true from si)
        have HSD := Lib.hid sd
        have hz12 : 12 ≤ (ls.getD 0 []).length := by omega
        have hlc := hr.caps.2.1
        have hlc0 := hr0.caps.2.1
        have hjn := hsg.2.1
        have HT := Lib.hid hsg.2.2
        have hn1 := HH.out.1
        have hn2 := HH.out.2
        clear hrw
        clear hbad hend hsg s1 s4 s5 s10 s11 s6 sd si z1 z11 z6 hq1 hq2 hy hr hr0 h12 hnl hle
        generalize ls.getD i [] = s at *
        generalize ls.getD 0 [] = s0 at *
        have u1 : (10 : Int) ≤ (c : Int) := by omega
        have u2 : (10 : Int) ≤ (d0 : Int) := by omega
        have u3 : ¬ c = 6 := by omega
        have u4 : ¬ d0 = 6 := by omega
        have u5 : 0 < N := by omega
        have u6 : (0 : Int) < (N : Int) := by omega
        have u7 : 11 < s.length := by omega
        have u8 : (11 : Int) < (s.length : Int) := by omega
        have u9 : (10 : Int) < (s.length : Int) := by omega
        have u10 : 11 < s0.length := by omega
        have u11 : (11 : Int) < (s0.length : Int) := by omega
        have u12 : 4 < s.length := by omega
        have u13 : 5 < s.length := by omega
        have d1 : decide ((n : Int) < 1) = false := decide_eq_false (by omega)
        have d2 : decide (64 < (n : Int)) = false := decide_eq_false (by omega)
        have d3 : decide ((n : Int) ≤ (js i : Int)) = false := decide_eq_false (by omega)
        by_cases hnew : i < t
        · have hget := HE.out.new (fun k hk => HS.out.new i hnew k hk)
          have HG := Lib.hid hget
          clear hget
          go_upto_region 14 with (first | (at_lookup; refine wl_lookup HM.out rfl _ _ rfl rfl (js i) rfl ?_; rw [HG.out]; simp only [valE, Option.isSome_none]) | (go_at_call 34; refine HI.out.mono ?_; rintro e wz ⟨rfl, m1, hz⟩; subst wz; rw [HSI.out]))
          go_quiet (fail)
          go_upto_region 16 with fail
          go_quiet (first | (go_at_call 37; with_reducible exact quiet_add (HEQ.out _)))
          go_upto_region 20 with fail
          generalize hw5 : World.drewN (World.drewN (World.drewN wr m1) _) _ = w5
          have x10 : w5.cell? ⟨g, p + 10, none⟩ = some (.int .u8 (js i)) := by rw [← hw5]; exact c10
          have HM5 := Lib.hid (show MpAt w5 w.heap.size E i by rw [← hw5]; exact HM.out)
          have HB5 := Lib.hid (show Below w.heap.size w w5 by rw [← hw5]; exact below_drewN (below_drewN (below_drewN HBW.out _) _) _)
          clear hw5
          go_still_tail 7, (by kernel_rfl)
          by_cases v12 : c = 12
          · subst v12
            have HPV := Lib.hid (show ∀ v A, v = Value.slice A (s.length - 12) 0 → PartV w B n (js i) v from fun v A e => ⟨A, 0, by rw [e, ← HSD.out, List.length_drop], by
              have := HRE.out A (fun h => absurd rfl h)
              rw [HSD.out] at this
              rwa [← HSD.out, List.length_drop, HSD.out]⟩)
            clear HRE
            go_wp2_with (refine wl_update (show MpAt _ w.heap.size E i from HM5.out) rfl _ _ _ rfl rfl (js i) rfl HG.out ?_; intro w6 hm6 hk6; have HM6 := Lib.hid hm6; have HK6 := Lib.hid hk6; clear hm6 hk6)
            go_roundg (ls.length - (i + 1))
            case measure => omega
            case rel => exact ⟨i + 1, _, by go_num, by omega, rfl, HM6, Lib.hid (HE.out.add (HPV.out _ _ rfl) i), Lib.hid (HB5.out.trans ((below_drawn w5 1).mono (by have := HB5.out.size; omega) |>.trans (HK6.out.below (Nat.le_refl _) (by have := HB5.out.size; exact this))))⟩
          · have HPV := Lib.hid (show ∀ v, v = Value.slice (if c = 12 then some ⟨g, p, none⟩ else some ⟨g, p + 12, none⟩) (s.length - 12) (c - 12) → PartV w B n (js i) v from fun v e => ⟨some ⟨g, p + 12, none⟩, c - 12, by rw [e, if_neg v12, ← HSD.out, List.length_drop], by
              have := HRE.out _ (fun _ => rfl)
              rw [HSD.out] at this
              rwa [← HSD.out, List.length_drop, HSD.out]⟩)
            clear HRE
            go_wp2_with (refine wl_update (show MpAt _ w.heap.size E i from HM5.out) rfl _ _ _ rfl rfl (js i) rfl HG.out ?_; intro w6 hm6 hk6; have HM6 := Lib.hid hm6; have HK6 := Lib.hid hk6; clear hm6 hk6)
            go_roundg (ls.length - (i + 1))
            case measure => omega
            case rel => exact ⟨i + 1, _, by go_num, by omega, rfl, HM6, Lib.hid (HE.out.add (HPV.out _ rfl) i), Lib.hid (HB5.out.trans ((below_drawn w5 1).mono (by have := HB5.out.size; omega) |>.trans (HK6.out.below (Nat.le_refl _) (by have := HB5.out.size; exact this))))⟩
        · obtain ⟨rfl, j, hj, hjt⟩ := HTW.out.resolve_left hnew
          obtain ⟨v, hv⟩ := HE.out.all j hj
          rw [hjt] at hv
          have HG := Lib.hid hv
          clear hv hjt hj hnew HTW
          go_upto_region 14 with (first | (at_lookup; refine wl_lookup HM.out rfl _ _ rfl rfl (js i) rfl ?_; rw [HG.out]; simp only [valE, Option.isSome_some]) | (go_at_call 34; refine HI.out.mono ?_; rintro e wz ⟨rfl, m1, hz⟩; subst wz; rw [HSI.out]))
          go_quiet (fail)
          go_upto_region 16 with fail
          go_quiet (first | (go_at_call 37; with_reducible exact quiet_add (HEQ.out _)))
          go_wp2
          go_ret2
          exact ⟨_, rfl, Lib.hid (fun h => absurd h (by decide)), Lib.hid (below_drewN (below_drewN (below_drewN HBW.out _) _) _)⟩
end Go.Proofs.YtplkchmcojnimaaGreatDoor
/-
  models: Gather: the errors.
-/
namespace Go.Proofs.YtplkchmcojnimaaGreatDoor
open Go.RowKit

theorem wpList_append_part2 {P : Program} {w : World} {ops : Array Oper} {rest : List Oper} {o : Oper} {a : Act} {Q : Exit → Act → World → Prop} (hgd : o.guard = none) (s x : Operand) (t : TypeId)
    (ho : o.op = .call { callee := .builtin .append, args := #[s, x], argTypes := #[t, t] })
    (base : Nat) (i : TypeInfo) (ht : P.underlying t = some (.slice 5)) (hi : P.info? 5 = some i) (hz : i.zero = some (.int .u8 0)) (hsize : i.size = 1) (hby : i.bytes = 1)
    (v : Value) (n : Nat) (xs : List Value) (hs : a.eval s = v) (hown : w.ownsRow base 5 1 v n xs) (A : Option Addr) (m c : Nat) (hn : 0 < n + m)
    (l : List Int) (hx : a.eval x = .slice A m c) (hr : RdV w (.slice A m c) (bys l)) (hlen : n + m ≤ 1000000) (hbase : base ≤ w.heap.size)
    (h : ∀ g cap w', w'.ownsRow base 5 1 (.slice (some ⟨g, 0, none⟩) (n + m) cap) (n + m) (xs ++ bys l) → w.grownBy w' v.ownBlock → wpList P ops Q rest (a.put o.dst (.slice (some ⟨g, 0, none⟩) (n + m) cap)) w') : wpList P ops Q (o :: rest) a w := by
  obtain ⟨hm, -⟩ := hr.len
  by_cases h0 : 0 < n
  · exact wpList_append_part hgd s x t ho base i ht hi hz hsize hby v n xs hs hown h0 A m c l hx hr hlen hbase h
  · obtain ⟨b, of, rfl, -⟩ := hr.at (i := 0) (by omega)
    have hcells := rdv_cells hr hm
    refine wpList_append_lies _ hgd s x t ho base 5 i (.int .u8 0) 1 1 ht hi hz hsize hby rfl (by decide) v n xs hs hown ⟨b, of, none⟩ m c (bys l) hx (by rw [bys_length]; omega) (fun j u hj => ?_) (one_bys _) (by omega) (by unfold maxLen; omega) (by omega) hbase _ rfl (fun g cap w' h1 h2 _ _ => h g cap w' h1 h2)
    have hjl : j < l.length := by
      have := (List.getElem?_eq_some_iff.1 hj).1
      rw [bys_length] at this; exact this
    rw [hcells j (by omega), ← hj]
    simp [bys, List.getD, hjl]
theorem results_row2 {fn : Func} {a u : Tmp} (hf : fn.results = #[.cell a 27, .tmp u]) (tmps : Array Value) (w : World) (r : Nat) (l : List Value) (hl : l.length = 11) (hr : tmps.getD a undef = .pointer (some ⟨r, 0, none⟩)) (h : Blk w r l 27) :
    (results fn tmps).run Tryz.prog w = .ok (.tuple #[.agg l.toArray, tmps.getD u undef]) w := by
  have e1 : (loadVar 27 ⟨r, 0, none⟩).run Tryz.prog w = .ok (.agg l.toArray) w := by
    have hi : (Tryz.prog.info? 27).map (·.size) = some 11 := by kernel_rfl
    exact run_loadVar_row (P := Tryz.prog) w r 27 27 l.toArray (0, 0) _ h Tryz.underlying27 rfl (by rw [hi, ← hl]; rfl)
  rw [results_cell_tmp hf, hr]
  simp only [asAddr, Sem.run_pure, Result.andThen_ok]
  rw [e1]
  rfl
set_option maxRecDepth 100000 in
set_option maxHeartbeats 800000 in
theorem single_empty (A : Option Addr) (c : Nat) (w : World) :
    Calls Tryz.prog 40 #[.slice A 0 c] w fun e w' => e = .returned (.tuple #[.map none, .int .i64 13]) ∧ w' = w := by
  go_enter Tryz.func40, Tryz.ntmps40
  go_wp2
  go_ret2
  exact ⟨rfl, rfl⟩
set_option maxRecDepth 100000 in
set_option maxHeartbeats 1600000 in
theorem gather_bad (v : Value) (k : Int) (hk : k ≠ 0) (w : World) (h : ∀ w0, Below w.heap.size w w0 → Calls Tryz.prog 40 #[v] w0 fun e w' => ∃ mp, e = .returned (.tuple #[.map mp, .int .i64 k]) ∧ Hid (Below w0.heap.size w0 w')) :
    Calls Tryz.prog 17 #[v] w fun e w' => e = .returned (.tuple #[.agg zero27.toArray, .int .i64 k]) ∧ Hid (Below w.heap.size w w') := by
  obtain ⟨w0, hw0, hb0, hk0⟩ : ∃ w0, w.alloc (.cells zero27.toArray 27) = w0 ∧ Below w.heap.size w w0 ∧ Blk w0 w.heap.size zero27 27 := ⟨_, rfl, (Below.refl _ _).alloc (Nat.le_refl _) _, heap_alloc_new w _⟩
  have HB0 := Lib.hid hb0
  have HK0 := Lib.hid hk0
  have HC := Lib.hid (h w0 hb0)
  have d0 : (k != 0) = true := by simpa using hk
  clear hb0 hk0 h hk
  simp only [zero27] at hw0
  go_enter Tryz.func17, Tryz.ntmps17
  go_wp2_with (go_at_call 40; refine HC.out.mono ?_; rintro e w1 ⟨mp, rfl, HB1⟩; have HR1 := Lib.hid (HK0.out.below HB1.out); have q1 := HR1.out.cell; have r1 := HR1.out.frozen; simp only [zero27] at q1)
  refine bodyPost_ret (results_row2 rfl _ _ w.heap.size zero27 rfl rfl (set27 HR1.out rfl zMD zMP).1) rfl ?_
  exact ⟨rfl, Lib.hid ((HB0.out.trans (HB1.out.mono HB0.out.size)).trans (set27 HR1.out rfl zMD zMP).2.2.2)⟩
end Go.Proofs.YtplkchmcojnimaaGreatDoor
