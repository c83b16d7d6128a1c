/-
  models: Gather: the parts are put together.
  wefttop: h10kept.
  slices: Clone of bytes and of slices of bytes.
-/
import Derived.Test.YtplkchmcojnimaaGreatDoorSa9
import Derived.Test.YtplkchmcojnimaaGreatDoorSa14
/-
  models: Gather: the parts are put together.
-/
namespace Go.Proofs.YtplkchmcojnimaaGreatDoor
open Go.RowKit

def accB (B : List Int) (n i : Nat) : List Int := B.take (shOff B.length n i)
theorem accB_succ (B : List Int) (n i : Nat) : accB B n (i + 1) = accB B n i ++ part B n i := by
  unfold accB part
  rw [shOff_succ, List.take_add]
theorem accB_len (B : List Int) (n i : Nat) (hn : 0 < n) (hi : i ≤ n) : (accB B n i).length = shOff B.length n i := by
  have := shOff_le B.length n i hn hi
  unfold accB
  rw [List.length_take]; omega
theorem accB_end (B : List Int) (n : Nat) (hn : 0 < n) : accB B n n = B := by
  unfold accB
  rw [shOff_end _ _ hn, List.take_length]
theorem shOff_pos (L n i : Nat) (hL : 0 < L) : 0 < shOff L n (i + 1) := by
  have h1 := shOff_mono L n 1 i
  have h2 : 0 < shOff L n 1 := by
    rw [shOff_succ]
    unfold shOff shSize
    by_cases h : 0 < L % n
    · rw [if_pos h]; exact Nat.lt_of_lt_of_le (Nat.lt_of_lt_of_le Nat.zero_lt_one (Nat.le_add_left 1 (L / n))) (Nat.le_add_left _ _)
    · rw [if_neg h]
      have h3 := Nat.div_add_mod L n
      have h4 : 0 < L / n := by
        rcases Nat.eq_zero_or_pos (L / n) with e | e
        · rw [e] at h3; omega
        · exact e
      omega
  rw [Nat.add_comm] at h1
  omega
set_option maxRecDepth 100000 in
set_option maxHeartbeats 3200000 in
theorem gather_any (m : MD) (hm : m.Ok) (n : Nat) (hn : 1 ≤ n ∧ n ≤ 64) (ls : List (List Int)) (js : Nat → Nat) (hS : SCase m.bytes n ls js ls.length 0) (h0 : 0 < ls.length) (lim : Nat) (hlim : lim ≤ n) (hin : ∀ j, j < lim → ∃ k, k < ls.length ∧ js k = j) (hout : lim < n → ∀ k, k < ls.length → js k ≠ lim)
    (V : List Value) (b0 o0 N c0 : Nat) (w : World) (hV : RdV w (.slice (some ⟨b0, o0, none⟩) N c0) V) (hL : ShR w V ls) :
    Calls Tryz.prog 17 #[.slice (some ⟨b0, o0, none⟩) N c0] w fun e w' => Hid ((lim = n → ∃ p, e = .returned (.tuple #[.agg (mCells m p).toArray, .int .i64 0]) ∧ MAt w' m p ∧ MNew w.heap.size m p) ∧ (lim < n → e = .returned (.tuple #[.agg zero27.toArray, .int .i64 13]))) ∧ Hid (Below w.heap.size w w') := by
  obtain ⟨w0, hw0, hb0, hk0⟩ : ∃ w0, w.alloc (.cells zero27.toArray 27) = w0 ∧ Below w.heap.size w w0 ∧ Blk w0 w.heap.size zero27 27 := ⟨_, rfl, (Below.refl _ _).alloc (Nat.le_refl _) _, heap_alloc_new w _⟩
  have hg0 := hS.good 0 h0
  obtain ⟨z1, -, -, -, z11, -, -, -, -⟩ := shard_shape hm.bytes hn hg0.2 _ hg0.1
  obtain ⟨g0, p0, d0, f0, hr0⟩ := shr_at hV hL (k := 0) h0 (by omega)
  rw [Nat.add_zero] at f0
  have f11 := byte_at hr0 (i := 11) (by omega)
  rw [z11] at f11
  have HF := Lib.hid (fun (wx : World) (hb : Below w.heap.size w wx) => show wx.cell? ⟨b0, o0, none⟩ = some (.slice (some ⟨g0, p0, none⟩) (ls.getD 0 []).length d0) ∧ wx.cell? ⟨g0, p0 + 11, none⟩ = some (.int .u8 n) by
    constructor
    · rw [hb.cell (p := ⟨b0, o0, none⟩) (World.block_lt_of_cell? w _ f0)]; exact f0
    · rw [hb.cell (p := ⟨g0, p0 + 11, none⟩) (World.block_lt_of_cell? w _ f11)]; exact f11)
  have HR6 := Lib.hid (rdv_rest hr0 rfl 6 (by omega) (some ⟨g0, p0 + 6, none⟩) (fun _ => rfl))
  have h6 : (ls.getD 0 []).drop 6 = low4 (crcOf m.bytes) ++ ([((js 0 : Nat) : Int), (n : Int)] ++ part m.bytes n (js 0)) := by rw [hg0.1]; rfl
  have H6 := Lib.hid h6
  have HB6 := Lib.hid (show Bytes ((ls.getD 0 []).drop 6) from fun x hx => (shard_shape hm.bytes hn hg0.2 _ hg0.1).2.2.2.2.2.2.2.2 x (List.mem_of_mem_drop hx))
  have hNN : N = ls.length := by have := hV.caps; rw [hL.len] at this; omega
  have t0 : 0 < N := by omega
  have t1 : 11 < (ls.getD 0 []).length := by omega
  have t2 : 6 ≤ (ls.getD 0 []).length := by omega
  have hcd := hr0.caps.2.1
  have t3 : ¬ d0 = 6 := by omega
  have HBY := Lib.hid hm.bytes
  have HLE := Lib.hid hm.bytes_len
  have HPO := Lib.hid hm.bytes_ne
  have HC := Lib.hid (single_any m.bytes hm.bytes n hn ls js ls.length 0 hS h0 V b0 o0 N c0 w0 (hV.below hb0) (hL.below hb0))
  have HFB := Lib.hid (fun A c (wx : World) (h : RdV wx (.slice A m.bytes.length c) (bys m.bytes)) => fromBytes_any m hm A _ c wx h)
  have HB0 := Lib.hid hb0
  have HK0 := Lib.hid hk0
  have HH := Lib.hid hn
  have HIN := Lib.hid hin
  have HOUT := Lib.hid hout
  have e1 : IntKind.i64.wrap (n : Int) = (n : Int) := IntWalk.i64_in _ (by omega)
  clear hb0 hk0 hm hn hin hout hS hg0 z1 z11 hr0 hV hL hNN h6 f0 f11
  generalize m.bytes = B at *
  generalize (ls.getD 0 []).length = L0 at *
  simp only [zero27] at hw0
  go_enter Tryz.func17, Tryz.ntmps17
  go_upto_region 5 with (go_at_call 40; refine HC.out.mono ?_; rintro e w1 ⟨mp, rfl, HE1, HB1⟩)
  obtain ⟨mb, E, rfl, hmp, hei⟩ := HE1.out trivial
  have HMP := Lib.hid hmp
  have HEI := Lib.hid hei
  have HB1' := Lib.hid (HB0.out.trans (HB1.out.mono HB0.out.size))
  have HR1 := Lib.hid (HK0.out.below HB1.out)
  obtain ⟨f0, f11⟩ := HF.out w1 HB1'.out
  have n0 : 0 < n := by have := HH.out; omega
  obtain ⟨i0, hi0, hz0, hz1, hz2⟩ := info_parts info5
  clear hw0 hmp hei HE1 HC
  go_wp2
  go_loopg [6, 25] n (fun gk s6 s25 wx => ∃ i : Nat, s25 = .int .i64 i ∧ i ≤ lim ∧ gk = n - i ∧ Hid (wx.ownsRow w1.heap.size 5 1 s6 (shOff B.length n i) (bys (accB B n i))) ∧ Hid (Below w1.heap.size w1 wx))
  case atStart => exact ⟨0, rfl, Nat.zero_le _, rfl, Lib.hid (by have e : shOff B.length n 0 = 0 := by simp [shOff]
                                                                 rw [e, show accB B n 0 = [] by simp [accB, e]]; exact World.ownsRow_nil _ _ _ _), Lib.hid (Below.refl _ _)⟩
  case round =>
    obtain ⟨i, rfl, hil, rfl, HO, HBX⟩ := hrel
    obtain ⟨A6, c6, hv6⟩ := ownsRow_shape HO.out
    subst hv6
    have HMX := Lib.hid (HMP.out.below HBX.out)
    by_cases hlt : i < lim
    · have hin : i < n := by omega
      have hn64 := HH.out.2
      obtain ⟨k, hk, hki⟩ := HIN.out i hlt
      obtain ⟨v, hv⟩ := HEI.out.all k hk
      rw [hki] at hv
      obtain ⟨A, cc, hvv, hrd⟩ := (HEI.out.only _ _ hv).2
      subst hvv
      have HG := Lib.hid hv
      have HRD := Lib.hid (hrd.below HBX.out)
      have HSU := Lib.hid (show accB B n (i + 1) = accB B n i ++ part B n i from accB_succ _ _ _)
      have HPL := Lib.hid (show (part B n i).length = shSize B.length n i from part_length _ _ _ n0 hin)
      have HOS := Lib.hid (show shOff B.length n (i + 1) = shOff B.length n i + shSize B.length n i from shOff_succ _ _ _)
      have HPS := Lib.hid (shOff_pos B.length n i HPO.out)
      have HLS := Lib.hid (shOff_le B.length n (i + 1) n0 (by omega))
      clear hv hrd hk hki
      go_wp2_with (first | (at_lookup; refine wl_lookup HMX.out rfl _ _ rfl rfl i rfl ?_; rw [HG.out]; simp only [valE, Option.isSome_some]) | (at_builtin; refine wpList_append_part2 rfl _ _ 34 rfl w1.heap.size i0 Tryz.underlying34 hi0 hz0 hz1 hz2 _ (shOff B.length n i) _ rfl HO.out A (part B n i).length cc (by have := HPL.out; have := HPS.out; have := HOS.out; omega) (part B n i) rfl HRD.out (by have := HPL.out; have := HLS.out; have := HOS.out; have := HLE.out; omega) HBX.out.size ?_; intro g7 c7 w7 ho7 hg7; have HO7 := Lib.hid ho7; have HG7 := Lib.hid hg7; clear ho7 hg7))
      go_roundg (n - (i + 1))
      case measure => omega
      case rel => exact ⟨i + 1, by go_num, by omega, rfl, Lib.hid (by
        rw [HSU.out, HOS.out, ← HPL.out, bys, List.map_append]
        exact HO7.out), Lib.hid (HBX.out.trans (Below.ofGrown HG7.out HBX.out.size (ownsRow_base HO.out)))⟩
    · by_cases hend : lim = n
      · have : i = n := by omega
        subst this
        have HEN := Lib.hid (accB_end B i n0)
        have hoe : shOff B.length i i = B.length := shOff_end _ _ n0
        rw [hoe] at HO ⊢
        have HOB := Lib.hid (show wr.ownsRow w1.heap.size 5 1 (.slice A6 B.length c6) B.length (bys B) by have := HO.out; rw [HEN.out] at this; exact this)
        obtain ⟨f0, f11⟩ := HF.out wr (HB1'.out.trans (HBX.out.mono HB1'.out.size))
        have HCD := Lib.hid (fun k => code_any B A6 c6 (wr.drewN k) ((rdv_row1 HOB.out).drewN k))
        have HRX := Lib.hid (HR6.out.below (HB1'.out.trans (HBX.out.mono HB1'.out.size)))
        have h6b : Bytes ((ls.getD 0 []).drop 6) := by
          have := HB6.out
          exact this
        have HRE := Lib.hid (show ∀ k, Calls Tryz.prog 41 #[.slice (some ⟨g0, p0 + 6, none⟩) (L0 - 6) (d0 - 6)] (wr.drewN k) fun e w' => e = .returned (.int .i64 (crcOf B)) ∧ ∃ k2, w' = (wr.drewN k).drewN k2 from fun k => by
          have h1 := read4_any _ h6b (by rw [H6.out]; simp [low4]) _ _ _ (wr.drewN k) (HRX.out.drewN k)
          have h2 : rd4 ((ls.getD 0 []).drop 6) = crcOf B := by rw [H6.out]; exact rd4_low _ (crcOf_in HBY.out) _
          rwa [h2] at h1)
        have HFX := Lib.hid (fun k => HFB.out A6 c6 (wr.drewN k) ((rdv_row1 HOB.out).drewN k))
        clear h6b hoe HO
        generalize crcOf B = z at HCD HRE
        go_upto_region 13 with fail
        go_quiet (first | (go_at_call 27; with_reducible exact Calls.quiet_of_same (HCD.out _)) | (go_at_call 41; with_reducible exact Calls.quiet_of (HRE.out _)))
        have hlt0 := HK0.out.lt
        go_wp2_with (go_at_call 42; refine (HFX.out _).mono ?_; rintro e w8 ⟨p, rfl, HM8, HB8⟩; have HR8 := Lib.hid ((((HR1.out.below HBX.out).drewN _).below HB8.out)); have q8 := HR8.out.cell; have r8 := HR8.out.frozen; simp only [zero27] at q8; simp only [mCells])
        refine bodyPost_ret (results_model rfl _ _ w.heap.size m p rfl (set27 HR8.out rfl m p).1) rfl ?_
        refine ⟨Lib.hid ⟨fun _ => ⟨p, rfl, set27_at HM8.out.1 HM8.out.2 ?_, HM8.out.2.mono ?_⟩, fun h => absurd h (by omega)⟩, Lib.hid ?_⟩
        · have h1 := HB1.out.size
          have h2 := HBX.out.size
          exact Nat.lt_of_lt_of_le hlt0 (Nat.le_trans h1 h2)
        · have h0 := HB0.out.size
          have h1 := HB1.out.size
          have h2 := HBX.out.size
          exact Nat.le_trans h0 (Nat.le_trans h1 h2)
        · have h0 := HB0.out.size
          have h1 := HB1.out.size
          have h2 := HBX.out.size
          exact (((HB1'.out.trans (HBX.out.mono HB1'.out.size)).trans (below_drewN (Below.refl _ _) _)).trans (HB8.out.mono (show w.heap.size ≤ wr.heap.size by omega))).trans (set27 HR8.out rfl m p).2.2.2
      · have : i = lim := by omega
        subst this
        have hltn : i < n := by omega
        have hg : getE E i = none := by
          cases e : getE E i with
          | none => rfl
          | some v =>
            obtain ⟨⟨k, hk, hk2⟩, -⟩ := HEI.out.only _ _ e
            exact absurd hk2 (HOUT.out hltn k hk)
        have HG := Lib.hid hg
        have HRR := Lib.hid (HR1.out.below HBX.out)
        have q8 := HRR.out.cell
        have r8 := HRR.out.frozen
        simp only [zero27] at q8
        clear hg
        go_wp2_with (at_lookup; refine wl_lookup HMX.out rfl _ _ rfl rfl i rfl ?_; rw [HG.out]; simp only [valE, Option.isSome_none])
        refine bodyPost_ret (results_row2 rfl _ _ w.heap.size zero27 rfl rfl (set27 HRR.out rfl zMD zMP).1) rfl ?_
        exact ⟨Lib.hid ⟨fun h => absurd h hend, fun _ => rfl⟩, Lib.hid ((HB1'.out.trans (HBX.out.mono HB1'.out.size)).trans (set27 HRR.out rfl zMD zMP).2.2.2)⟩
end Go.Proofs.YtplkchmcojnimaaGreatDoor
/-
  wefttop: h10kept.
-/
namespace Go.Proofs.YtplkchmcojnimaaGreatDoor
open Go.RowKit

set_option maxRecDepth 100000 in
set_option maxHeartbeats 1600000 in
theorem kept_bad (m : MD) (p : MP) (v : Value) (k : Int) (hk : k ≠ 0) (w : World) (h : ∀ w0, Below w.heap.size w w0 → Calls Tryz.prog 17 #[v] w0 fun e w' => e = .returned (.tuple #[.agg zero27.toArray, .int .i64 k]) ∧ Hid (Below w0.heap.size w0 w')) :
    Calls Tryz.prog 13 #[.agg (mCells m p).toArray, v, .int .i64 k] w fun e w' => e = .returned (.bool true) ∧ Hid (Below w.heap.size w w') := by
  obtain ⟨w0, hw0, hb0⟩ : ∃ w0, w.alloc (.cells (mCells m p).toArray 27) = w0 ∧ Below w.heap.size w w0 := ⟨_, rfl, (Below.refl _ _).alloc (Nat.le_refl _) _⟩
  have HB0 := Lib.hid hb0
  have HC := Lib.hid (h w0 hb0)
  have d0 : (k != 0) = true := by simpa using hk
  have d1 : (k == k) = true := by simp
  clear hb0 h hk
  simp only [mCells] at hw0 ⊢
  simp only [zero27] at HC
  go_enter Tryz.func13, Tryz.ntmps13
  go_wp2_with (go_at_call 17; refine HC.out.mono ?_; rintro e w1 ⟨rfl, HB1⟩)
  go_ret
  exact ⟨rfl, Lib.hid ((HB0.out.trans (HB1.out.mono HB0.out.size)).alloc (Nat.le_trans HB0.out.size HB1.out.size) _)⟩
set_option maxRecDepth 100000 in
set_option maxHeartbeats 1600000 in
theorem kept_ok (m : MD) (hm : m.Ok) (p : MP) (v : Value) (w : World) (hp : MAt w m p) (h : ∀ w0, Below w.heap.size w w0 → Calls Tryz.prog 17 #[v] w0 fun e w' => ∃ p', e = .returned (.tuple #[.agg (mCells m p').toArray, .int .i64 0]) ∧ Hid (MAt w' m p') ∧ Hid (Below w0.heap.size w0 w')) :
    Calls Tryz.prog 13 #[.agg (mCells m p).toArray, v, .int .i64 0] w fun e w' => e = .returned (.bool true) ∧ Hid (Below w.heap.size w w') := by
  obtain ⟨w0, hw0, hb0, hk0⟩ : ∃ w0, w.alloc (.cells (mCells m p).toArray 27) = w0 ∧ Below w.heap.size w w0 ∧ Blk w0 w.heap.size (mCells m p) 27 := ⟨_, rfl, (Below.refl _ _).alloc (Nat.le_refl _) _, heap_alloc_new w _⟩
  have HB0 := Lib.hid hb0
  have HK0 := Lib.hid hk0
  have HC := Lib.hid (h w0 hb0)
  have HP := Lib.hid (hp.below hb0)
  have HM := Lib.hid hm
  clear hb0 hk0 h hp hm
  simp only [mCells] at hw0 ⊢
  go_enter Tryz.func13, Tryz.ntmps13
  go_upto_region 2 with (go_at_call 17; refine HC.out.mono ?_; rintro e w1 ⟨p1, rfl, HM1, HB1⟩; simp only [mCells])
  obtain ⟨w2, hw2, hb2, hk2⟩ : ∃ w2, w1.alloc (.cells (mCells m p1).toArray 27) = w2 ∧ Below w1.heap.size w1 w2 ∧ Blk w2 w1.heap.size (mCells m p1) 27 := ⟨_, rfl, (Below.refl _ _).alloc (Nat.le_refl _) _, heap_alloc_new w1 _⟩
  have q2 := hk2.cell
  have q0 := ((HK0.out.below HB1.out).below hb2).cell
  have HSM := Lib.hid (same_any m p p1 HM.out w2 ((HP.out.below HB1.out).below hb2) (HM1.out.below hb2))
  have HB2 := Lib.hid hb2
  clear hb2 hk2 hw0
  simp only [mCells] at hw2 q2 q0 HSM
  go_wp2_with (go_at_call 12; refine HSM.out.mono ?_; rintro e w3 ⟨rfl, HB3⟩)
  go_ret
  exact ⟨rfl, Lib.hid (((HB0.out.trans (HB1.out.mono HB0.out.size)).trans (HB2.out.mono (Nat.le_trans HB0.out.size HB1.out.size))).trans (HB3.out.mono (Nat.le_trans (Nat.le_trans HB0.out.size HB1.out.size) HB2.out.size)))⟩
end Go.Proofs.YtplkchmcojnimaaGreatDoor
/-
  slices: Clone of bytes and of slices of bytes.
-/
namespace Go.Proofs.YtplkchmcojnimaaGreatDoor
open Go.RowKit

theorem rdv_all {w : World} {b o n c : Nat} {V : List Value} (h : RdV w (.slice (some ⟨b, o, none⟩) n c) V) : ∀ (j : Nat) u, V[j]? = some u → w.cell? ((⟨b, o, none⟩ : Addr).add j) = some u := by
  intro j u hj
  obtain ⟨hjl, hju⟩ := List.getElem?_eq_some_iff.1 hj
  obtain ⟨b', o', c', hv, hc⟩ := h.get hjl
  injection hv with e1; injection e1 with e1; injection e1 with e1 e2; subst e1 e2
  rw [add_plain, hc, hju]
theorem rdv_news {w : World} {b o n c : Nat} {V : List Value} (h : RdV w (.slice (some ⟨b, o, none⟩) n c) V) (ob : Obj) : ∀ (j : Nat) u, V[j]? = some u → (w.alloc ob).cell? ((⟨b, o, none⟩ : Addr).add j) = some u := by
  intro j u hj
  have hc := rdv_all h j u hj
  have hlt := World.block_lt_of_cell? w _ hc
  rw [World.cell?_of_block (w := w) (Below.heap_alloc _ _ _ hlt)]; exact hc
theorem own_empty (w : World) (t : TypeId) : (w.alloc (.cells #[] t)).ownsRow w.heap.size t 1 (.slice (some ⟨w.heap.size, 0, none⟩) 0 0) 0 [] :=
  ⟨rfl, .inr ⟨w.heap.size, 0, #[], rfl, Nat.le_refl _, heap_alloc_new w _, Nat.le_refl _, Nat.zero_le _, rfl, rfl⟩⟩
set_option maxRecDepth 100000 in
set_option maxHeartbeats 800000 in
theorem bclone_any (l : List Int) (b o n c : Nat) (h0 : 0 < n) (hbig : n ≤ 100000) (w : World) (h : RdV w (.slice (some ⟨b, o, none⟩) n c) (bys l)) :
    Calls Tryz.prog 18 #[.slice (some ⟨b, o, none⟩) n c] w fun e w' => ∃ g c', e = .returned (.slice (some ⟨g, 0, none⟩) n c') ∧ Hid (Below w.heap.size w w') ∧ Hid (w'.ownsRow w.heap.size 5 1 (.slice (some ⟨g, 0, none⟩) n c') n (bys l)) := by
  have HNEWS := Lib.hid (rdv_news h (.cells #[] 5))
  have HOWN := Lib.hid (own_empty w 5)
  have HN := Lib.hid (And.intro h0 hbig)
  have HIL := Lib.hid (show (bys l).length = n * 1 by rw [← h.caps.1]; omega)
  clear h h0 hbig
  obtain ⟨i0, hi, hz0, hz1, hz2⟩ := info_parts info5
  have heq : (binOp .eql 34 (.slice (some ⟨b, o, none⟩) n c) (.slice none 0 0)).run Tryz.prog w = .ok (.bool false) w := Lib.run_eql_slice_nil w 34 5 (some ⟨b, o, none⟩) n c 0 0 Tryz.underlying34
  go_enter Tryz.func18, Tryz.ntmps18
  go_wp2_with (at_builtin; refine wpList_append_lies _ rfl _ _ 34 rfl w.heap.size 5 i0 (.int .u8 0) 1 1 Tryz.underlying34 hi hz0 hz1 hz2 rfl (by decide) _ 0 [] rfl HOWN.out ⟨b, o, none⟩ n c (bys l) rfl HIL.out HNEWS.out (one_bys _) HN.out.1 (by have := HN.out.2; unfold maxLen; omega) (by have := HN.out.2; omega) (alloc_le _ _) _ rfl ?_; intro g cap w3 hown3 hgrow hat hlt3; have HO := Lib.hid hown3; have HG := Lib.hid hgrow; clear hown3 hgrow hat hlt3)
  go_ret
  have ho := HO.out
  simp only [List.nil_append, Nat.zero_add] at ho ⊢
  exact ⟨g, cap, rfl, Lib.hid (((Below.refl _ _).alloc (Nat.le_refl _) _).trans (Below.ofGrown HG.out (alloc_le _ _) (ownsRow_base HOWN.out))), Lib.hid ho⟩
set_option maxRecDepth 100000 in
set_option maxHeartbeats 800000 in
theorem vclone_any (V : List Value) (hone : ∀ u ∈ V, u.oneCell' = true) (b o n c : Nat) (h0 : 0 < n) (hbig : n ≤ 100000) (w : World) (h : RdV w (.slice (some ⟨b, o, none⟩) n c) V) :
    Calls Tryz.prog 16 #[.slice (some ⟨b, o, none⟩) n c] w fun e w' => ∃ g c', e = .returned (.slice (some ⟨g, 0, none⟩) n c') ∧ Hid (Below w.heap.size w w') ∧ Hid (w'.ownsRow w.heap.size 34 1 (.slice (some ⟨g, 0, none⟩) n c') n V) := by
  have HNEWS := Lib.hid (rdv_news h (.cells #[] 34))
  have HOWN := Lib.hid (own_empty w 34)
  have HN := Lib.hid (And.intro h0 hbig)
  have HIL := Lib.hid (show V.length = n * 1 by rw [← h.caps.1]; omega)
  have H1 := Lib.hid hone
  clear h h0 hbig hone
  obtain ⟨i0, hi, hz0, hz1, hz2⟩ := info_parts info34
  have heq : (binOp .eql 30 (.slice (some ⟨b, o, none⟩) n c) (.slice none 0 0)).run Tryz.prog w = .ok (.bool false) w := Lib.run_eql_slice_nil w 30 34 (some ⟨b, o, none⟩) n c 0 0 Tryz.underlying30
  go_enter Tryz.func16, Tryz.ntmps16
  go_wp2_with (at_builtin; refine wpList_append_lies _ rfl _ _ 30 rfl w.heap.size 34 i0 (.slice none 0 0) 1 24 Tryz.underlying30 hi hz0 hz1 hz2 rfl (by decide) _ 0 [] rfl HOWN.out ⟨b, o, none⟩ n c V rfl HIL.out HNEWS.out H1.out HN.out.1 (by have := HN.out.2; unfold maxLen; omega) (by have := HN.out.2; omega) (alloc_le _ _) _ rfl ?_; intro g cap w3 hown3 hgrow hat hlt3; have HO := Lib.hid hown3; have HG := Lib.hid hgrow; clear hown3 hgrow hat hlt3)
  go_ret
  have ho := HO.out
  simp only [List.nil_append, Nat.zero_add] at ho ⊢
  exact ⟨g, cap, rfl, Lib.hid (((Below.refl _ _).alloc (Nat.le_refl _) _).trans (Below.ofGrown HG.out (alloc_le _ _) (ownsRow_base HOWN.out))), Lib.hid ho⟩
end Go.Proofs.YtplkchmcojnimaaGreatDoor
