/-
  Models: Grow, Concat, Check.
  Models: Check of the model that Demo makes.
-/
import Derived.Lib.AppendZeros
import Derived.Test.YtllpoaoboieijaaGreatSa10
import Derived.Test.YtllpoaoboieijaaGreatSa15
/-
  Models: Grow, Concat, Check.
-/
namespace Go.Proofs.YtllpoaoboieijaaGreat
open Go.RowKit

theorem addP (b o j : Nat) : (⟨b, o, none⟩ : Addr).add j = ⟨b, o + j, none⟩ := by
  by_cases h : j = 0 <;> simp [Addr.add, h]
theorem oneC (l : List Int) : ∀ u ∈ ints l, u.oneCell' = true := by
  intro u hu
  obtain ⟨x, -, rfl⟩ := List.mem_map.1 hu
  rfl
theorem RdAt.news {w : World} {b o c : Nat} {l : List Int} (h : RdAt w b o c l) : ∀ (j : Nat) u, (ints l)[j]? = some u → w.cell? ((⟨b, o, none⟩ : Addr).add j) = some u := fun j u hj => by
  have hjl : j < l.length := by
    have := (List.getElem?_eq_some_iff.1 hj).1
    rwa [ints_length] at this
  rw [addP, h.2.2 j hjl]
  simp only [ints, List.getElem?_map] at hj
  rw [List.getElem?_eq_getElem hjl] at hj
  simp [List.getD, hjl] at hj ⊢
  exact hj
/-- A list of one's own can be read. -/
theorem OwnInts.rd {w : World} {base g c : Nat} {l : List Int} {n : Nat} (h : w.ownsRow base 3 1 (.slice (some ⟨g, 0, none⟩) n c) n (ints l)) : RdAt w g 0 c l := by
  have hl : l.length = n := by have := h.1; rw [ints_length] at this; omega
  rcases h.2 with ⟨hv, -⟩ | ⟨g', cap, cur, hv, h3, h4, h5, h6, h7, h8⟩
  · cases hv
  · injection hv with e1 e2 e3
    injection e1 with e1
    injection e1 with e1
    subst e1 e3
    refine ⟨by omega, h6, fun i hi => ?_⟩
    have := World.ownsRow.cells h (g := g) rfl i (.int .i64 (l.getD i 0)) (by simp [ints, List.getD, hi])
    rw [addP] at this
    exact this

set_option maxRecDepth 100000 in
set_option maxHeartbeats 800000 in
theorem grow_any (w : World) : Calls Tryz.prog 96 #[.slice none 0 0, .int .i64 128] w fun e w' => ∃ g c, e = .returned (.slice (some ⟨g, 0, none⟩) 0 c) ∧ Hid (Below w.heap.size w w') ∧ Hid (w'.ownsRow w.heap.size 3 1 (.slice (some ⟨g, 0, none⟩) 0 c) 0 []) := by
  obtain ⟨i0, hi, hz0, hz1, hz2⟩ := info_parts info3
  have hr := Lib.run_append_nil_zeros (P := Tryz.prog) w 22 3 22 3 i0 (.int .i64 0) .i64 .i64 Tryz.underlying22 Tryz.underlying3 hi hz0 128 (by omega) (by rw [hz1]; omega) (by omega) (by rw [hz2]; omega)
  have hge := grownCap_ge w 128 0 3
  have hle := grownCap_le_maxLen w 128 0 3 (by unfold maxLen; omega)
  generalize hcap : grownCap w 128 0 3 = cap at hr hge hle
  have hcs : (Builtin.zeroCells (Value.int .i64 0).cells 128 ++ Builtin.zeroCells (Value.int .i64 0).cells (cap - 128)).size = cap * 1 := by
    rw [Array.size_append, size_zeroCells, size_zeroCells]
    have : (Value.int .i64 0).cells.size = 1 := rfl
    rw [this]; omega
  generalize (Builtin.zeroCells (Value.int .i64 0).cells 128 ++ Builtin.zeroCells (Value.int .i64 0).cells (cap - 128)) = cs at hr hcs
  have hown : (w.drew.alloc (.cells cs 3)).ownsRow w.heap.size 3 1 (.slice (some ⟨w.heap.size, 0, none⟩) 0 cap) 0 [] :=
    ⟨rfl, .inr ⟨w.heap.size, cap, cs, rfl, Nat.le_refl _, heap_alloc_new w.drew _, Nat.zero_le _, hle, hcs, rfl⟩⟩
  have hbel : Below w.heap.size w (w.drew.alloc (.cells cs 3)) := (Below.refl _ _).drew.alloc (Nat.le_refl _) _
  have HR := Lib.hid hr
  have HOWN := Lib.hid hown
  have HBEL := Lib.hid hbel
  have HGE := Lib.hid hge
  have t0 : ((128 : Nat) : Int) ≤ cap := by omega
  clear hr hown hbel hcs hcap hi hz0 hz1 hz2 hle
  go_enter Tryz.func96, Tryz.ntmps96
  go_wp2_with (at_builtin; refine Lib.wpList_append_run _ rfl _ _ _ _ rfl _ _ rfl rfl _ _ HR.out ?_)
  go_ret
  exact ⟨_, _, rfl, HBEL, HOWN⟩

theorem ownsRow_shape {w : World} {base : Nat} {e : TypeId} {size : Nat} {v : Value} {n : Nat} {xs : List Value} (h : w.ownsRow base e size v n xs) : ∃ A c, v = .slice A n c := by
  rcases h.2 with ⟨hv, hn⟩ | ⟨g, cap, cur, hv, -⟩
  · rw [hn]; exact ⟨_, _, hv⟩
  · exact ⟨_, _, hv⟩
def catN (ls : Nat → List Int) : Nat → List Int
  | 0 => []
  | i + 1 => catN ls i ++ ls i
set_option maxRecDepth 100000 in
set_option maxHeartbeats 1600000 in
theorem concat_any (ls : Nat → List Int) (P : Nat → Pl) (pb : Nat) (w : World) (hp : ∀ i, i < 4 → w.cell? ⟨pb, i, none⟩ = some (.slice (some ⟨(P i).b, (P i).o, none⟩) (ls i).length (P i).c)) (hr : ∀ i, i < 4 → RdAt w (P i).b (P i).o (P i).c (ls i))
    (hlen : ∀ i, i < 4 → 0 < (ls i).length) (hcat : ∀ i, i ≤ 4 → (catN ls i).length ≤ 128) (htot : (catN ls 4).length = 128) :
    Calls Tryz.prog 74 #[.slice (some ⟨pb, 0, none⟩) 4 4] w fun e w' => ∃ g c, e = .returned (.slice (some ⟨g, 0, none⟩) 128 c) ∧ Hid (Below w.heap.size w w') ∧ Hid (w'.ownsRow w.heap.size 3 1 (.slice (some ⟨g, 0, none⟩) 128 c) 128 (ints (catN ls 4))) := by
  have HP := Lib.hid hp
  have HRD := Lib.hid hr
  have HLEN := Lib.hid hlen
  have HCAT := Lib.hid hcat
  have HTOT := Lib.hid htot
  obtain ⟨i0, hi, hz0, hz1, hz2⟩ := info_parts info3
  clear hp hr hlen hcat htot
  go_enter Tryz.func74, Tryz.ntmps74
  go_wp2
  go_loopg [3, 11] 4 (fun gk s3 s11 wx => ∃ i : Nat, s11 = .int .i64 i ∧ i ≤ 4 ∧ s3 = .int .i64 ((catN ls i).length : Int) ∧ wx = w ∧ gk = 4 - i)
  case atStart => exact ⟨0, rfl, by omega, rfl, rfl, rfl⟩
  case round =>
    obtain ⟨i, rfl, hil, rfl, hw0, rfl⟩ := hrel
    subst wr
    by_cases hlt : i < 4
    · have c1 := HP.out i hlt
      have hd : ((catN ls (i + 1)).length : Int) = ((catN ls i).length : Int) + ((ls i).length : Int) := by simp [catN]
      have h1 := HCAT.out (i + 1) (by omega)
      have e1 : IntKind.i64.wrap (((catN ls i).length : Int) + ((ls i).length : Int)) = ((catN ls (i + 1)).length : Int) := by rw [← hd]; exact IntWalk.i64_in _ (by omega)
      have t1 : ¬ ((catN ls (i + 1)).length : Int) < 0 := by omega
      have t2 : decide (((catN ls (i + 1)).length : Int) < 0) = false := decide_eq_false t1
      clear hd
      generalize hnx : ((catN ls (i + 1)).length : Int) = nx at e1 t1 t2
      have HNX := Lib.hid hnx
      clear hnx
      go_wp2
      go_roundg (4 - (i + 1))
      case measure => omega
      case rel => exact ⟨i + 1, by go_num, by omega, by rw [HNX.out], rfl, rfl⟩
    · have : i = 4 := by omega
      subst this
      rw [HTOT.out]
      go_wp2_with (go_at_call 96; refine (grow_any _).mono ?_; rintro e w1 ⟨g1, c1, rfl, HB1, HO1⟩)
      go_loopg [6, 27] 4 (fun gk s6 s27 wx => ∃ i : Nat, s27 = .int .i64 i ∧ i ≤ 4 ∧ Hid (Below w.heap.size w wx) ∧ Hid (wx.ownsRow w.heap.size 3 1 s6 (catN ls i).length (ints (catN ls i))) ∧ gk = 4 - i)
      case atStart => exact ⟨0, rfl, by omega, HB1, HO1, rfl⟩
      case round =>
        obtain ⟨i, rfl, hil2, HB2, HO2, rfl⟩ := hrel
        obtain ⟨A6, c6, hv6⟩ := ownsRow_shape HO2.out
        subst hv6
        by_cases hlt : i < 4
        · have cc := HP.out i hlt
          have hc1 : wr.cell? ⟨pb, i, none⟩ = some (.slice (some ⟨(P i).b, (P i).o, none⟩) (ls i).length (P i).c) := by
            rw [World.cell?_of_block (a := ⟨pb, i, none⟩) (w := w) (HB2.out.block pb (World.block_lt_of_cell? w _ cc))]; exact cc
          have hrd := Lib.hid ((HRD.out i hlt).below HB2.out)
          have hl := HCAT.out (i + 1) (by omega)
          have hls : (catN ls (i + 1)).length = (catN ls i).length + (ls i).length := by simp [catN]
          have HLS := Lib.hid hls
          have HL0 := Lib.hid (HLEN.out i hlt)
          have HL := Lib.hid hl
          clear cc hl hls
          go_wp2_with (at_builtin; refine wpList_append_lies _ rfl _ _ 22 rfl w.heap.size 3 i0 (.int .i64 0) 1 8 Tryz.underlying22 hi hz0 hz1 hz2 rfl (by decide) _ (catN ls i).length _ rfl HO2.out ⟨(P i).b, (P i).o, none⟩ (ls i).length (P i).c (ints (ls i)) rfl (by simp [ints]) hrd.out.news (oneC _) HL0.out (by have := HL.out; have := HLS.out; unfold maxLen; omega) (by have := HL.out; have := HLS.out; omega) HB2.out.size _ rfl ?_; intro g cap w3 hown3 hgrow hat hlt3; have HO3 := Lib.hid hown3; have HG := Lib.hid hgrow; clear hown3 hgrow hat hlt3)
          go_roundg (4 - (i + 1))
          case measure => omega
          case rel =>
            refine ⟨i + 1, by go_num, by omega, Lib.hid (HB2.out.trans (Below.ofGrown HG.out HB2.out.size (ownsRow_base HO2.out))), Lib.hid ?_, rfl⟩
            have := HO3.out
            rw [HLS.out]
            rw [show catN ls (i + 1) = catN ls i ++ ls i from rfl, ints, List.map_append]
            exact this
        · have : i = 4 := by omega
          subst this
          rcases HO2.out.2 with ⟨hv, hn⟩ | ⟨g, cap, cur, hv, hrest⟩
          · rw [HTOT.out] at hn; omega
          · injection hv with e1 e2 e3
            subst e1 e3
            rw [HTOT.out] at HO2 ⊢
            clear hrest
            go_wp2
            go_ret
            exact ⟨_, _, rfl, HB2, HO2⟩
end Go.Proofs.YtllpoaoboieijaaGreat
/-
  Models: Check of the model that Demo makes.
-/
namespace Go.Proofs.YtllpoaoboieijaaGreat
open Go.RowKit

def wLs : Nat → List Int
  | 0 => demoM.embed
  | 1 => demoM.place
  | 2 => demoM.mix
  | _ => demoM.out
def wPl (p : MPl) : Nat → Pl
  | 0 => p.embed
  | 1 => p.place
  | 2 => p.mix
  | _ => p.out
theorem wLs_len (i : Nat) (h : i < 4) : 0 < (wLs i).length := by
  have : i = 0 ∨ i = 1 ∨ i = 2 ∨ i = 3 := by omega
  rcases this with rfl | rfl | rfl | rfl <;> simp [wLs, demoM, matL_len]
theorem wCat_len (i : Nat) (h : i ≤ 4) : (catN wLs i).length ≤ 128 := by
  have : i = 0 ∨ i = 1 ∨ i = 2 ∨ i = 3 ∨ i = 4 := by omega
  rcases this with rfl | rfl | rfl | rfl | rfl <;> simp [catN, wLs, demoM, matL_len]
theorem wCat_4 : (catN wLs 4).length = 128 := by simp [catN, wLs, demoM, matL_len]
theorem wCat_in (x : Int) (h : x ∈ catN wLs 4) : -128 ≤ x ∧ x ≤ 127 := by
  simp only [catN, wLs, demoM, List.mem_append, List.nil_append] at h
  rcases h with ((h | h) | h) | h <;> (have := matL_in _ _ x h; omega)
theorem concat_demo (p : MPl) (w : World) (hd : DemoAt w p) (pb : Nat)
    (hp : Blk w pb [.slice (some ⟨p.embed.b, p.embed.o, none⟩) 32 p.embed.c, .slice (some ⟨p.place.b, p.place.o, none⟩) 16 p.place.c, .slice (some ⟨p.mix.b, p.mix.o, none⟩) 48 p.mix.c, .slice (some ⟨p.out.b, p.out.o, none⟩) 32 p.out.c] 22) :
    Calls Tryz.prog 74 #[.slice (some ⟨pb, 0, none⟩) 4 4] w fun e w' => ∃ g c, e = .returned (.slice (some ⟨g, 0, none⟩) 128 c) ∧ Hid (Below w.heap.size w w') ∧ Hid (RdAt w' g 0 c (catN wLs 4)) := by
  refine (concat_any wLs (wPl p) pb w (fun i hi => ?_) (fun i hi => ?_) wLs_len wCat_len wCat_4).mono ?_
  · rw [hp.cell]
    have : i = 0 ∨ i = 1 ∨ i = 2 ∨ i = 3 := by omega
    rcases this with rfl | rfl | rfl | rfl <;> simp [wLs, wPl, demoM, matL_len]
  · have : i = 0 ∨ i = 1 ∨ i = 2 ∨ i = 3 := by omega
    rcases this with rfl | rfl | rfl | rfl
    · exact hd.embed
    · exact hd.place
    · exact hd.mix
    · exact hd.out
  · rintro e w1 ⟨g, c, rfl, hb, ho⟩
    exact ⟨g, c, rfl, hb, Lib.hid (OwnInts.rd ho.out)⟩
theorem all_demo (l : List Int) (lo hi : Int) (hall : ∀ x, x ∈ l → lo ≤ x ∧ x ≤ hi) (n : Nat) (hn : n = l.length) (hl : l.length ≤ 1000) (b o c : Nat) (w : World) (hr : RdAt w b o c l) :
    Calls Tryz.prog 43 #[.slice (some ⟨b, o, none⟩) n c, .int .i64 lo, .int .i64 hi] w fun e w' => e = .returned (.bool true) ∧ Hid (Below w.heap.size w w') :=
  (all_yes l lo hi hall b o c n hn hl w hr).mono fun _ _ h => ⟨h.1, Lib.hid h.2⟩

set_option maxRecDepth 100000 in
set_option maxHeartbeats 1600000 in
theorem check_any (p : MPl) (w : World) (h : DemoAt w p) : Calls Tryz.prog 40 #[.agg (demoCells p).toArray] w fun e w' => e = .returned (.int .i64 0) ∧ Below w.heap.size w w' := by
  obtain ⟨wb, hwb, hbel, hblk⟩ : ∃ wb, w.alloc (.cells (demoCells p).toArray 27) = wb ∧ Below w.heap.size w wb ∧ Blk wb w.heap.size (demoCells p) 27 := ⟨_, rfl, (Below.refl _ _).alloc (Nat.le_refl _) _, heap_alloc_new w _⟩
  have HD := Lib.hid (h.below hbel)
  have HQ := Lib.hid (fun (wx : World) (hb : Below wb.heap.size wb wx) => (hblk.below hb).cell)
  have q0 := hblk.cell
  have HB := Lib.hid hbel
  have HWB := Lib.hid hwb
  have HF : Hid (∀ wx, Calls Tryz.prog 73 #[.agg (demoCells p).toArray] wx fun e w' => e = .returned (.bool true) ∧ Hid (Below wx.heap.size wx w')) := Lib.hid fun wx => (formed_demo p wx).mono fun _ _ h => ⟨h.1, Lib.hid h.2⟩
  clear hbel hblk h
  simp only [demoCells] at q0 HQ HF hwb ⊢
  go_enter Tryz.func40, Tryz.ntmps40
  go_upto_region 1 with (fail)
  clear hwb
  go_upto_region 8 with (first | (go_at_call 54; refine (sized_demo _).mono ?_; rintro e wz ⟨rfl, hz⟩; subst wz) | (go_at_call 41; refine (mwithin_yes _ _ _ (by omega) _).mono ?_; rintro e wz ⟨rfl, hz⟩; subst wz) | (go_at_call 73; refine (HF.out _).mono ?_; rintro e w1 ⟨rfl, HB1⟩; have q1 := HQ.out _ HB1.out))
  obtain ⟨w2, hw2, hb2, hblk2⟩ : ∃ w2, w1.alloc (.cells #[.slice (some ⟨p.embed.b, p.embed.o, none⟩) 32 p.embed.c, .slice (some ⟨p.place.b, p.place.o, none⟩) 16 p.place.c, .slice (some ⟨p.mix.b, p.mix.o, none⟩) 48 p.mix.c, .slice (some ⟨p.out.b, p.out.o, none⟩) 32 p.out.c] 22) = w2 ∧ Below wb.heap.size wb w2 ∧ Blk w2 w1.heap.size [.slice (some ⟨p.embed.b, p.embed.o, none⟩) 32 p.embed.c, .slice (some ⟨p.place.b, p.place.o, none⟩) 16 p.place.c, .slice (some ⟨p.mix.b, p.mix.o, none⟩) 48 p.mix.c, .slice (some ⟨p.out.b, p.out.o, none⟩) 32 p.out.c] 22 := ⟨_, rfl, HB1.out.alloc HB1.out.size _, heap_alloc_new w1 _⟩
  have HBL2 := Lib.hid hblk2
  have HB2 := Lib.hid hb2
  have HC := Lib.hid (concat_demo p w2 (HD.out.below hb2) w1.heap.size hblk2)
  have q2 := HQ.out w2 hb2
  clear hb2 hblk2 q0
  go_upto_region 9 with (first | (go_at_call 74; refine HC.out.mono ?_; rintro e w3 ⟨g3, c3, rfl, HB3', HR3⟩; have HB3 := Lib.hid (HB2.out.trans (HB3'.out.mono HB2.out.size)); have q3 := HQ.out _ HB3.out))
  clear q1 q2 hw2
  have h1 : ∀ x, x ∈ demoM.cuts → 1 ≤ x ∧ x ≤ 15 := by decide
  have h2 : ∀ x, x ∈ demoM.soft → 0 ≤ x ∧ x ≤ 1000 := by decide
  have h3 : ∀ x, x ∈ demoM.odds → 0 ≤ x ∧ x ≤ 1000 := by decide
  have HH1 := Lib.hid h1
  have HH2 := Lib.hid h2
  have HH3 := Lib.hid h3
  clear h1 h2 h3
  go_wp2_with (first | (go_at_call 43; have _g := HB6; clear _g; refine (all_demo demoM.odds 0 1000 HH3.out 6 rfl (by decide) _ _ _ _ (HD.out.below HB6.out).odds).mono ?_; rintro e w7 ⟨rfl, HB7'⟩; have HB7 := Lib.hid (HB6.out.trans (HB7'.out.mono HB6.out.size)); have q7 := HQ.out _ HB7.out; have o0 : w7.cell? ⟨p.odds.b, p.odds.o, none⟩ = some (.int .i64 32) := (HD.out.below HB7.out).odds.2.2 0 (by decide)) | (go_at_call 43; have _g := HB5; clear _g; refine (all_demo demoM.soft 0 1000 HH2.out 7 rfl (by decide) _ _ _ _ (HD.out.below HB5.out).soft).mono ?_; rintro e w6 ⟨rfl, HB6'⟩; have HB6 := Lib.hid (HB5.out.trans (HB6'.out.mono HB5.out.size)); have q6 := HQ.out _ HB6.out) | (go_at_call 43; have _g := HB4; clear _g; refine (all_demo (catN wLs 4) (-128) 127 wCat_in 128 wCat_4.symm (by rw [wCat_4]; omega) _ _ _ _ (HR3.out.below HB4'.out)).mono ?_; rintro e w5 ⟨rfl, HB5'⟩; have HB5 := Lib.hid (HB4.out.trans (HB5'.out.mono HB4.out.size)); have q5 := HQ.out _ HB5.out) | (go_at_call 43; refine (all_demo demoM.cuts 1 15 HH1.out 4 rfl (by decide) _ _ _ _ (HD.out.below HB3.out).cuts).mono ?_; rintro e w4 ⟨rfl, HB4'⟩; have HB4 := Lib.hid (HB3.out.trans (HB4'.out.mono HB3.out.size)); have q4 := HQ.out _ HB4.out))
  go_ret
  exact ⟨rfl, HB.out.trans (HB7.out.mono HB.out.size)⟩
end Go.Proofs.YtllpoaoboieijaaGreat
