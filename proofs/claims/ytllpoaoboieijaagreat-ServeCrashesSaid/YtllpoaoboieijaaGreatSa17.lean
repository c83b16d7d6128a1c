/-
  Models: entry.
-/
import Derived.Deep.RegionHeld3
import Derived.Test.YtllpoaoboieijaaGreatSa13
import Derived.Test.YtllpoaoboieijaaGreatSa16
/-
  Models: entry.
-/
namespace Go.Proofs.YtllpoaoboieijaaGreat
open Go.RowKit

theorem RdAt.rdv {w : World} {b o c : Nat} {l : List Int} (h : RdAt w b o c l) : RdV w (.slice (some ⟨b, o, none⟩) l.length c) (ints l) := by
  refine ⟨_, c, by rw [ints_length], by rw [ints_length]; exact h.1, h.2.1, fun _ => ⟨b, o, rfl, fun i hi => ?_⟩⟩
  rw [ints_length] at hi
  rw [h.2.2 i hi]
  simp [ints, List.getD, hi]
/-- A copy in a block of its own, whole. -/
theorem clone_blk (l : List Int) (b o c n : Nat) (hn : n = l.length) (w : World) (h : RdAt w b o c l) (h0 : 0 < n) (h1 : n ≤ 1000) :
    Calls Tryz.prog 29 #[.slice (some ⟨b, o, none⟩) n c] w fun e w' => ∃ g c' rest, e = .returned (.slice (some ⟨g, 0, none⟩) n c') ∧ Hid (Below w.heap.size w w') ∧ Hid (Blk w' g (ints l ++ rest) 3 ∧ w.heap.size ≤ g ∧ n ≤ c' ∧ c' ≤ maxLen) := by
  subst hn
  refine (clone_any l b o c w h.rdv h0 h1).mono ?_
  rintro e w1 ⟨v, rfl, hb, ho⟩
  rcases ho.2 with ⟨_, h⟩ | ⟨g, cap, cur, hv, h3, h4, h5, h6, h7, h8⟩
  · omega
  · refine ⟨g, cap, cur.toList.drop l.length, by rw [hv], Lib.hid hb, Lib.hid ⟨?_, h3, h5, h6⟩⟩
    unfold Blk
    have : ints l ++ cur.toList.drop l.length = cur.toList := by rw [← h8, Nat.mul_one, List.take_append_drop]
    rw [this]; exact h4
theorem Blk.rdat {w : World} {b : Nat} {l : List Int} {rest : List Value} {c : Nat} (h : Blk w b (ints l ++ rest) 3) (h1 : l.length ≤ c) (h2 : c ≤ maxLen) : RdAt w b 0 c l :=
  ⟨h1, h2, fun i hi => by rw [Nat.zero_add, h.cell, List.getElem?_append_left (by rw [ints_length]; exact hi)]; simp [ints, List.getD, hi]⟩

def embRow (t : Nat) : List Int := (demoM.embed.drop (4 * t)).take 4
def plRow (at' : Nat) : List Int := (demoM.place.drop (4 * (at' % 4))).take 4
/-- The sum of a token's row and a position's. -/
def xTo (t at' : Nat) (k : Nat) : List Int := (List.range 4).map fun o => if o < k then w32 (wrap64 ((embRow t).getD o 0 + (plRow at').getD o 0)) else (embRow t).getD o 0
def mixRow (j : Nat) : List Int := (demoM.mix.drop (4 * j)).take 4
def entJ (t at' j : Nat) : Int := shiftI (dotI (mixRow j) (xTo t at' 4)) 8
def entTo (t at' n : Nat) : List Int := (List.range n).map (entJ t at')
theorem xTo_len (t at' k : Nat) : (xTo t at' k).length = 4 := by simp [xTo]
theorem embRow_len (t : Nat) (h : t < 8) : (embRow t).length = 4 := by simp [embRow, demoM, matL_len]; omega
theorem plRow_len (t : Nat) : (plRow t).length = 4 := by simp [plRow, demoM, matL_len]; omega
theorem mixRow_len (j : Nat) (h : j < 12) : (mixRow j).length = 4 := by simp [mixRow, demoM, matL_len]; omega
theorem xTo_zero (t at' : Nat) (h : t < 8) : embRow t = xTo t at' 0 := by
  apply List.ext_getElem
  · rw [embRow_len t h, xTo_len]
  · intro i h1 h2; simp [xTo, List.getD, h1]
theorem xTo_set (t at' k : Nat) (h : k < 4) : (xTo t at' k).set k (w32 (wrap64 ((xTo t at' k).getD k 0 + (plRow at').getD k 0))) = xTo t at' (k + 1) := by
  apply List.ext_getElem
  · simp [xTo]
  · intro i h1 h2
    have hi : i < 4 := by simpa [xTo] using h2
    rw [List.getElem_set]
    by_cases e : k = i
    · subst e
      simp [xTo, List.getD, h]
    · rw [if_neg e]
      simp only [xTo, List.getElem_map, List.getElem_range]
      by_cases e2 : i < k
      · rw [if_pos e2, if_pos (by omega)]
      · rw [if_neg e2, if_neg (by omega)]

theorem dot_at (l m : List Int) (b o c b2 o2 c2 n1 n2 : Nat) (w : World) (ha : RdAt w b o c l) (hb : RdAt w b2 o2 c2 m) (h1 : n1 = l.length) (h2 : n2 = m.length) (hlm : n1 ≤ n2) (hl : n1 ≤ 1000) :
    Calls Tryz.prog 80 #[.slice (some ⟨b, o, none⟩) n1 c, .slice (some ⟨b2, o2, none⟩) n2 c2] w fun e w' => e = .returned (.int .i64 (dotI l m)) ∧ ∃ k, w' = w.drewN k := by
  subst h1
  exact dot_any l m b o c b2 o2 c2 n2 w ha hb (by omega) hl h2
theorem ownsRow_below {w w' : World} {base : Nat} {e : TypeId} {size : Nat} {v : Value} {n : Nat} {xs : List Value} (h : w.ownsRow base e size v n xs) (hb : Below w.heap.size w w') : w'.ownsRow base e size v n xs := by
  refine ⟨h.1, ?_⟩
  rcases h.2 with h | ⟨g, cap, cur, hv, h3, h4, h5, h6, h7, h8⟩
  · exact .inl h
  · exact .inr ⟨g, cap, cur, hv, h3, by rw [hb.block g (lt_of_heap h4)]; exact h4, h5, h6, h7, h8⟩
theorem entTo_succ (t at' n : Nat) : entTo t at' (n + 1) = entTo t at' n ++ [entJ t at' n] := by simp [entTo, List.range_succ]
theorem entTo_len (t at' n : Nat) : (entTo t at' n).length = n := by simp [entTo]

set_option maxRecDepth 100000 in
set_option maxHeartbeats 1600000 in
theorem entry_any (p : MPl) (t at' : Nat) (ht : t < 8) (hat : at' < 1000) (w : World) (h : DemoAt w p) :
    Calls Tryz.prog 44 #[.agg (demoCells p).toArray, .int .i64 t, .int .i64 at'] w fun e w' => ∃ g c, e = .returned (.slice (some ⟨g, 0, none⟩) 12 c) ∧ Hid (Below w.heap.size w w') ∧ Hid (RdAt w' g 0 c (entTo t at' 12) ∧ w.heap.size ≤ g) := by
  obtain ⟨wb, hwb, hbel, hblk⟩ : ∃ wb, w.alloc (.cells (demoCells p).toArray 27) = wb ∧ Below w.heap.size w wb ∧ Blk wb w.heap.size (demoCells p) 27 := ⟨_, rfl, (Below.refl _ _).alloc (Nat.le_refl _) _, heap_alloc_new w _⟩
  have hd := h.below hbel
  have he := (hd.embed.part (4 * t) 4 (by simp [demoM, matL_len]; omega))
  have HCL := Lib.hid (clone_blk (embRow t) _ _ _ 4 (by rw [embRow_len t ht]) wb he (by omega) (by omega))
  have e32 := hd.embed.1
  rw [show demoM.embed.length = 32 from matL_len _ _] at e32
  have HD := Lib.hid hd
  have HQ := Lib.hid (fun (wx : World) (hb : Below wb.heap.size wb wx) => (hblk.below hb).cell)
  have q0 := hblk.cell
  have HB := Lib.hid hbel
  have HWB := Lib.hid hwb
  have E32 := Lib.hid e32
  clear hbel hblk h hd he e32
  simp only [demoCells] at q0 HQ hwb ⊢
  go_enter Tryz.func44, Tryz.ntmps44
  go_upto_region 3 with (first | (go_at_call 76; refine (row_4 _ _ _ _ _ (by omega) E32.out (by omega) _).mono ?_; rintro e wz ⟨rfl, hz⟩; subst wz) | (go_at_call 29; refine HCL.out.mono ?_; rintro e w2 ⟨g2, c2, rest2, rfl, HB2, HK2⟩; have q2 := HQ.out _ HB2.out))
  have hm1 : ((at' : Nat) : Int).tmod 4 = ((at' % 4 : Nat) : Int) := by rw [Int.tmod_eq_emod_of_nonneg (by omega)]; omega
  have p16 := HD.out.place.1
  rw [show demoM.place.length = 16 from matL_len _ _] at p16
  have P16 := Lib.hid p16
  clear p16
  go_quiet (first | (go_at_call 77; exact Calls.quiet_of_same (rows_16 _ _ _)) | (go_at_call 76; exact Calls.quiet_of_same (row_4 _ _ _ _ (at' % 4) (by omega) P16.out (by omega) _)))
  have HDP := Lib.hid (HD.out.place.part (4 * (at' % 4)) 4 (by simp [demoM, matL_len]; omega))
  have HX0 := Lib.hid (xTo_zero t at' ht)
  go_wp2
  go_loopg [33] 4 (fun gk s33 wx => ∃ k : Nat, s33 = .int .i64 k ∧ k ≤ 4 ∧ Hid (Below wb.heap.size wb wx) ∧ Hid (Blk wx g2 (ints (xTo t at' k) ++ rest2) 3) ∧ gk = 4 - k)
  case atStart => exact ⟨0, rfl, by omega, Lib.hid (below_drewN HB2.out _), Lib.hid (by rw [← HX0.out]; exact HK2.out.1.drewN _), rfl⟩
  case round =>
    obtain ⟨k, rfl, hk, HB3, HK3, rfl⟩ := hrel
    have q3 := HQ.out wr HB3.out
    clear q0 q2
    by_cases hlt : k < 4
    · have c1 : wr.cell? ⟨g2, k, none⟩ = some (.int .i64 ((xTo t at' k).getD k 0)) := by
        have := (HK3.out.rdat (c := 4) (by rw [xTo_len]; omega) (by decide)).2.2 k (by rw [xTo_len]; exact hlt)
        rw [Nat.zero_add] at this; exact this
      have f1 := HK3.out.frozen k
      have c3 := (HDP.out.below HB3.out).2.2 k (by simp [demoM, matL_len]; omega)
      rw [show ((List.drop (4 * (at' % 4)) demoM.place).take 4).getD k 0 = (plRow at').getD k 0 from rfl] at c3
      have hs := xTo_set t at' k hlt
      have HS := Lib.hid hs
      clear hs
      generalize (xTo t at' k).getD k 0 = xv at c1 HS
      generalize (plRow at').getD k 0 = nv at c3 HS
      go_wp2_with (go_at_call 78; refine (wrap_any _ _).mono ?_; rintro e wz ⟨rfl, hz⟩; subst wz)
      go_roundg (4 - (k + 1))
      case measure => omega
      case rel =>
        refine ⟨k + 1, by go_num, by omega, Lib.hid (HB3.out.setCell HK2.out.2.1 _), Lib.hid ?_, rfl⟩
        have := HK3.out.set k (.int .i64 (w32 (wrap64 (xv + nv))))
        rw [← HS.out]
        rw [List.set_append_left _ _ (by rw [ints_length, xTo_len]; exact hlt)] at this
        have e : (ints (xTo t at' k)).set k (.int .i64 (w32 (wrap64 (xv + nv)))) = ints ((xTo t at' k).set k (w32 (wrap64 (xv + nv)))) := by
          simp [ints, List.map_set]
        rw [e] at this
        exact this
    · have : k = 4 := by omega
      subst this
      rw [show ((4 : Nat) : Int) = 4 from rfl]
      obtain ⟨w5, rfl⟩ : ∃ w5, w5 = wr := ⟨_, rfl⟩
      have HQ5 := Lib.hid (fun (wx : World) (hb : Below w5.heap.size w5 wx) => HQ.out wx (HB3.out.trans (hb.mono HB3.out.size)))
      have hd5 := HD.out.below HB3.out
      have HD5 := Lib.hid hd5
      have HX5 := Lib.hid (HK3.out.rdat (c := c2) (by rw [xTo_len]; exact HK2.out.2.2.1) HK2.out.2.2.2)
      have HS5 := Lib.hid (fun (wx : World) (hb : Below w5.heap.size w5 wx) => And.intro (HQ5.out wx hb) (show wx.cell? ⟨p.cuts.b, p.cuts.o, none⟩ = some (.int .i64 4) from (hd5.below hb).cuts.2.2 0 (by decide)))
      have h48 := hd5.mix.1
      rw [show demoM.mix.length = 48 from matL_len _ _] at h48
      have H48 := Lib.hid h48
      obtain ⟨i0, hi, hz0, hz1, hz2⟩ := info_parts info3
      clear hd5 h48
      go_wp2
      go_loopg [11, 53] 3 (fun gk s11 s53 wx => ∃ k : Nat, s53 = .int .i64 k ∧ k ≤ 3 ∧ Hid (Below w5.heap.size w5 wx) ∧ Hid (wx.ownsRow w5.heap.size 3 1 s11 (4 * k) (ints (entTo t at' (4 * k)))) ∧ gk = 3 - k)
      case atStart => exact ⟨0, rfl, by omega, Lib.hid (Below.refl _ _), Lib.hid (World.ownsRow_nil _ _ _ _), rfl⟩
      case round =>
        obtain ⟨k, rfl, hk3, HB6, HO6, rfl⟩ := hrel
        clear q3
        by_cases hlt3 : k < 3
        · have t3 : decide ((k : Int) < 3) = true := decide_eq_true (by omega)
          go_wp2
          go_loopg [11, 57] 4 (fun gk s11 s57 wx => ∃ i : Nat, s57 = .int .i64 i ∧ i ≤ 4 ∧ Hid (Below w5.heap.size w5 wx) ∧ Hid (wx.ownsRow w5.heap.size 3 1 s11 (4 * k + i) (ints (entTo t at' (4 * k + i)))) ∧ gk = 4 - i)
          case atStart => exact ⟨0, rfl, by omega, HB6, HO6, rfl⟩
          case round =>
            obtain ⟨i, rfl, hi4, HB7, HO7, rfl⟩ := hrel
            obtain ⟨A7, c7, hv7⟩ := ownsRow_shape HO7.out
            subst hv7
            by_cases hlti : i < 4
            · have hmx : ∀ wx : World, Calls Tryz.prog 81 #[.agg (demoCells p).toArray, .int .i64 k] wx fun e w' => e = .returned (.slice (some ⟨p.mix.b, p.mix.o + 16 * k, none⟩) 16 (p.mix.c - 16 * k)) ∧ Below wx.heap.size wx w' := fun wx => matrix_any p k hlt3 H48.out wx
              have HMX := Lib.hid hmx
              simp only [demoCells] at HMX
              clear hmx
              have eo : p.mix.o + 4 * (4 * k + i) = p.mix.o + 16 * k + 4 * i := by omega
              have ec : p.mix.c - 4 * (4 * k + i) = p.mix.c - 16 * k - 4 * i := by omega
              have hmr : ∀ wx, Below w5.heap.size w5 wx → RdAt wx p.mix.b (p.mix.o + 16 * k + 4 * i) (p.mix.c - 16 * k - 4 * i) (mixRow (4 * k + i)) := fun wx hb => by
                have := (HD5.out.below hb).mix.part (4 * (4 * k + i)) 4 (by simp [demoM, matL_len]; omega)
                rw [eo, ec] at this
                exact this
              have HMR := Lib.hid hmr
              have HJ := Lib.hid (show entJ t at' (4 * k + i) = shiftI (dotI (mixRow (4 * k + i)) (xTo t at' 4)) 8 from rfl)
              have HL4 := Lib.hid (mixRow_len (4 * k + i) (by omega))
              have h16 : 16 ≤ p.mix.c - 16 * k := by have := H48.out; omega
              have hb1 : 4 * k + i + 1 ≤ maxLen := by unfold maxLen; omega
              have hb2 : (4 * k + i + 1) * 8 ≤ 140737488355328 := by omega
              clear hmr eo ec
              go_upto_region 17 with fail
              go_region_held3 (fun wy : World => (∀ o, wy.cell? ⟨w.heap.size, o, none⟩ = ([Value.int .i64 1, .int .i64 8, .int .i64 4, .int .i64 8, .slice (some ⟨p.cuts.b, p.cuts.o, none⟩) 4 p.cuts.c, .slice (some ⟨p.embed.b, p.embed.o, none⟩) 32 p.embed.c, .slice (some ⟨p.place.b, p.place.o, none⟩) 16 p.place.c, .slice (some ⟨p.mix.b, p.mix.o, none⟩) 48 p.mix.c, .slice (some ⟨p.out.b, p.out.o, none⟩) 32 p.out.c, .slice (some ⟨p.soft.b, p.soft.o, none⟩) 7 p.soft.c, .slice (some ⟨p.odds.b, p.odds.o, none⟩) 6 p.odds.c] : List Value)[o]?) ∧ wy.cell? ⟨p.cuts.b, p.cuts.o, none⟩ = some (.int .i64 4)) (first | exact HS5.out _ HB11.out | exact HS5.out _ (HB9.out.alloc HB9.out.size _) | exact HS5.out _ HB9.out | exact HS5.out _ HB8.out | exact HS5.out _ HB7.out.drew) (first
                | (refine step_append_lies _ (by rfl) _ _ _ (by rfl) w5.heap.size 3 i0 (.int .i64 0) 1 8 Tryz.underlying22 hi hz0 hz1 hz2 rfl (by decide) (.slice A7 (4 * k + i) c7) (4 * k + i) _ (by rfl) (ownsRow_below HO9.out (Below.alloc (Below.refl _ _) (Nat.le_refl _) _)) ⟨w9.heap.size, 0, none⟩ 1 1 [.int .i64 (shiftI (dotI (mixRow (4 * k + i)) (xTo t at' 4)) 8)] (by rfl) (by rfl) (news1' _ _ _) (one_int _ _) Nat.one_pos hb1 hb2 (Nat.le_trans HB9.out.size (alloc_le _ _)) _ rfl ?_; intro g11 cap11 w11 hown11 hgrow11 hat11 hlt11; have HO11 := Lib.hid hown11; have HB11 := Lib.hid (Below.trans (HB9.out.alloc HB9.out.size _) (Below.ofGrown hgrow11 (Nat.le_trans HB9.out.size (alloc_le _ _)) (ownsRow_base HO7.out))); clear hown11 hgrow11 hat11 hlt11)
                | (go_at_call 79; refine (shift_4 _ _).mono ?_; rintro e wz ⟨rfl, hz⟩; subst wz; dsimp only)
                | (go_at_call 80; refine (dot_at (mixRow (4 * k + i)) (xTo t at' 4) _ _ _ _ _ _ 4 4 _ (HMR.out _ HB8.out) (HX5.out.below HB8.out) HL4.out.symm (xTo_len _ _ _).symm (by omega) (by omega)).mono ?_; rintro e w9 ⟨rfl, k9, hw9⟩; have HB9 := Lib.hid (show Below w5.heap.size w5 w9 by rw [hw9]; exact below_drewN HB8.out _); have HO9 := Lib.hid (show w9.ownsRow w5.heap.size 3 1 (.slice A7 (4 * k + i) c7) (4 * k + i) (ints (entTo t at' (4 * k + i))) by rw [hw9]; exact ownsRow_below HO8.out (below_drewN (Below.refl _ _) _)); clear hw9; dsimp only)
                | (go_at_call 76; refine (row_4 _ _ _ _ i (by omega) h16 (by omega) _).mono ?_; rintro e wz ⟨rfl, hz⟩; subst wz; dsimp only)
                | (go_at_call 81; refine (HMX.out _).mono ?_; rintro e w8 ⟨rfl, hb8⟩; have HB8 := Lib.hid (show Below w5.heap.size w5 w8 from HB7.out.trans ((below_undrew hb8).mono HB7.out.size)); have HO8 := Lib.hid (ownsRow_below HO7.out (below_undrew hb8)); clear hb8; dsimp only))
              go_wp2
              go_roundg (4 - (i + 1))
              case measure => omega
              case rel =>
                refine ⟨i + 1, by go_num, by omega, HB11, Lib.hid ?_, rfl⟩
                have := HO11.out
                rw [show 4 * k + (i + 1) = 4 * k + i + 1 by omega, entTo_succ, HJ.out, ints, List.map_append]
                exact this
            · have : i = 4 := by omega
              subst this
              go_wp2
              go_roundg (3 - (k + 1))
              case measure => omega
              case rel => exact ⟨k + 1, by go_num, by omega, HB7, Lib.hid (by rw [show 4 * (k + 1) = 4 * k + 4 by omega]; exact HO7.out), rfl⟩
        · have : k = 3 := by omega
          subst this
          rcases HO6.out.2 with ⟨hv, hn⟩ | ⟨g, cap, cur, hv, hg, -⟩
          · omega
          · subst hv
            have HG := Lib.hid hg
            clear hg
            go_wp2
            go_ret
            exact ⟨_, _, rfl, Lib.hid (HB.out.trans ((HB3.out.trans (HB6.out.mono HB3.out.size)).mono HB.out.size)), Lib.hid ⟨OwnInts.rd HO6.out, Nat.le_trans HB.out.size (Nat.le_trans HB3.out.size HG.out)⟩⟩

set_option maxRecDepth 100000 in
set_option maxHeartbeats 1600000 in
theorem Entry_any (p : MPl) (t at' : Nat) (ht : t < 8) (hat : at' < 64) (w : World) (h : DemoAt w p) :
    Calls Tryz.prog 94 #[.agg (demoCells p).toArray, .int .i64 t, .int .i64 at'] w fun e w' => ∃ g c, e = .returned (.tuple #[.slice (some ⟨g, 0, none⟩) 12 c, .int .i64 0]) ∧ Hid (Below w.heap.size w w') ∧ Hid (RdAt w' g 0 c (entTo t at' 12) ∧ w.heap.size ≤ g) := by
  obtain ⟨wb, hwb, hbel, hblk⟩ : ∃ wb, w.alloc (.cells (demoCells p).toArray 27) = wb ∧ Below w.heap.size w wb ∧ Blk wb w.heap.size (demoCells p) 27 := ⟨_, rfl, (Below.refl _ _).alloc (Nat.le_refl _) _, heap_alloc_new w _⟩
  have HD := Lib.hid (h.below hbel)
  have HQ := Lib.hid (fun (wx : World) (hb : Below wb.heap.size wb wx) => (hblk.below hb).cell)
  have q0 := hblk.cell
  have HB := Lib.hid hbel
  have HWB := Lib.hid hwb
  have HC := Lib.hid fun wx (hx : DemoAt wx p) => (check_any p wx hx)
  have HE := Lib.hid fun wx (hx : DemoAt wx p) => entry_any p t at' ht (by omega) wx hx
  clear hbel hblk h
  simp only [demoCells] at q0 HQ HC HE hwb ⊢
  go_enter Tryz.func94, Tryz.ntmps94
  go_wp2_with (first | (go_at_call 40; refine (HC.out wb HD.out).mono ?_; rintro e w1 ⟨rfl, hb1⟩; have HB1 := Lib.hid hb1; clear hb1; have q1 := HQ.out _ HB1.out) | (go_at_call 41; refine (mwithin_yes _ _ _ (by omega) _).mono ?_; rintro e wz ⟨rfl, hz⟩; subst wz) | (go_at_call 44; refine (HE.out w1 (HD.out.below HB1.out)).mono ?_; rintro e w2 ⟨g2, c2, rfl, HB2, HR2⟩))
  go_ret2
  exact ⟨_, _, rfl, Lib.hid ((HB.out.trans (HB1.out.mono HB.out.size)).trans (HB2.out.mono (Nat.le_trans HB.out.size HB1.out.size))), Lib.hid ⟨HR2.out.1, Nat.le_trans (Nat.le_trans HB.out.size HB1.out.size) HR2.out.2⟩⟩
end Go.Proofs.YtllpoaoboieijaaGreat
