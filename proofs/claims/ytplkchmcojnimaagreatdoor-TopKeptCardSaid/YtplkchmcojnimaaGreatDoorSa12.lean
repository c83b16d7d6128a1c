/-
  models: parse: what is read.
  codec: Read: the deferred closure.
-/
import Derived.Defers
import Derived.Recover
import Derived.Test.YtplkchmcojnimaaGreatDoorSa11
/-
  models: parse: what is read.
-/
namespace Go.Proofs.YtplkchmcojnimaaGreatDoor
open Go.RowKit

def remL (m : MD) (k : Nat) : List Int := (List.range' k (7 - k)).flatMap fun j => listB (m.lst j)
theorem remL_succ (m : MD) : ∀ k, k < 7 → remL m k = listB (m.lst k) ++ remL m (k + 1) := by
  intro k hk
  unfold remL
  rw [show 7 - k = (7 - (k + 1)) + 1 by omega, List.range'_succ, List.flatMap_cons]
theorem remL_end (m : MD) : remL m 7 = [] := rfl
theorem bytes_rem (m : MD) : m.bytes = numB m.kind ++ (numB m.vocab ++ (numB m.width ++ (numB m.top ++ remL m 0))) := by
  rw [← mTo_eq]
  simp only [mTo, nTo, MD.num, remL, List.range', List.flatMap_cons, List.flatMap_nil, List.append_nil, List.nil_append, List.append_assoc]
def slotOf (m : MD) (P : Nat → SP) (k j : Nat) : Value := if j < k then .slice (P j).A (m.lst j).length (P j).c else .slice none 0 0
def cellsTo (m : MD) (P : Nat → SP) (k : Nat) : List Value := [.int .i64 m.kind, .int .i64 m.vocab, .int .i64 m.width, .int .i64 m.top, slotOf m P k 0, slotOf m P k 1, slotOf m P k 2, slotOf m P k 3, slotOf m P k 4, slotOf m P k 5, slotOf m P k 6]
def putP (P : Nat → SP) (k : Nat) (s : SP) : Nat → SP := fun j => if j = k then s else P j
theorem slot_put (m : MD) (P : Nat → SP) (k : Nat) (s : SP) (j : Nat) : slotOf m (putP P k s) (k + 1) j = if j = k then .slice s.A (m.lst k).length s.c else slotOf m P k j := by
  unfold slotOf putP
  by_cases h : j = k
  · subst h; simp
  · by_cases h2 : j < k
    · simp [h, h2, show j < k + 1 by omega]
    · simp [h, h2, show ¬ j < k + 1 by omega]
theorem cellsTo_set (m : MD) (P : Nat → SP) (s : SP) : ∀ k, k < 7 → (cellsTo m P k).set (4 + k) (.slice s.A (m.lst k).length s.c) = cellsTo m (putP P k s) (k + 1) := by
  intro k hk
  have e : ∀ j, slotOf m (putP P k s) (k + 1) j = if j = k then .slice s.A (m.lst k).length s.c else slotOf m P k j := slot_put m P k s
  unfold cellsTo
  rw [e 0, e 1, e 2, e 3, e 4, e 5, e 6]
  revert k
  exact seven (fun _ => rfl) (fun _ => rfl) (fun _ => rfl) (fun _ => rfl) (fun _ => rfl) (fun _ => rfl) (fun _ => rfl)
def mpOf (P : Nat → SP) : MP := ⟨P 0, P 1, P 2, P 3, P 4, P 5, P 6⟩
theorem cellsTo_end (m : MD) (P : Nat → SP) : cellsTo m P 7 = mCells m (mpOf P) := rfl
theorem mpOf_pl (P : Nat → SP) : ∀ j, j < 7 → (mpOf P).pl j = P j := seven rfl rfl rfl rfl rfl rfl rfl
theorem own_kn {w w' : World} {sb base base' : Nat} {e : TypeId} {size : Nat} {v : Value} {n : Nat} {xs : List Value} (h : w.ownsRow base e size v n xs) (hk : KN sb base' w w') (hs : sb < base) (hb : w.heap.size ≤ base') : w'.ownsRow base e size v n xs :=
  ownsRow_block h fun k hlt hv => hk.block k (by omega) (by have := ownsRow_base h k hv; omega)
theorem own_set {w : World} {base b o : Nat} {e : TypeId} {size : Nat} {v : Value} {n : Nat} {xs : List Value} (h : w.ownsRow base e size v n xs) (hb : b < base) (x : Value) : (w.setCell ⟨b, o, none⟩ x).ownsRow base e size v n xs :=
  ownsRow_block h fun k _ hv => Below.heap_setCell _ _ _ _ (show k ≠ b by have := ownsRow_base h k hv; omega)
theorem SSt.far {w : World} {sb b o n c : Nat} {l : List Int} (h : SSt w sb (some ⟨b, o, none⟩) n c l) {k : Nat} (hs : sb ≠ k) (hb : b ≠ k) (off : Nat) (x : Value) : SSt (w.setCell ⟨k, off, none⟩ x) sb (some ⟨b, o, none⟩) n c l :=
  ⟨h.blk.far hs _, h.rd.far (by simp [Value.ownBlock, hb]) _ _, h.ne⟩
theorem Blk.kn {w w' : World} {sb base b : Nat} {l : List Value} {t : TypeId} (h : Blk w b l t) (hk : KN sb base w w') (hb : b < base) (hs : b ≠ sb) : Blk w' b l t := by
  unfold Blk at h ⊢; rw [hk.block b hb hs]; exact h
def zero27 : List Value := [.int .i64 0, .int .i64 0, .int .i64 0, .int .i64 0, .slice none 0 0, .slice none 0 0, .slice none 0 0, .slice none 0 0, .slice none 0 0, .slice none 0 0, .slice none 0 0]
theorem Blk.ks {w w' : World} {sb b : Nat} {l : List Value} {t : TypeId} (h : Blk w b l t) (hk : KS sb w w') (hs : b ≠ sb) : Blk w' b l t := by
  unfold Blk at h ⊢; rw [hk.block b hs]; exact h
/-- The lists of a model lie above a bound. -/
def MNew (base : Nat) (m : MD) (p : MP) : Prop := ∀ i, i < 7 → ∀ g, (Value.slice (p.pl i).A (m.lst i).length (p.pl i).c).ownBlock = some g → base ≤ g
theorem MAt.blocks {w w' : World} {m : MD} {p : MP} (h : MAt w m p) (hb : ∀ i, i < 7 → ∀ g, (Value.slice (p.pl i).A (m.lst i).length (p.pl i).c).ownBlock = some g → w'.heap[g]? = w.heap[g]?) : MAt w' m p :=
  ⟨h.cuts.of_cells (hb 0 (by omega)), h.embed.of_cells (hb 1 (by omega)), h.place.of_cells (hb 2 (by omega)), h.mix.of_cells (hb 3 (by omega)), h.out.of_cells (hb 4 (by omega)), h.soft.of_cells (hb 5 (by omega)), h.odds.of_cells (hb 6 (by omega))⟩
def setAll27 (w : World) (r : Nat) (m : MD) (p : MP) : World :=
  ((((((((((w.setCell ⟨r, 0, none⟩ (.int .i64 m.kind)).setCell ⟨r, 1, none⟩ (.int .i64 m.vocab)).setCell ⟨r, 2, none⟩ (.int .i64 m.width)).setCell ⟨r, 3, none⟩ (.int .i64 m.top)).setCell ⟨r, 4, none⟩ (.slice p.cuts.A m.cuts.length p.cuts.c)).setCell ⟨r, 5, none⟩ (.slice p.embed.A m.embed.length p.embed.c)).setCell ⟨r, 6, none⟩ (.slice p.place.A m.place.length p.place.c)).setCell ⟨r, 7, none⟩ (.slice p.mix.A m.mix.length p.mix.c)).setCell ⟨r, 8, none⟩ (.slice p.out.A m.out.length p.out.c)).setCell ⟨r, 9, none⟩ (.slice p.soft.A m.soft.length p.soft.c)).setCell ⟨r, 10, none⟩ (.slice p.odds.A m.odds.length p.odds.c)
/-- A model is laid in a cell of eleven. -/
theorem set27 {w : World} {r : Nat} {l : List Value} (h : Blk w r l 27) (hl : l.length = 11) (m : MD) (p : MP) : Blk (setAll27 w r m p) r (mCells m p) 27 ∧ (∀ base e size v n xs, w.ownsRow base e size v n xs → r < base → (setAll27 w r m p).ownsRow base e size v n xs) ∧ (∀ sb b o n c l', SSt w sb (some ⟨b, o, none⟩) n c l' → sb ≠ r → b ≠ r → SSt (setAll27 w r m p) sb (some ⟨b, o, none⟩) n c l') ∧ Below r w (setAll27 w r m p) := by
  obtain ⟨a0, a1, a2, a3, a4, a5, a6, a7, a8, a9, a10, rfl⟩ : ∃ a0 a1 a2 a3 a4 a5 a6 a7 a8 a9 a10, l = [a0, a1, a2, a3, a4, a5, a6, a7, a8, a9, a10] := by
    match l, hl with
    | [a0, a1, a2, a3, a4, a5, a6, a7, a8, a9, a10], _ => exact ⟨a0, a1, a2, a3, a4, a5, a6, a7, a8, a9, a10, rfl⟩
  unfold setAll27
  refine ⟨((((((((((h.set 0 _).set 1 _).set 2 _).set 3 _).set 4 _).set 5 _).set 6 _).set 7 _).set 8 _).set 9 _).set 10 _, fun base e size v n xs ho hr => ?_, fun sb b o n c l' hs h1 h2 => ?_, ?_⟩
  · exact own_set (own_set (own_set (own_set (own_set (own_set (own_set (own_set (own_set (own_set (own_set ho hr _) hr _) hr _) hr _) hr _) hr _) hr _) hr _) hr _) hr _) hr _
  · exact ((((((((((hs.far h1 h2 _ _).far h1 h2 _ _).far h1 h2 _ _).far h1 h2 _ _).far h1 h2 _ _).far h1 h2 _ _).far h1 h2 _ _).far h1 h2 _ _).far h1 h2 _ _).far h1 h2 _ _).far h1 h2 _ _
  · have e := Nat.le_refl r
    exact (((((((((((Below.refl r w).setCell e _).setCell e _).setCell e _).setCell e _).setCell e _).setCell e _).setCell e _).setCell e _).setCell e _).setCell e _).setCell e _
theorem set27_other (w : World) (r : Nat) (m : MD) (p : MP) {b : Nat} (hb : b ≠ r) : (setAll27 w r m p).heap[b]? = w.heap[b]? := by
  unfold setAll27
  rw [Below.heap_setCell _ _ _ _ hb, Below.heap_setCell _ _ _ _ hb, Below.heap_setCell _ _ _ _ hb, Below.heap_setCell _ _ _ _ hb, Below.heap_setCell _ _ _ _ hb, Below.heap_setCell _ _ _ _ hb, Below.heap_setCell _ _ _ _ hb, Below.heap_setCell _ _ _ _ hb, Below.heap_setCell _ _ _ _ hb, Below.heap_setCell _ _ _ _ hb, Below.heap_setCell _ _ _ _ hb]
theorem set27_blk {w : World} {r b : Nat} {l : List Value} {t : TypeId} (h : Blk w b l t) (m : MD) (p : MP) (hb : b ≠ r) : Blk (setAll27 w r m p) b l t := by
  unfold Blk at h ⊢; rw [set27_other w r m p hb]; exact h
theorem set27_at {w : World} {r : Nat} {m m' : MD} {p p' : MP} (h : MAt w m p) {base : Nat} (hn : MNew base m p) (hr : r < base) : MAt (setAll27 w r m' p') m p :=
  h.blocks fun i hi g hg => set27_other w r m' p' (by have := hn i hi g hg; omega)
set_option maxRecDepth 100000 in
set_option maxHeartbeats 3200000 in
theorem read_any (m : MD) (hm : m.Ok) (sb b o n c : Nat) (w : World) (h : SSt w sb (some ⟨b, o, none⟩) n c m.bytes) :
    Calls Tryz.prog 61 #[.pointer (some ⟨sb, 0, none⟩)] w fun e w' => ∃ p, e = .returned (.agg (mCells m p).toArray) ∧ Hid (MAt w' m p ∧ MNew w.heap.size m p) ∧ ∃ o' n' c', Hid (SSt w' sb (some ⟨b, o', none⟩) n' c' []) ∧ Hid (KN sb w.heap.size w w') := by
  have hsb := h.blk.lt
  have hbb := h.lt hm.bytes_ne
  have HB := Lib.hid (And.intro hsb hbb)
  rw [bytes_rem] at h
  have HN := Lib.hid (fun o' n' c' (wx : World) (y : Int) (hy : -1000 ≤ y ∧ y ≤ 1000) (l' : List Int) (hS : SSt wx sb (some ⟨b, o', none⟩) n' c' (numB y ++ l')) => snum_any sb b o' n' c' y hy l' wx hS)
  have HL := Lib.hid (fun o' n' c' (wx : World) (ys : List Int) (hlen : ys.length ≤ 1000) (hy : ∀ x, x ∈ ys → -1000 ≤ x ∧ x ≤ 1000) (l' : List Int) (hS : SSt wx sb (some ⟨b, o', none⟩) n' c' (listB ys ++ l')) => listed_any sb b o' n' c' ys hlen hy l' wx hS)
  have HM := Lib.hid hm
  have HS := Lib.hid h
  clear h hsb hbb hm
  obtain ⟨w0, hw0, hb0, hk0, hk1, hz0⟩ : ∃ w0, (w.alloc (.cells zero27.toArray 27)).alloc (.cells zero27.toArray 27) = w0 ∧ Below w.heap.size w w0 ∧ Blk w0 w.heap.size zero27 27 ∧ Blk w0 (w.heap.size + 1) zero27 27 ∧ w0.heap.size = w.heap.size + 2 := by
    refine ⟨_, rfl, ((Below.refl _ _).alloc (Nat.le_refl _) _).alloc (by simp only [World.size_alloc]; omega) _, (news_blk w zero27 27).alloc _, ?_, by simp only [World.size_alloc]⟩
    have := news_blk (w.alloc (.cells zero27.toArray 27)) zero27 27
    simp only [World.size_alloc] at this
    exact this
  have HB0 := Lib.hid hb0
  have HZ0 := Lib.hid hz0
  have HK0 := Lib.hid hk0
  have HK1 := Lib.hid hk1
  have HS0 := Lib.hid (HS.out.below hb0)
  have HN0 := Lib.hid (HM.out.num 0)
  have HN1 := Lib.hid (HM.out.num 1)
  have HN2 := Lib.hid (HM.out.num 2)
  have HN3 := Lib.hid (HM.out.num 3)
  have HQ1c := Lib.hid (fun (wx : World) (hq : KS sb w0 wx) => show (∀ o, wx.cell? ⟨w.heap.size + 1, o, none⟩ = zero27[o]?) ∧ (∀ o, wx.frozen? ⟨w.heap.size + 1, o, none⟩ = false) from ⟨(hk1.ks hq (by have := HB.out.1; omega)).cell, (hk1.ks hq (by have := HB.out.1; omega)).frozen⟩)
  clear hb0 hk0 hk1 hz0 HS
  simp only [zero27] at hw0 HQ1c
  go_enter Tryz.func61, Tryz.ntmps61
  go_upto_region 2 with fail
  go_upto_region 3 with (first | (go_at_call 62; have _g := HS3; clear _g; refine (HN.out _ _ _ _ m.top HN3.out _ HS3.out).mono ?_; rintro e w4 ⟨rfl, o4, n4, c4, HS4, HQ4'⟩; have HQ4 := Lib.hid (HQ3.out.trans HQ4'.out); obtain ⟨q4, r4⟩ := HQ1c.out _ HQ4.out) | (go_at_call 62; have _g := HS2; clear _g; refine (HN.out _ _ _ _ m.width HN2.out _ HS2.out).mono ?_; rintro e w3 ⟨rfl, o3, n3, c3, HS3, HQ3'⟩; have HQ3 := Lib.hid (HQ2.out.trans HQ3'.out)) | (go_at_call 62; have _g := HS1; clear _g; refine (HN.out _ _ _ _ m.vocab HN1.out _ HS1.out).mono ?_; rintro e w2 ⟨rfl, o2, n2, c2, HS2, HQ2'⟩; have HQ2 := Lib.hid (HQ1.out.trans HQ2'.out)) | (go_at_call 62; have _g := HS0; clear _g; refine (HN.out _ _ _ _ m.kind HN0.out _ HS0.out).mono ?_; rintro e w1 ⟨rfl, o1, n1, c1, HS1, HQ1⟩))
  clear hw0 q4 r4
  have P0 : Nat → SP := fun _ => ⟨none, 0⟩
  obtain ⟨w5, hw5, hm5, hr5, hs5, hn5, hz5⟩ : ∃ w5, (((w4.setCell ⟨w.heap.size + 1, 0, none⟩ (.int .i64 m.kind)).setCell ⟨w.heap.size + 1, 1, none⟩ (.int .i64 m.vocab)).setCell ⟨w.heap.size + 1, 2, none⟩ (.int .i64 m.width)).setCell ⟨w.heap.size + 1, 3, none⟩ (.int .i64 m.top) = w5 ∧ Blk w5 (w.heap.size + 1) (cellsTo m P0 0) 27 ∧ Blk w5 w.heap.size zero27 27 ∧ SSt w5 sb (some ⟨b, o4, none⟩) n4 c4 (remL m 0) ∧ KN sb w.heap.size w w5 ∧ w5.heap.size = w.heap.size + 2 := by
    have h1 := HB.out.1
    have h2 := HB.out.2
    refine ⟨_, rfl, ((((HK1.out.ks HQ4.out (by omega)).set 0 _).set 1 _).set 2 _).set 3 _, ((((HK0.out.ks HQ4.out (by omega)).far (by simp) _).far (by simp) _).far (by simp) _).far (by simp) _, (((HS4.out.far (by omega) (by omega) _ _).far (by omega) (by omega) _ _).far (by omega) (by omega) _ _).far (by omega) (by omega) _ _, (KN.of_below HB0.out).trans ((KN.of_ks HQ4.out).trans (KN.of_below ?_)), ?_⟩
    · exact ((((Below.refl w.heap.size w4).setCell (by simp) _).setCell (by simp) _).setCell (by simp) _).setCell (by simp) _
    · simp only [World.size_setCell]; rw [HQ4.out.size, HZ0.out]
  have HM5 := Lib.hid hm5
  have HR5 := Lib.hid hr5
  have HS5 := Lib.hid hs5
  have HN5 := Lib.hid hn5
  have HZ5 := Lib.hid hz5
  have HLS := Lib.hid (lists_any (w.heap.size + 1) w5)
  clear hm5 hr5 hs5 hn5 hz5
  go_wp2_with (go_at_call 53; refine HLS.out.mono ?_; rintro e w6 ⟨g6, rfl, HB6, HP6⟩)
  clear hw5
  have HPT := Lib.hid (seven (P := fun k => ([Value.pointer (some ⟨w.heap.size + 1, 4, none⟩), .pointer (some ⟨w.heap.size + 1, 5, none⟩), .pointer (some ⟨w.heap.size + 1, 6, none⟩), .pointer (some ⟨w.heap.size + 1, 7, none⟩), .pointer (some ⟨w.heap.size + 1, 8, none⟩), .pointer (some ⟨w.heap.size + 1, 9, none⟩), .pointer (some ⟨w.heap.size + 1, 10, none⟩)] : List Value)[k]? = some (.pointer (some ⟨w.heap.size + 1, 4 + k, none⟩))) rfl rfl rfl rfl rfl rfl rfl)
  have HG6 := Lib.hid HP6.out.2
  have HP6 := Lib.hid HP6.out.1
  generalize hptr : [Value.pointer (some ⟨w.heap.size + 1, 4, none⟩), .pointer (some ⟨w.heap.size + 1, 5, none⟩), .pointer (some ⟨w.heap.size + 1, 6, none⟩), .pointer (some ⟨w.heap.size + 1, 7, none⟩), .pointer (some ⟨w.heap.size + 1, 8, none⟩), .pointer (some ⟨w.heap.size + 1, 9, none⟩), .pointer (some ⟨w.heap.size + 1, 10, none⟩)] = ptr at HP6 HPT
  clear hptr
  go_loopg [20] 7 (fun gk s20 wx => ∃ (k : Nat) (P : Nat → SP), s20 = .int .i64 k ∧ k ≤ 7 ∧ gk = 7 - k ∧ Hid (Blk wx (w.heap.size + 1) (cellsTo m P k) 27) ∧ Hid (Blk wx w.heap.size zero27 27) ∧ Hid (Blk wx g6 ptr 87) ∧ Hid (∀ j, j < k → wx.ownsRow (w.heap.size + 2) 3 1 (.slice (P j).A (m.lst j).length (P j).c) (m.lst j).length (ints (m.lst j))) ∧ ∃ o' n' c', Hid (SSt wx sb (some ⟨b, o', none⟩) n' c' (remL m k)) ∧ Hid (KN sb w.heap.size w wx) ∧ Hid (w.heap.size + 2 ≤ wx.heap.size))
  case atStart => exact ⟨0, P0, rfl, by omega, rfl, Lib.hid (HM5.out.below HB6.out), Lib.hid (HR5.out.below HB6.out), HP6, Lib.hid (fun j hj => by omega), o4, n4, c4, Lib.hid (HS5.out.below HB6.out), Lib.hid (HN5.out.trans (KN.of_below (HB6.out.mono (by rw [HZ5.out]; omega)))), Lib.hid (by have := HB6.out.size; have := HZ5.out; omega)⟩
  case round =>
    obtain ⟨k, P, rfl, hk, rfl, HMX, HRX, HPX, HOX, ox, nx, cx, HSX, HNX, HZX⟩ := hrel
    by_cases hlt : k < 7
    · have c1 := HPX.out.cell k
      rw [HPT.out k hlt] at c1
      have hlen := HM.out.len k hlt
      have hS := HSX.out
      rw [remL_succ m k hlt] at hS
      have HC := Lib.hid (HL.out ox nx cx wr (m.lst k) (by omega) (HM.out.elem k hlt) _ hS)
      have HM7 := Lib.hid (fun (wx : World) (hq : KN sb wr.heap.size wr wx) => HMX.out.kn hq HMX.out.lt (by have := HB.out.1; omega))
      have HC7 := Lib.hid (show ∃ v, (cellsTo m P k)[4 + k]? = some v from ⟨_, List.getElem?_eq_getElem (by simp [cellsTo]; omega)⟩)
      clear hS hlen
      go_wp2_with (go_at_call 63; refine HC.out.mono ?_; rintro e w7 ⟨A7, c7, rfl, HO7, o7, n7, d7, HS7, HK7⟩; have HM8 := Lib.hid (HM7.out _ HK7.out); obtain ⟨v8, hv8⟩ := HC7.out; have q8 := HM8.out.cell (4 + k); have f8 := HM8.out.frozen (4 + k); rw [hv8] at q8; clear hv8)
      have h1 := HB.out.1
      have h2 := HB.out.2
      go_roundg (7 - (k + 1))
      case measure => omega
      case rel =>
        refine ⟨k + 1, putP P k ⟨A7, c7⟩, by go_num, by omega, rfl, Lib.hid ?_, Lib.hid ((HRX.out.kn HK7.out HRX.out.lt (by omega)).far (by simp) _), Lib.hid ((HPX.out.kn HK7.out HPX.out.lt (by have := HG6.out; have := HZ5.out; omega)).far (by have := HG6.out; have := HZ5.out; simp only [ne_eq]; omega) _), Lib.hid fun j hj => ?_, o7, n7, d7, Lib.hid (HS7.out.far (by omega) (by omega) _ _), Lib.hid ((HNX.out.trans (HK7.out.mono (by have := HZX.out; omega))).trans (KN.of_below ((Below.refl _ _).setCell (by simp) _))), Lib.hid (by have := HZX.out; have := HK7.out.size; simp only [World.size_setCell]; omega)⟩
        · rw [← cellsTo_set m P ⟨A7, c7⟩ k hlt]
          exact HM8.out.set (4 + k) _
        · refine own_set ?_ (by omega) _
          by_cases e : j = k
          · subst e
            simp only [putP, if_true]
            exact ownsRow_mono HO7.out HZX.out
          · simp only [putP, if_neg e]
            exact own_kn (HOX.out j (by omega)) HK7.out (by omega) (Nat.le_refl _)
    · have : k = 7 := by omega
      subst this
      have qm := HMX.out.cell
      have qr := HRX.out.cell
      have fr := HRX.out.frozen
      rw [cellsTo_end] at qm
      simp only [mCells] at qm
      simp only [zero27] at qr
      clear hlt hk
      have HR8 := Lib.hid (set27 HRX.out rfl m (mpOf P))
      go_wp2
      have hsz := HZX.out
      have h1 := HB.out.1
      have h2 := HB.out.2
      refine bodyPost_ret (results_cell_row rfl _ _ w.heap.size 27 (mCells m (mpOf P)).toArray (0, 0) _ rfl HR8.out.1 Tryz.underlying27 rfl (by kernel_rfl)) rfl ?_
      have hrd : ∀ j, j < 7 → Rd (setAll27 wr w.heap.size m (mpOf P)) (.slice ((mpOf P).pl j).A (m.lst j).length ((mpOf P).pl j).c) (m.lst j) := by
        intro j hj
        have := HOX.out j hj
        have := HR8.out.2.1 _ _ _ _ _ _ this (by omega)
        have e : (mpOf P).pl j = P j := mpOf_pl P j hj
        rw [e]
        exact rd_owned this
      have hnew : MNew w.heap.size m (mpOf P) := fun j hj g hg => by
        have := ownsRow_base (HOX.out j hj) g (by rw [← mpOf_pl P j hj]; exact hg)
        omega
      refine ⟨mpOf P, rfl, Lib.hid ⟨⟨hrd 0 (by omega), hrd 1 (by omega), hrd 2 (by omega), hrd 3 (by omega), hrd 4 (by omega), hrd 5 (by omega), hrd 6 (by omega)⟩, hnew⟩, ox, nx, cx, Lib.hid (HR8.out.2.2.1 _ _ _ _ _ _ HSX.out (by omega) (by omega)), Lib.hid (HNX.out.trans (KN.of_below (HR8.out.2.2.2)))⟩
end Go.Proofs.YtplkchmcojnimaaGreatDoor
/-
  codec: Read: the deferred closure.
-/
namespace Go.Proofs.YtplkchmcojnimaaGreatDoor
open Go.RowKit

theorem catch_idle (p q r : Value) (w : World) :
    CallsD Tryz.prog 82 #[p, q, r] .returning w fun e u' w' => e = .returned (.tuple #[]) ∧ u' = .returning ∧ w' = w := by
  refine callsD_of_wpS Tryz.func82 rfl fun c₀ cs hu => ?_
  apply wpS_seq
  apply wpS_region
  simp [wpOpsS, go_sem, recoverD, hu, Tryz.ntmps82, Exit.thenS]
  refine wpS_of_wp ?_
  go_wp2
  cases c₀
  simp_all [bodyPostS, results, Tryz.results82]
theorem results_read (tmps : Array Value) (w : World) (r q : Nat) (m : MD) (p : MP) (k : Int) (hr : tmps.getD 4 undef = .pointer (some ⟨r, 0, none⟩)) (hq : tmps.getD 5 undef = .pointer (some ⟨q, 0, none⟩)) (h : Blk w r (mCells m p) 27) (h2 : w.cell? ⟨q, 0, none⟩ = some (.int .i64 k)) :
    (results Tryz.f60 tmps).run Tryz.prog w = .ok (.tuple #[.agg (mCells m p).toArray, .int .i64 k]) w := by
  have hr' : tmps[4]?.getD undef = .pointer (some ⟨r, 0, none⟩) := by simpa using hr
  have hq' : tmps[5]?.getD undef = .pointer (some ⟨q, 0, none⟩) := by simpa using hq
  have hc := h.cell
  simp only [mCells] at hc
  simp [results, Tryz.results60, hr', hq', asAddr, go_sem, h2, hc, mCells]
set_option maxRecDepth 100000 in
set_option maxHeartbeats 3200000 in
theorem codecRead_any (m : MD) (hm : m.Ok) (A : Option Addr) (n c : Nat) (w : World) (h : RdV w (.slice A n c) (bys m.bytes)) :
    Calls Tryz.prog 60 #[.slice A n c, .func (.func 61) #[] #[]] w fun e w' => ∃ p, e = .returned (.tuple #[.agg (mCells m p).toArray, .int .i64 0]) ∧ Hid (MAt w' m p ∧ MNew w.heap.size m p) ∧ Hid (Below w.heap.size w w') := by
  have hmf : ∀ (fn : Fn) (first cap : Array Value) (w : World), (Instr.makeFunc fn first cap).run Tryz.prog w = .ok (.func fn first cap) w := fun _ _ _ _ => rfl
  obtain ⟨b, o, c', hv, -⟩ := h.get (i := 0) (by rw [bys_length]; exact hm.bytes_ne)
  injection hv with hA hn hc
  subst hA
  clear hc
  have hlb := h.lt (by rw [bys_length]; exact hm.bytes_ne) b rfl
  obtain ⟨w0, hw0, hb0, hk0, hk1, hs0, hz0⟩ : ∃ w0, (((w.alloc (.cells zero27.toArray 27)).alloc (.cells #[.int .i64 0] 31)).alloc (.cells zero27.toArray 27)).alloc (.cells #[.slice (some ⟨b, o, none⟩) n c] 123) = w0 ∧ Below w.heap.size w w0 ∧ Blk w0 w.heap.size zero27 27 ∧ Blk w0 (w.heap.size + 1) [.int .i64 0] 31 ∧ Blk w0 (w.heap.size + 1 + 1 + 1) [.slice (some ⟨b, o, none⟩) n c] 123 ∧ w0.heap.size = w.heap.size + 4 := by
    refine ⟨_, rfl, ((((Below.refl _ _).alloc (Nat.le_refl _) _).alloc (by simp only [World.size_alloc]; omega) _).alloc (by simp only [World.size_alloc]; omega) _).alloc (by simp only [World.size_alloc]; omega) _, (((news_blk w zero27 27).alloc _).alloc _).alloc _, ?_, ?_, by simp only [World.size_alloc]⟩
    · have := ((news_blk (w.alloc (.cells zero27.toArray 27)) [.int .i64 0] 31).alloc (.cells zero27.toArray 27)).alloc (.cells #[.slice (some ⟨b, o, none⟩) n c] 123)
      simp only [World.size_alloc] at this
      exact this
    · have := news_blk (((w.alloc (.cells zero27.toArray 27)).alloc (.cells #[.int .i64 0] 31)).alloc (.cells zero27.toArray 27)) [.slice (some ⟨b, o, none⟩) n c] 123
      simp only [World.size_alloc] at this
      exact this
  have HB0 := Lib.hid hb0
  have HZ0 := Lib.hid hz0
  have HK0 := Lib.hid hk0
  have HK1 := Lib.hid hk1
  have HLB := Lib.hid hlb
  have HC := Lib.hid (read_any m hm (w.heap.size + 1 + 1 + 1) b o n c w0 ⟨hs0, h.below hb0, by simp only [Value.ownBlock, ne_eq, Option.some.injEq]; omega⟩)
  clear hb0 hk0 hk1 hs0 hz0 h hlb hm hn
  simp only [zero27] at hw0
  go_enter_defers Tryz.func60, Tryz.ntmps60
  go_upto_region 5 with (go_at_call 61; refine HC.out.mono ?_; rintro e w1 ⟨p, rfl, HM1, o1, n1, c1, HS1, HN1⟩; have HR1 := Lib.hid (HK0.out.kn HN1.out (by have := HZ0.out; omega) (by omega)); have HE1 := Lib.hid (HK1.out.kn HN1.out (by have := HZ0.out; omega) (by omega)); have q1 := HR1.out.cell; have r1 := HR1.out.frozen; simp only [zero27] at q1; simp only [mCells])
  clear hw0 q1 r1
  obtain ⟨w2, hw2⟩ : ∃ w2, w2 = setAll27 w1 w.heap.size m p := ⟨_, rfl⟩
  have HR2 := Lib.hid (show Blk w2 w.heap.size (mCells m p) 27 by rw [hw2]; exact (set27 HR1.out rfl m p).1)
  have HE2 := Lib.hid (show Blk w2 (w.heap.size + 1) [.int .i64 0] 31 by rw [hw2]; exact set27_blk HE1.out m p (by omega))
  have HS2 := Lib.hid (show SSt w2 (w.heap.size + 1 + 1 + 1) (some ⟨b, o1, none⟩) n1 c1 [] by rw [hw2]; exact (set27 HR1.out rfl m p).2.2.1 _ _ _ _ _ _ HS1.out (by omega) (by have := HLB.out; omega))
  have HM2 := Lib.hid (show MAt w2 m p by rw [hw2]; exact set27_at HM1.out.1 HM1.out.2 (by have := HZ0.out; omega))
  have HB2 := Lib.hid (show Below w.heap.size w w2 by rw [hw2]; exact (HB0.out.trans (HN1.out.below (B := w.heap.size) (by have := HZ0.out; omega) (by omega))).trans (set27 HR1.out rfl m p).2.2.2)
  simp only [setAll27] at hw2
  rw [← hw2]
  clear hw2
  have hn1 : n1 = 0 := by have := HS2.out.rd.caps.1; simpa [bys] using this
  subst hn1
  have q2 := HR2.out.cell
  have f2 := HR2.out.frozen
  have e2 := HE2.out.cell 0
  have g2 := HE2.out.frozen 0
  have s2 := HS2.out.blk.cell 0
  simp only [mCells] at q2
  go_wp2
  refine leaves_cons (f := 82) (args := #[.pointer (some ⟨w.heap.size + 1 + 1, 0, none⟩), .pointer (some ⟨w.heap.size, 0, none⟩), .pointer (some ⟨w.heap.size + 1, 0, none⟩)]) (by simp) (by simp [go_sem]) ?_
  refine (catch_idle _ _ _ _).mono ?_
  rintro e u' w3 ⟨rfl, rfl, hw3⟩
  have hw3' : w3 = (setAll27 w2 w.heap.size m p).setCell ⟨w.heap.size + 1, 0, none⟩ (.int .i64 0) := hw3
  clear hw3
  subst hw3'
  have hR := set27 HR2.out rfl m p
  refine ⟨_, results_read _ _ w.heap.size (w.heap.size + 1) m p 0 rfl rfl (hR.1.far (by simp) _) ?_, p, rfl, Lib.hid ?_, Lib.hid (HB2.out.trans ((hR.2.2.2).setCell (by simp) _))⟩
  · rw [((set27_blk HE2.out m p (by omega)).set 0 _).cell]; rfl
  · refine ⟨?_, fun i hi g hg => by have := HM1.out.2 i hi g hg; have := HZ0.out; omega⟩
    exact (set27_at HM2.out HM1.out.2 (by have := HZ0.out; omega)).blocks fun i hi g hg => Below.heap_setCell _ _ _ _ (by have := HM1.out.2 i hi g hg; have := HZ0.out; simp only [ne_eq]; omega)
end Go.Proofs.YtplkchmcojnimaaGreatDoor
