/-
  Bytes, head: the head of a log.
-/
import Derived.Test.YtllpoaoboieijaaGreatSa11
import Derived.Test.YtllpoaoboieijaaGreatSa26
/-
  Bytes, head: the head of a log.
-/
namespace Go.Proofs.YtllpoaoboieijaaGreat
open Go.RowKit

set_option maxRecDepth 100000 in
set_option maxHeartbeats 1600000 in
theorem bytes_any (p : MPl) (w : World) (h : DemoAt w p) : Calls Tryz.prog 56 #[.agg (demoCells p).toArray] w fun e w' => ∃ A c, e = .returned (.tuple #[.slice A modelB.length c, .int .i64 0]) ∧ Hid (Below w.heap.size w w') ∧ Hid (RdV w' (.slice A modelB.length c) (bys modelB)) := by
  obtain ⟨wb, hwb, hbel, hblk⟩ : ∃ wb, w.alloc (.cells (demoCells p).toArray 27) = wb ∧ Below w.heap.size w wb ∧ Blk wb w.heap.size (demoCells p) 27 := ⟨_, rfl, (Below.refl _ _).alloc (Nat.le_refl _) _, heap_alloc_new w _⟩
  have HQ := Lib.hid (fun (wx : World) (hb : Below wb.heap.size wb wx) => (hblk.below hb).cell)
  have q0 := hblk.cell
  have HB := Lib.hid hbel
  have HWB := Lib.hid hwb
  have HD := Lib.hid (h.below hbel)
  have HC := Lib.hid (check_any p wb (h.below hbel))
  have HY := Lib.hid (fun wx (hx : DemoAt wx p) => bytesOf_any p wx hx)
  clear hbel hblk h
  simp only [demoCells] at q0 HQ HC HY hwb ⊢
  go_enter Tryz.func56, Tryz.ntmps56
  go_wp2_with (first | (go_at_call 40; refine HC.out.mono ?_; rintro e w1 ⟨rfl, hb1⟩; have HB1 := Lib.hid hb1; clear hb1; have q1 := HQ.out _ HB1.out) | (go_at_call 86; refine (HY.out w1 (HD.out.below HB1.out)).mono ?_; rintro e w2 ⟨A, c, rfl, HB2, HO2⟩))
  go_ret2
  refine ⟨A, c, rfl, Lib.hid ((HB.out.trans (HB1.out.mono HB.out.size)).trans (HB2.out.mono (Nat.le_trans HB.out.size HB1.out.size))), Lib.hid ?_⟩
  have : OwnBys w1.heap.size w2 (.slice A modelB.length c) modelB := HO2.out
  exact this.shape.choose_spec.choose_spec.2

structure Cnf where
  pages : Int
  size : Int
  batch : Int
  queue : Int
def Cnf.val (c : Cnf) : Value := .agg #[.int .i64 c.pages, .int .i64 c.size, .int .i64 c.batch, .int .i64 c.queue]
def Cnf.nth (c : Cnf) : Nat → Int
  | 0 => c.pages
  | 1 => c.size
  | 2 => c.batch
  | _ => c.queue
def headTo (c : Cnf) : Nat → List Int
  | 0 => [119, 102, 108, 1] ++ lowL (crcOf modelB) 4
  | k + 1 => headTo c k ++ lowL (c.nth k) 4
def headB (c : Cnf) : List Int := headTo c 4 ++ lowL (crcOf (headTo c 4)) 4
theorem headTo_len (c : Cnf) (k : Nat) : (headTo c k).length = 8 + 4 * k := by
  induction k with
  | zero => simp [headTo, lowL_length]
  | succ k ih => simp only [headTo, List.length_append, lowL_length, ih]; omega
theorem own_lit (w : World) (l : List Int) (h : l.length ≤ 1000) : OwnBys w.heap.size (w.alloc (.cells (bys l).toArray 5)) (.slice (some ⟨w.heap.size, 0, none⟩) l.length l.length) l :=
  ⟨by simp [bys], .inr ⟨w.heap.size, l.length, _, rfl, Nat.le_refl _, heap_alloc_new w _, Nat.le_refl _, by unfold maxLen; omega, by simp [bys], by rw [Nat.mul_one]; exact List.take_of_length_le (by simp [bys])⟩⟩

theorem ob_ne {g8 n c b : Nat} (h : g8 ≠ b) : ∀ g, (Value.slice (some (⟨g8, 0, none⟩ : Addr)) n c).ownBlock = some g → g ≠ b := fun g hg => by
  have : g8 = g := by simpa [Value.ownBlock] using hg
  rw [← this]; exact h
set_option maxRecDepth 100000 in
set_option maxHeartbeats 3200000 in
theorem head_any (p : MPl) (cf : Cnf) (w : World) (h : DemoAt w p) : Calls Tryz.prog 30 #[.agg (demoCells p).toArray, cf.val] w fun e w' => ∃ g c, e = .returned (.slice (some ⟨g, 0, none⟩) 28 c) ∧ Hid (Below w.heap.size w w') ∧ Hid (w'.ownsRow w.heap.size 5 1 (.slice (some ⟨g, 0, none⟩) 28 c) 28 (bys (headB cf))) := by
  obtain ⟨wb, hwb, hbel, hblk⟩ : ∃ wb, w.alloc (.cells (demoCells p).toArray 27) = wb ∧ Below w.heap.size w wb ∧ Blk wb w.heap.size (demoCells p) 27 := ⟨_, rfl, (Below.refl _ _).alloc (Nat.le_refl _) _, heap_alloc_new w _⟩
  obtain ⟨wc, hwc, hbel2, hblk2⟩ : ∃ wc, wb.alloc (.cells #[.int .i64 cf.pages, .int .i64 cf.size, .int .i64 cf.batch, .int .i64 cf.queue] 30) = wc ∧ Below wb.heap.size wb wc ∧ Blk wc wb.heap.size [.int .i64 cf.pages, .int .i64 cf.size, .int .i64 cf.batch, .int .i64 cf.queue] 30 := ⟨_, rfl, (Below.refl _ _).alloc (Nat.le_refl _) _, heap_alloc_new wb _⟩
  have HQ2 := Lib.hid (fun (wx : World) (hb : Below wc.heap.size wc wx) => (hblk2.below hb).cell)
  have q0 := (hblk.below hbel2).cell
  have HB := Lib.hid (hbel.trans (hbel2.mono hbel.size))
  have HY := Lib.hid (bytes_any p wc ((h.below hbel).below hbel2))
  obtain ⟨i0, hi, hz0, hz1, hz2⟩ := info_parts info5
  clear hbel hblk h hbel2 hblk2
  simp only [demoCells] at q0 HY hwb ⊢
  unfold Cnf.val
  go_enter Tryz.func30, Tryz.ntmps30
  go_upto_region 2 with (go_at_call 56; refine HY.out.mono ?_; rintro e w1 ⟨A1, c1, rfl, HB1, HR1⟩)
  obtain ⟨w2, hw2, hb2, ho2⟩ : ∃ w2, w1.alloc (.cells #[.int .u8 119, .int .u8 102, .int .u8 108, .int .u8 1] 5) = w2 ∧ Below w1.heap.size w1 w2 ∧ OwnBys w1.heap.size w2 (.slice (some ⟨w1.heap.size, 0, none⟩) 4 4) [119, 102, 108, 1] := ⟨_, rfl, (Below.refl _ _).alloc (Nat.le_refl _) _, own_lit w1 [119, 102, 108, 1] (by decide)⟩
  have HO2 := Lib.hid ho2
  have HB2 := Lib.hid hb2
  have HCD := Lib.hid (code_any modelB A1 c1 w2 (HR1.out.below hb2))
  generalize hcr : crcOf modelB = cr at HCD
  have HCR := Lib.hid hcr
  clear hb2 ho2 q0 hwb hwc hcr
  go_upto_region 3 with (first | (at_builtin; refine wpList_append_lies _ rfl _ _ 56 rfl w1.heap.size 5 i0 (.int .u8 0) 1 1 Tryz.underlying56 hi hz0 hz1 hz2 rfl (by decide) _ 4 _ rfl (HO2.out.below HB3.out) ⟨g3, 0, none⟩ 4 c3 (bys (lowL cr 4)) rfl (by simp [bys, lowL_length]) HN3.out (bys_cells _) (by decide) (by decide) (by decide) (Nat.le_trans HB2.out.size HB3.out.size) _ rfl ?_; intro g4 cap4 w4 hown4 hgrow4 hat4 hlt4; have HO4 := Lib.hid hown4; have HB4 := Lib.hid ((HB2.out.trans (HB3.out.mono HB2.out.size)).trans (Below.ofGrown hgrow4 (Nat.le_trans HB2.out.size HB3.out.size) (ownsRow_base HO2.out))); clear hown4 hgrow4 hat4 hlt4) | (go_at_call 49; refine HCD.out.mono ?_; rintro e wz ⟨rfl, hz⟩; subst wz) | (go_at_call 57; refine (low_any' cr 4 (by omega) (by omega) _).mono ?_; rintro e w3 ⟨g3, c3, rfl, HB3, HN3, -⟩))
  clear hw2
  have r4 := HQ2.out w4 (HB1.out.trans (HB4.out.mono HB1.out.size))
  obtain ⟨w5, hw5, hb5, hk5⟩ : ∃ w5, w4.alloc (.cells #[.int .i64 cf.pages, .int .i64 cf.size, .int .i64 cf.batch, .int .i64 cf.queue] 3) = w5 ∧ Below w4.heap.size w4 w5 ∧ Blk w5 w4.heap.size (ints [cf.pages, cf.size, cf.batch, cf.queue]) 3 := ⟨_, rfl, (Below.refl _ _).alloc (Nat.le_refl _) _, heap_alloc_new w4 _⟩
  have HO5 := Lib.hid (show w5.ownsRow w1.heap.size 5 1 (.slice (some ⟨g4, 0, none⟩) 8 cap4) 8 (bys (headTo cf 0)) from by
    have h0 : w4.ownsRow w1.heap.size 5 1 (.slice (some ⟨g4, 0, none⟩) 8 cap4) 8 (bys (headTo cf 0)) := by
      have e : headTo cf 0 = [119, 102, 108, 1] ++ lowL cr 4 := by rw [← HCR.out]; rfl
      rw [e, bys, List.map_append]
      exact HO4.out
    exact ownsRow_below h0 hb5)
  have HB5 := Lib.hid (HB4.out.trans (hb5.mono HB4.out.size))
  have HK5 := Lib.hid hk5
  have HSG := Lib.hid (show ∀ g, (Value.slice (some (⟨g4, 0, none⟩ : Addr)) 8 cap4).ownBlock = some g → g < w4.heap.size from fun g hg => by
    have : g4 = g := by simpa [Value.ownBlock] using hg
    subst this
    exact (HO4.out.lt g4 rfl).2)
  generalize hn4 : w4.heap.size = b4 at HK5 HSG hb5
  have HN4 := Lib.hid hn4
  have HB45 := Lib.hid hb5
  clear hb5 hk5
  go_wp2
  go_loopg [7, 30] 4 (fun gk s7 s30 wx => ∃ k : Nat, s30 = .int .i64 k ∧ k ≤ 4 ∧ Hid (Below w1.heap.size w1 wx) ∧ Hid (wx.ownsRow w1.heap.size 5 1 s7 (8 + 4 * k) (bys (headTo cf k))) ∧ Hid (Blk wx b4 (ints [cf.pages, cf.size, cf.batch, cf.queue]) 3) ∧ Hid (∀ g, s7.ownBlock = some g → g ≠ b4) ∧ gk = 4 - k)
  case atStart => exact ⟨0, rfl, by omega, HB5, HO5, HK5, Lib.hid (fun g hg e => by have := HSG.out g hg; omega), rfl⟩
  case round =>
    obtain ⟨k, rfl, hk, HB6, HO6, HK6, HN6, rfl⟩ := hrel
    obtain ⟨A7, c7, hv7⟩ := ownsRow_shape HO6.out
    subst hv7
    by_cases hlt : k < 4
    · have c1 : wr.cell? ⟨b4, k, none⟩ = some (.int .i64 (cf.nth k)) := by
        rw [HK6.out.cell]
        have : k = 0 ∨ k = 1 ∨ k = 2 ∨ k = 3 := by omega
        rcases this with rfl | rfl | rfl | rfl <;> rfl
      have HT := Lib.hid (show headTo cf (k + 1) = headTo cf k ++ lowL (cf.nth k) 4 from rfl)
      generalize cf.nth k = x at c1 HT
      have HLT6 := Lib.hid HK6.out.lt
      go_wp2_with (first | (at_builtin; refine wpList_append_lies _ rfl _ _ 56 rfl w1.heap.size 5 i0 (.int .u8 0) 1 1 Tryz.underlying56 hi hz0 hz1 hz2 rfl (by decide) _ (8 + 4 * k) _ rfl (ownsRow_below HO6.out HB7.out) ⟨g7, 0, none⟩ 4 c8 (bys (lowL x 4)) rfl (by simp [bys, lowL_length]) HN7.out (bys_cells _) (by decide) (by unfold maxLen; omega) (by omega) (Nat.le_trans HB6.out.size HB7.out.size) _ rfl ?_; intro g8 cap8 w8 hown8 hgrow8 hat8 hlt8; have HO8 := Lib.hid hown8; have HB8 := Lib.hid ((HB6.out.trans (HB7.out.mono HB6.out.size)).trans (Below.ofGrown hgrow8 (Nat.le_trans HB6.out.size HB7.out.size) (ownsRow_base HO6.out))); have HK8 := Lib.hid (Blk.grown hgrow8 (HK6.out.below HB7.out) (fun e => HN6.out b4 e.symm rfl)); have HN8 := Lib.hid (show g8 ≠ b4 from fun e => by rcases hat8 with a | a; exact HN6.out g8 a e; have := HB7.out.size; have := HLT6.out; omega); clear hown8 hgrow8 hat8 hlt8) | (go_at_call 57; refine (low_any' x 4 (by omega) (by omega) _).mono ?_; rintro e w7 ⟨g7, c8, rfl, HB7, HN7, -⟩))
      go_roundg (4 - (k + 1))
      case measure => omega
      case rel => exact ⟨k + 1, by go_num, by omega, HB8, Lib.hid (by rw [HT.out, bys, List.map_append]; exact HO8.out), HK8, Lib.hid (ob_ne HN8.out), rfl⟩
    · have : k = 4 := by omega
      subst this
      have hob : OwnBys w1.heap.size wr (.slice A7 24 c7) (headTo cf 4) := by
        unfold OwnBys
        rw [headTo_len]
        exact HO6.out
      have hse := sealed_any w1.heap.size (headTo cf 4) (.slice A7 24 c7) wr hob HB6.out.size (by rw [headTo_len]; omega)
      have HSE := Lib.hid hse
      clear hse hob
      go_wp2_with (go_at_call 58; refine HSE.out.mono ?_; rintro e w9 ⟨v9, rfl, hb9, ho9⟩; have HB9 := Lib.hid hb9; have HO9 := Lib.hid ho9; clear hb9 ho9)
      go_ret
      have h28 : (headTo cf 4 ++ lowL (crcOf (headTo cf 4)) 4).length = 28 := by rw [List.length_append, headTo_len, lowL_length]
      have ho := HO9.out
      unfold OwnBys at ho
      rw [h28] at ho
      rcases ho.2 with ⟨hv, hz⟩ | ⟨g, cap, cur, hv, -⟩
      · omega
      · subst hv
        exact ⟨g, cap, rfl, Lib.hid (HB.out.trans ((HB1.out.trans ((HB6.out.trans HB9.out).mono HB1.out.size)).mono HB.out.size)), Lib.hid (ownsRow_mono ho (Nat.le_trans HB.out.size HB1.out.size))⟩
end Go.Proofs.YtllpoaoboieijaaGreat
