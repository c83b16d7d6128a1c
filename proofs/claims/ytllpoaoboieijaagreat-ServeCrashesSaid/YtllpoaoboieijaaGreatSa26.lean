/-
  codec: List; models: lists, bytesOf, Bytes.
-/
import Derived.Test.YtllpoaoboieijaaGreatSa22
import Derived.Test.YtllpoaoboieijaaGreatSa25
/-
  codec: List; models: lists, bytesOf, Bytes.
-/
namespace Go.Proofs.YtllpoaoboieijaaGreat
open Go.RowKit

theorem KW.below {base wb : Nat} {v v' : Value} {w w' : World} (h : KW wb v w v' w') (hb : base ≤ w.heap.size) (hw : base ≤ wb) (hv : ∀ g, v.ownBlock = some g → base ≤ g) : Below base w w' :=
  ⟨h.os, h.tape, h.output, h.size, fun b hlt => h.block b (by omega) (by omega) (fun e => by have := hv b e; omega)⟩
theorem RdAt.base {w w' : World} {B b o c : Nat} {l : List Int} (h : RdAt w b o c l) (hb : Below B w w') (hlt : b < B) : RdAt w' b o c l := by
  refine ⟨h.1, h.2.1, fun i hi => ?_⟩
  rw [hb.cell (p := ⟨b, o + i, none⟩) hlt]
  exact h.2.2 i hi
def listTo (l : List Int) : Nat → List Int
  | 0 => numB l.length
  | i + 1 => listTo l i ++ numB (l.getD i 0)
def listB (l : List Int) : List Int := listTo l l.length
theorem numL_len (f : Nat) : ∀ u, (numL f u).length ≤ f + 1 := by
  induction f with
  | zero => intro u; simp [numL]
  | succ f ih => intro u; simp only [numL]; split
                 · have := ih (u / 128); simp; omega
                 · simp
theorem numB_len (n : Int) : (numB n).length ≤ 3 := numL_len 2 _
theorem listTo_len (l : List Int) (i : Nat) : (listTo l i).length ≤ 3 * (i + 1) := by
  induction i with
  | zero => exact numB_len _
  | succ i ih => simp only [listTo, List.length_append]; have := numB_len (l.getD i 0); omega

set_option maxRecDepth 100000 in
set_option maxHeartbeats 1600000 in
theorem list_any (base wb : Nat) (v : Value) (acc l : List Int) (b o c n : Nat) (hn : n = l.length) (hl : n ≤ 100) (hin : ∀ x, x ∈ l → -1000 ≤ x ∧ x ≤ 1000) (hacc : acc.length ≤ 90000) (w : World) (h : WSt base w wb v acc) (hbase : base ≤ w.heap.size) (hwb : base ≤ wb)
    (hr : RdAt w b o c l) (hb : b < base) :
    Calls Tryz.prog 104 #[.pointer (some ⟨wb, 0, none⟩), .slice (some ⟨b, o, none⟩) n c, .func (.func 102) #[.pointer (some ⟨wb, 0, none⟩)] #[]] w fun e w' => e = .returned (.tuple #[]) ∧ ∃ v', Hid (WSt base w' wb v' (acc ++ listB l)) ∧ Hid (KW wb v w v' w') := by
  subst hn
  have H := Lib.hid h
  have HR := Lib.hid hr
  have HIN := Lib.hid hin
  have HB := Lib.hid hb
  have hc1 := number_any base wb v acc l.length (by omega) (by omega) w h hbase
  have HC1 := Lib.hid hc1
  have HNX := Lib.hid (fun (wx : World) (hb : base ≤ wx.heap.size) (v1 : Value) (acc1 : List Int) (h1 : WSt base wx wb v1 acc1) (x : Int) (hx : -1000 ≤ x ∧ x ≤ 1000) (hal : acc1.length ≤ 100000) => number_any base wb v1 acc1 x hx hal wx h1 hb)
  clear h hr hin hc1 hb
  go_enter Tryz.func104, Tryz.ntmps104
  go_wp2_with (go_at_call 102; refine HC1.out.mono ?_; rintro e w1 ⟨rfl, v1, HW1, HK1⟩)
  go_loopg [14] l.length (fun gk s14 wx => ∃ (i : Nat) (v2 : Value), s14 = .int .i64 i ∧ i ≤ l.length ∧ Hid (WSt base wx wb v2 (acc ++ listTo l i)) ∧ Hid (KW wb v w v2 wx) ∧ gk = l.length - i)
  case atStart => exact ⟨0, v1, rfl, by omega, HW1, HK1, rfl⟩
  case round =>
    obtain ⟨i, v2, rfl, hi, HW2, HK2, rfl⟩ := hrel
    by_cases hlt : i < l.length
    · have hbel : Below base w wr := HK2.out.below hbase hwb (ownsRow_base H.out.row)
      have c1 := (HR.out.base hbel HB.out).2.2 i hlt
      have hm : l.getD i 0 ∈ l := by rw [show l.getD i 0 = l[i] by simp [List.getD, hlt]]; exact List.getElem_mem hlt
      have hx := HIN.out _ hm
      have HT := Lib.hid (show listTo l (i + 1) = listTo l i ++ numB (l.getD i 0) from rfl)
      have hll := listTo_len l i
      generalize l.getD i 0 = x at c1 hx HT
      have HCX := Lib.hid (HNX.out wr (Nat.le_trans hbase HK2.out.size) v2 _ HW2.out x hx (by rw [List.length_append]; omega))
      clear hm hx hll hbel
      go_wp2_with (go_at_call 102; refine HCX.out.mono ?_; rintro e w3 ⟨rfl, v3, HW3, HK3⟩)
      go_roundg (l.length - (i + 1))
      case measure => omega
      case rel => exact ⟨i + 1, v3, by go_num, by omega, Lib.hid (by rw [HT.out, ← List.append_assoc]; exact HW3.out), Lib.hid (HK2.out.trans HK3.out), rfl⟩
    · have : i = l.length := by omega
      subst this
      go_wp2
      go_end0
      exact ⟨rfl, v2, HW2, HK2⟩

set_option maxRecDepth 100000 in
set_option maxHeartbeats 1600000 in
theorem lists_any (mb : Nat) (w : World) :
    Calls Tryz.prog 103 #[.pointer (some ⟨mb, 0, none⟩)] w fun e w' => ∃ g, e = .returned (.slice (some ⟨g, 0, none⟩) 7 7) ∧ Hid (Below w.heap.size w w') ∧ Hid (Blk w' g [.pointer (some ⟨mb, 4, none⟩), .pointer (some ⟨mb, 5, none⟩), .pointer (some ⟨mb, 6, none⟩), .pointer (some ⟨mb, 7, none⟩), .pointer (some ⟨mb, 8, none⟩), .pointer (some ⟨mb, 9, none⟩), .pointer (some ⟨mb, 10, none⟩)] 64 ∧ w.heap.size ≤ g) := by
  go_enter Tryz.func103, Tryz.ntmps103
  go_upto_region 1 with fail
  go_region
  go_wp2
  go_ret
  exact ⟨_, rfl, Lib.hid ((Below.refl _ _).alloc (Nat.le_refl _) _).drew, Lib.hid ⟨heap_alloc_new w _, Nat.le_refl _⟩⟩

def n4 : Nat → Int
  | 0 => 1
  | 1 => 8
  | 2 => 4
  | _ => 8
def dLs : Nat → List Int
  | 0 => demoM.cuts
  | 1 => demoM.embed
  | 2 => demoM.place
  | 3 => demoM.mix
  | 4 => demoM.out
  | 5 => demoM.soft
  | _ => demoM.odds
def dPl (p : MPl) : Nat → Pl
  | 0 => p.cuts
  | 1 => p.embed
  | 2 => p.place
  | 3 => p.mix
  | 4 => p.out
  | 5 => p.soft
  | _ => p.odds
def dLen : Nat → Nat
  | 0 => 4
  | 1 => 32
  | 2 => 16
  | 3 => 48
  | 4 => 32
  | 5 => 7
  | _ => 6
theorem seven {P : Nat → Prop} (h0 : P 0) (h1 : P 1) (h2 : P 2) (h3 : P 3) (h4 : P 4) (h5 : P 5) (h6 : P 6) : ∀ i, i < 7 → P i := by
  intro i hi
  have : i = 0 ∨ i = 1 ∨ i = 2 ∨ i = 3 ∨ i = 4 ∨ i = 5 ∨ i = 6 := by omega
  rcases this with rfl | rfl | rfl | rfl | rfl | rfl | rfl
  · exact h0
  · exact h1
  · exact h2
  · exact h3
  · exact h4
  · exact h5
  · exact h6
theorem dLs_len : ∀ i, i < 7 → (dLs i).length = dLen i :=
  seven rfl (matL_len _ _) (matL_len _ _) (matL_len _ _) (matL_len _ _) rfl rfl
theorem dLs_in : ∀ i, i < 7 → ∀ x, x ∈ dLs i → -1000 ≤ x ∧ x ≤ 1000 :=
  seven (by decide) (fun x hx => by have := matL_in _ _ x hx; omega) (fun x hx => by have := matL_in _ _ x hx; omega) (fun x hx => by have := matL_in _ _ x hx; omega) (fun x hx => by have := matL_in _ _ x hx; omega) (by decide) (by decide)
theorem dLen_bnd : ∀ i, i < 7 → 0 < dLen i ∧ dLen i ≤ 48 := seven (by decide) (by decide) (by decide) (by decide) (by decide) (by decide) (by decide)
theorem DemoAt.ith {w : World} {p : MPl} (h : DemoAt w p) : ∀ i, i < 7 → RdAt w (dPl p i).b (dPl p i).o (dPl p i).c (dLs i) :=
  seven h.cuts h.embed h.place h.mix h.out h.soft h.odds
theorem demoCells_ith (p : MPl) : ∀ i, i < 7 → (demoCells p)[4 + i]? = some (.slice (some ⟨(dPl p i).b, (dPl p i).o, none⟩) (dLen i) (dPl p i).c) :=
  seven rfl rfl rfl rfl rfl rfl rfl
/-- The bytes of a model. -/
def nTo : Nat → List Int
  | 0 => []
  | k + 1 => nTo k ++ numB (n4 k)
def mTo : Nat → List Int
  | 0 => nTo 4
  | k + 1 => mTo k ++ listB (dLs k)
def modelB : List Int := mTo 7
theorem nTo_len (k : Nat) : (nTo k).length ≤ 3 * k := by
  induction k with
  | zero => simp [nTo]
  | succ k ih => simp only [nTo, List.length_append]; have := numB_len (n4 k); omega
theorem mTo_len (k : Nat) (hk : k ≤ 7) : (mTo k).length ≤ 12 + 200 * k := by
  induction k with
  | zero => exact nTo_len 4
  | succ k ih =>
    have h1 := ih (by omega)
    have h2 := listTo_len (dLs k) (dLs k).length
    have h3 := dLs_len k (by omega)
    have h4 := dLen_bnd k (by omega)
    simp only [mTo, List.length_append, listB]
    omega

set_option maxRecDepth 100000 in
set_option maxHeartbeats 3200000 in
theorem bytesOf_any (p : MPl) (w : World) (h : DemoAt w p) : Calls Tryz.prog 86 #[.agg (demoCells p).toArray] w fun e w' => ∃ A c, e = .returned (.slice A modelB.length c) ∧ Hid (Below w.heap.size w w') ∧ Hid (w'.ownsRow w.heap.size 5 1 (.slice A modelB.length c) modelB.length (bys modelB)) := by
  obtain ⟨w3, hw3, hb3, hk0, hk1, hk2, hs3⟩ : ∃ w3, ((w.alloc (.cells (demoCells p).toArray 27)).alloc (.cells #[.slice none 0 0] 130)).alloc (.cells #[.int .i64 1, .int .i64 8, .int .i64 4, .int .i64 8] 3) = w3 ∧ Below w.heap.size w w3 ∧ Blk w3 w.heap.size (demoCells p) 27 ∧ Blk w3 (w.heap.size + 1) [.slice none 0 0] 130 ∧ Blk w3 (w.heap.size + 1 + 1) (ints [1, 8, 4, 8]) 3 ∧ w3.heap.size = w.heap.size + 3 := by
    refine ⟨_, rfl, ?_, ?_, ?_, ?_, ?_⟩
    · exact (((Below.refl _ _).alloc (Nat.le_refl _) _).alloc (by simp only [World.size_alloc]; omega) _).alloc (by simp only [World.size_alloc]; omega) _
    · exact ((news_blk w (demoCells p) 27).alloc _).alloc _
    · have := (news_blk (w.alloc (.cells (demoCells p).toArray 27)) [.slice none 0 0] 130).alloc (.cells #[.int .i64 1, .int .i64 8, .int .i64 4, .int .i64 8] 3)
      simp only [World.size_alloc] at this
      exact this
    · have := news_blk ((w.alloc (.cells (demoCells p).toArray 27)).alloc (.cells #[.slice none 0 0] 130)) (ints [1, 8, 4, 8]) 3
      simp only [World.size_alloc] at this
      exact this
    · simp only [World.size_alloc]
  have HW3 := Lib.hid hw3
  have HB3 := Lib.hid hb3
  have HK0 := Lib.hid hk0
  have HK1 := Lib.hid hk1
  have HK2 := Lib.hid hk2
  have HS3 := Lib.hid hs3
  have HD := Lib.hid h
  clear hb3 hk0 hk1 hk2 hs3 h
  simp only [demoCells] at hw3 ⊢
  go_enter Tryz.func86, Tryz.ntmps86
  go_upto_region 3 with fail
  have HNX := Lib.hid (fun (wx : World) (hb : w.heap.size ≤ wx.heap.size) (v1 : Value) (acc1 : List Int) (h1 : WSt w.heap.size wx (w.heap.size + 1) v1 acc1) (x : Int) (hx : -1000 ≤ x ∧ x ≤ 1000) (hal : acc1.length ≤ 100000) => number_any w.heap.size (w.heap.size + 1) v1 acc1 x hx hal wx h1 hb)
  clear hw3
  go_loopg [18] 4 (fun gk s18 wx => ∃ (k : Nat) (v : Value), s18 = .int .i64 k ∧ k ≤ 4 ∧ Hid (WSt w.heap.size wx (w.heap.size + 1) v (nTo k)) ∧ Hid (KW (w.heap.size + 1) (.slice none 0 0) w3 v wx) ∧ gk = 4 - k)
  case atStart => exact ⟨0, .slice none 0 0, rfl, by omega, Lib.hid ⟨HK1.out, World.ownsRow_nil _ _ _ _, by simp [Value.ownBlock]⟩, Lib.hid (KW.refl _ _ _), rfl⟩
  case round =>
    obtain ⟨k, v, rfl, hk, HW, HK, rfl⟩ := hrel
    have hsz : w.heap.size ≤ wr.heap.size := by have := HS3.out; have := HK.out.size; omega
    by_cases hlt : k < 4
    · have hl2 := HK2.out.lt
      have c1 : wr.cell? ⟨w.heap.size + 1 + 1, k, none⟩ = some (.int .i64 (n4 k)) := by
        rw [World.cell?_of_block (a := ⟨w.heap.size + 1 + 1, k, none⟩) (w := w3) (HK.out.block (w.heap.size + 1 + 1) hl2 (by omega) (by simp [Value.ownBlock])), HK2.out.cell]
        have : k = 0 ∨ k = 1 ∨ k = 2 ∨ k = 3 := by omega
        rcases this with rfl | rfl | rfl | rfl <;> rfl
      have hx : -1000 ≤ n4 k ∧ n4 k ≤ 1000 := by
        have : k = 0 ∨ k = 1 ∨ k = 2 ∨ k = 3 := by omega
        rcases this with rfl | rfl | rfl | rfl <;> decide
      have HC := Lib.hid (HNX.out wr hsz v _ HW.out (n4 k) hx (by have := nTo_len k; omega))
      have HT := Lib.hid (show nTo (k + 1) = nTo k ++ numB (n4 k) from rfl)
      generalize n4 k = x at c1 HC HT
      clear hx hl2
      go_wp2_with (go_at_call 102; refine HC.out.mono ?_; rintro e w4 ⟨rfl, v4, HW4, HK4⟩)
      go_roundg (4 - (k + 1))
      case measure => omega
      case rel => exact ⟨k + 1, v4, by go_num, by omega, Lib.hid (by rw [HT.out]; exact HW4.out), Lib.hid (HK.out.trans HK4.out), rfl⟩
    · have : k = 4 := by omega
      subst this
      obtain ⟨w4, rfl⟩ : ∃ w4, w4 = wr := ⟨_, rfl⟩
      have HKB := Lib.hid (HK.out.below (base := w.heap.size) (by have := HS3.out; omega) (by omega) (fun g hg => by simp [Value.ownBlock] at hg))
      have HLS : Hid (Calls Tryz.prog 103 #[.pointer (some ⟨w.heap.size, 0, none⟩)] w4 fun e w' => ∃ g, e = .returned (.slice (some ⟨g, 0, none⟩) 7 7) ∧ Hid (Below w4.heap.size w4 w') ∧ Hid (Blk w' g [.pointer (some ⟨w.heap.size, 4, none⟩), .pointer (some ⟨w.heap.size, 5, none⟩), .pointer (some ⟨w.heap.size, 6, none⟩), .pointer (some ⟨w.heap.size, 7, none⟩), .pointer (some ⟨w.heap.size, 8, none⟩), .pointer (some ⟨w.heap.size, 9, none⟩), .pointer (some ⟨w.heap.size, 10, none⟩)] 64 ∧ w4.heap.size ≤ g)) := Lib.hid (lists_any w.heap.size w4)
      have hbx : Blk w4 w.heap.size (demoCells p) 27 := by
        have hl := HK0.out.lt
        have h0 := HK0.out
        unfold Blk at h0 ⊢
        rw [HK.out.block w.heap.size hl (by omega) (by simp [Value.ownBlock])]; exact h0
      have HBX := Lib.hid hbx
      clear hbx
      go_wp2_with (go_at_call 103; refine HLS.out.mono ?_; rintro e w5 ⟨g5, rfl, HB5, HP5⟩)
      have HW5 := Lib.hid (show WSt w.heap.size w5 (w.heap.size + 1) v (nTo 4) from ⟨HW.out.blk.below HB5.out, ownsRow_below HW.out.row HB5.out, HW.out.ne⟩)
      have HBX5 := Lib.hid (HBX.out.below HB5.out)
      have HVG := Lib.hid (show ∀ g, v.ownBlock = some g → w.heap.size + 1 < g ∧ g < w4.heap.size from fun g hg => ⟨by
        rcases HK.out.new g hg with a | a
        · simp [Value.ownBlock] at a
        · have := HS3.out; omega, (HW.out.row.lt g hg).2⟩)
      go_loopg [27] 7 (fun gk s27 wx => ∃ (k : Nat) (v7 : Value), s27 = .int .i64 k ∧ k ≤ 7 ∧ Hid (WSt w.heap.size wx (w.heap.size + 1) v7 (mTo k)) ∧ Hid (KW (w.heap.size + 1) v w5 v7 wx) ∧ gk = 7 - k)
      case atStart => exact ⟨0, v, rfl, by omega, HW5, Lib.hid (KW.refl _ _ _), rfl⟩
      case round =>
        obtain ⟨k, v7, rfl, hk, HW7, HK7, rfl⟩ := hrel
        have hsz7 : w.heap.size ≤ wr.heap.size := by have := HK7.out.size; have := HB5.out.size; have := HK.out.size; have := HS3.out; omega
        have HBB := Lib.hid (show Below w.heap.size w wr from HB3.out.trans (HKB.out.trans ((HB5.out.mono (by have := HK.out.size; have := HS3.out; omega)).trans (HK7.out.below (by have := HB5.out.size; have := HK.out.size; have := HS3.out; omega) (by omega) (fun g hg => by have := (HVG.out g hg).1; omega)))))
        by_cases hlt : k < 7
        · have hg5 : g5 < w5.heap.size := HP5.out.1.lt
          have hpt : (([Value.pointer (some ⟨w.heap.size, 4, none⟩), .pointer (some ⟨w.heap.size, 5, none⟩), .pointer (some ⟨w.heap.size, 6, none⟩), .pointer (some ⟨w.heap.size, 7, none⟩), .pointer (some ⟨w.heap.size, 8, none⟩), .pointer (some ⟨w.heap.size, 9, none⟩), .pointer (some ⟨w.heap.size, 10, none⟩)] : List Value)[k]? = some (.pointer (some ⟨w.heap.size, 4 + k, none⟩))) :=
            seven (P := fun k => ([Value.pointer (some ⟨w.heap.size, 4, none⟩), .pointer (some ⟨w.heap.size, 5, none⟩), .pointer (some ⟨w.heap.size, 6, none⟩), .pointer (some ⟨w.heap.size, 7, none⟩), .pointer (some ⟨w.heap.size, 8, none⟩), .pointer (some ⟨w.heap.size, 9, none⟩), .pointer (some ⟨w.heap.size, 10, none⟩)] : List Value)[k]? = some (.pointer (some ⟨w.heap.size, 4 + k, none⟩))) rfl rfl rfl rfl rfl rfl rfl k hlt
          have c1 : wr.cell? ⟨g5, k, none⟩ = some (.pointer (some ⟨w.heap.size, 4 + k, none⟩)) := by
            rw [World.cell?_of_block (a := ⟨g5, k, none⟩) (w := w5) (HK7.out.block g5 hg5 (by have := HP5.out.2; have := HW.out.blk.lt; omega) (fun e => by have := (HVG.out g5 e).2; have := HP5.out.2; omega)), HP5.out.1.cell]
            exact hpt
          have c2 : wr.cell? ⟨w.heap.size, 4 + k, none⟩ = some (.slice (some ⟨(dPl p k).b, (dPl p k).o, none⟩) (dLen k) (dPl p k).c) := by
            rw [World.cell?_of_block (a := ⟨w.heap.size, 4 + k, none⟩) (w := w5) (HK7.out.block w.heap.size HBX5.out.lt (by omega) (fun e => by have := (HVG.out _ e).1; omega)), HBX5.out.cell]
            exact demoCells_ith p k hlt
          have hdk := HD.out.ith k hlt
          have hlen := dLs_len k hlt
          have hbnd := dLen_bnd k hlt
          have hlt0 := hdk.lt (by omega)
          have HC := Lib.hid (list_any w.heap.size (w.heap.size + 1) v7 (mTo k) (dLs k) (dPl p k).b (dPl p k).o (dPl p k).c (dLen k) hlen.symm (by omega) (dLs_in k hlt) (by have := mTo_len k (by omega); omega) wr HW7.out hsz7 (by omega) (hdk.base HBB.out hlt0) hlt0)
          have HT := Lib.hid (show mTo (k + 1) = mTo k ++ listB (dLs k) from rfl)
          clear hg5 hdk hlen hbnd hlt0 hpt
          go_wp2_with (go_at_call 104; refine HC.out.mono ?_; rintro e w8 ⟨rfl, v8, HW8, HK8⟩)
          go_roundg (7 - (k + 1))
          case measure => omega
          case rel => exact ⟨k + 1, v8, by go_num, by omega, Lib.hid (by rw [HT.out]; exact HW8.out), Lib.hid (HK7.out.trans HK8.out), rfl⟩
        · have : k = 7 := by omega
          subst this
          have cb : wr.cell? ⟨w.heap.size + 1, 0, none⟩ = some v7 := by rw [HW7.out.blk.cell]; rfl
          obtain ⟨A, c, hv7⟩ := ownsRow_shape HW7.out.row
          subst hv7
          go_wp2
          go_ret
          exact ⟨A, c, rfl, HBB, Lib.hid HW7.out.row⟩
end Go.Proofs.YtllpoaoboieijaaGreat
