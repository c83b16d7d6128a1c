/-
  The stream of numbers: Word.
  The stream: bytes; what is written beside two blocks.
  The stream: Model: what is written.
-/
import Derived.Deep.AppendLies
import Derived.Test.YtdbhlkejfecffaaGreatDoorSa7
/-
  The stream of numbers: Word.
-/
namespace Go.Proofs.YtdbhlkejfecffaaGreatDoor
open Go.RowKit

/-- A choice among numbers that were just laid down. -/
theorem Pick_lit (xb : Nat) (V : Value) (L : List Int) (K : Nat) (hK : K ≤ 1000000) (l : List Int) (cs : Array Value) (hcs : cs = (ints l).toArray) (n : Nat) (hn : n = l.length) (h0 : 0 < l.length) (hl : l.length ≤ 100) (w : World) (h : St w xb V L K) :
    Calls Tryz.prog 12 #[.pointer (some ⟨xb, 0, none⟩), .slice (some ⟨w.heap.size, 0, none⟩) n n] (w.alloc (.cells cs 3)) fun e w' => ∃ r : Int, e = .returned (.int .i64 r) ∧ Hid (r ∈ l) ∧ Hid (Asks xb V L (K + 1) w w') := by
  subst hcs hn
  have hb : Below w.heap.size w (w.alloc (.cells (ints l).toArray 3)) := (Below.refl _ _).alloc (Nat.le_refl _) _
  have hk : Blk (w.alloc (.cells (ints l).toArray 3)) w.heap.size (ints l ++ []) 3 := by rw [List.append_nil]; exact heap_alloc_new w _
  refine (Pick_st xb V L K hK w.heap.size l.length l.length l rfl h0 hl _ (h.below hb) (hk.rdat (Nat.le_refl _) (by unfold maxLen; omega)) (by have := h.lt; omega)).mono ?_
  rintro e w1 ⟨r, rfl, hr, ha⟩
  exact ⟨r, rfl, hr, Lib.hid ⟨(KeepX.of_below hb).trans ha.out.1, ha.out.2⟩⟩

set_option maxRecDepth 100000 in
set_option maxHeartbeats 1600000 in
theorem Word_st (xb : Nat) (V : Value) (L : List Int) (K : Nat) (hK : K ≤ 900000) (w : World) (h : St w xb V L K) :
    Calls Tryz.prog 6 #[.pointer (some ⟨xb, 0, none⟩)] w fun e w' => ∃ r : Int, e = .returned (.int .i64 r) ∧ Hid (-2147483648 ≤ r ∧ r ≤ 2147483647) ∧ Hid (Asks xb V L (K + 3) w w') := by
  have HN := Lib.hid (Next_st xb V L K (by omega) 6 (by omega) w h)
  clear h
  go_enter Tryz.func6, Tryz.ntmps6
  go_upto_region 2 with (go_at_call 7; refine HN.out.mono ?_; rintro e w1 ⟨r, rfl, HR, HA⟩)
  have HB := Lib.hid (Next_st xb V L (K + 1) (by omega) 3 (by omega) w1 HA.out.2)
  have HC := Lib.hid (Next_st xb V L (K + 1) (by omega) 1073741824 (by omega) w1 HA.out.2)
  have HE := Lib.hid (Range_st xb V L (K + 1) (by omega) (-9) 9 (by omega) w1 HA.out.2)
  have HD := Lib.hid (fun (w2 : World) (h2 : St w2 xb V L (K + 2)) => Next_st xb V L (K + 2) (by omega) 4 (by omega) w2 h2)
  by_cases r0 : r = 0
  · have b0 : (r == 0) = true := by simp [r0]
    go_wp2_with (go_at_call 7; refine HB.out.mono ?_; rintro e w2 ⟨r2, rfl, HR2, HA2⟩; have e1 : IntKind.i64.wrap (-2147483648 + r2) = -2147483648 + r2 := IntWalk.i64_in _ (by have := HR2.out; omega))
    go_ret
    exact ⟨_, rfl, Lib.hid (by have := HR2.out; omega), Lib.hid ⟨(HA.out.trans HA2.out).1, (HA2.out.2).mono (by omega)⟩⟩
  · have b0 : (r == 0) = false := by simp [r0]
    by_cases r1 : r = 1
    · have b1 : (r == 1) = true := by simp [r1]
      go_wp2_with (go_at_call 7; refine HB.out.mono ?_; rintro e w2 ⟨r2, rfl, HR2, HA2⟩; have e1 : IntKind.i64.wrap (2147483647 - r2) = 2147483647 - r2 := IntWalk.i64_in _ (by have := HR2.out; omega))
      go_ret
      exact ⟨_, rfl, Lib.hid (by have := HR2.out; omega), Lib.hid ⟨(HA.out.trans HA2.out).1, (HA2.out.2).mono (by omega)⟩⟩
    · have b1 : (r == 1) = false := by simp [r1]
      by_cases r2 : r = 2
      · have b2 : (r == 2) = true := by simp [r2]
        go_wp2_with (first | (go_at_call 7; have _g := HA2; clear _g; refine (HD.out w2 HA2.out.2).mono ?_; rintro e w3 ⟨r3, rfl, HR3, HA3⟩; have e2 : IntKind.i64.wrap (r2 * 4 + r3) = r2 * 4 + r3 := IntWalk.i64_in _ (by have := HR2.out; have := HR3.out; omega); have e3 : IntKind.i64.wrap (r2 * 4 + r3 + -2147483648) = r2 * 4 + r3 + -2147483648 := IntWalk.i64_in _ (by have := HR2.out; have := HR3.out; omega)) | (go_at_call 7; refine HC.out.mono ?_; rintro e w2 ⟨r2, rfl, HR2, HA2⟩; have e1 : IntKind.i64.wrap (r2 * 4) = r2 * 4 := IntWalk.i64_in _ (by have := HR2.out; omega)))
        go_ret
        exact ⟨_, rfl, Lib.hid (by have := HR2.out; have := HR3.out; omega), Lib.hid ((HA.out.trans HA2.out).trans HA3.out)⟩
      · have b2 : (r == 2) = false := by simp [r2]
        go_wp2_with (go_at_call 5; refine HE.out.mono ?_; rintro e w2 ⟨r2, rfl, HR2, HA2⟩)
        go_ret
        exact ⟨_, rfl, Lib.hid (by have := HR2.out; omega), Lib.hid ⟨(HA.out.trans HA2.out).1, (HA2.out.2).mono (by omega)⟩⟩
end Go.Proofs.YtdbhlkejfecffaaGreatDoor
/-
  The stream: bytes; what is written beside two blocks.
-/
namespace Go.Proofs.YtdbhlkejfecffaaGreatDoor
open Go.RowKit

/-- A choice among numbers that were just laid down. -/
theorem Pick_litD (xb : Nat) (V : Value) (L : List Int) (K : Nat) (hK : K ≤ 1000000) (l : List Int) (cs : Array Value) (hcs : cs = (ints l).toArray) (n : Nat) (hn : n = l.length) (h0 : 0 < l.length) (hl : l.length ≤ 100) (w : World) (h : St w xb V L K) (k : Nat) :
    Calls Tryz.prog 12 #[.pointer (some ⟨xb, 0, none⟩), .slice (some ⟨w.heap.size, 0, none⟩) n n] ((w.alloc (.cells cs 3)).drewN k) fun e w' => ∃ r : Int, e = .returned (.int .i64 r) ∧ Hid (r ∈ l) ∧ Hid (Asks xb V L (K + 1) w w') := by
  subst hcs hn
  have hb : Below w.heap.size w ((w.alloc (.cells (ints l).toArray 3)).drewN k) := below_drewN ((Below.refl _ _).alloc (Nat.le_refl _) _) k
  have hk : Blk ((w.alloc (.cells (ints l).toArray 3)).drewN k) w.heap.size (ints l ++ []) 3 := by rw [List.append_nil]; exact heap_alloc_new w _
  refine (Pick_st xb V L K hK w.heap.size l.length l.length l rfl h0 hl _ (h.below hb) (hk.rdat (Nat.le_refl _) (by unfold maxLen; omega)) (by have := h.lt; omega)).mono ?_
  rintro e w1 ⟨r, rfl, hr, ha⟩
  exact ⟨r, rfl, hr, Lib.hid ⟨(KeepX.of_below hb).trans ha.out.1, ha.out.2⟩⟩
theorem Pick_lit0 (xb : Nat) (V : Value) (L : List Int) (K : Nat) (hK : K ≤ 1000000) (l : List Int) (cs : Array Value) (hcs : cs = (ints l).toArray) (n : Nat) (hn : n = l.length) (h0 : 0 < l.length) (hl : l.length ≤ 100) (w : World) (h : St w xb V L K) :
    Calls Tryz.prog 12 #[.pointer (some ⟨xb, 0, none⟩), .slice (some ⟨w.heap.size, 0, none⟩) n n] (w.alloc (.cells cs 3)) fun e w' => ∃ r : Int, e = .returned (.int .i64 r) ∧ Hid (r ∈ l) ∧ Hid (Asks xb V L (K + 1) w w') := Pick_litD xb V L K hK l cs hcs n hn h0 hl w h 0
theorem KeepX.grown {xb : Nat} {w w' w2 : World} (h : KeepX xb w w') {row : Option Nat} (hg : w'.grownBy w2 row) (hr : ∀ k, row = some k → w.heap.size ≤ k) : KeepX xb w w2 :=
  h.app (Below.ofGrown hg h.size hr)
/-- One number is appended to a row of numbers. -/
theorem wpList_app1 {w : World} {ops : Array Oper} {rest : List Oper} {o : Oper} {a : Act} {Q : Exit → Act → World → Prop} (hgd : o.guard = none) (s x : Operand)
    (ho : o.op = .call { callee := .builtin .append, args := #[s, x], argTypes := #[22, 22] })
    (base : Nat) (v : Value) (n : Nat) (l : List Int) (hs : a.eval s = v) (hown : w.ownsRow base 3 1 v n (ints l))
    (u : Int) (b : Nat) (hx : a.eval x = .slice (some ⟨b, 0, none⟩) 1 1) (hc : w.cell? ⟨b, 0, none⟩ = some (.int .i64 u)) (hlen : n ≤ 1000) (hbase : base ≤ w.heap.size)
    (h : ∀ g cap w', w'.ownsRow base 3 1 (.slice (some ⟨g, 0, none⟩) (n + 1) cap) (n + 1) (ints (l ++ [u])) → Below base w w' → wpList Tryz.prog ops Q rest (a.put o.dst (.slice (some ⟨g, 0, none⟩) (n + 1) cap)) w') : wpList Tryz.prog ops Q (o :: rest) a w := by
  obtain ⟨i0, hi, hz0, hz1, hz2⟩ := info_parts info3
  exact wpList_append_lies w hgd s x 22 ho base 3 i0 (.int .i64 0) 1 8 Tryz.underlying22 hi hz0 hz1 hz2 rfl (by decide) v n _ hs hown ⟨b, 0, none⟩ 1 1 [.int .i64 u] hx rfl (fun j y hj => by
    have : j = 0 := by
      have := (List.getElem?_eq_some_iff.1 hj).1
      simp at this; exact this
    subst this
    have e : y = .int .i64 u := by simpa using hj.symm
    rw [e]; exact hc) (one_int _ _) Nat.one_pos (by unfold maxLen; omega) (by omega) hbase _ rfl (fun g cap w' h2 h3 _ _ => h g cap w' (by simpa [ints] using h2) (Below.ofGrown h3 hbase (ownsRow_base hown)))
theorem step_app1 {w : World} {ops : Array Oper} {o : Oper} {a : Act} {K : Act → World → Prop} {Q : Exit → Act → World → Prop} {E : Prop} (hgd : o.guard = none) (s x : Operand)
    (ho : o.op = .call { callee := .builtin .append, args := #[s, x], argTypes := #[22, 22] })
    (base : Nat) (v : Value) (n : Nat) (l : List Int) (hs : a.eval s = v) (hown : w.ownsRow base 3 1 v n (ints l))
    (u : Int) (b : Nat) (hx : a.eval x = .slice (some ⟨b, 0, none⟩) 1 1) (hc : w.cell? ⟨b, 0, none⟩ = some (.int .i64 u)) (hlen : n ≤ 1000) (hbase : base ≤ w.heap.size)
    (h : ∀ g cap w', w'.ownsRow base 3 1 (.slice (some ⟨g, 0, none⟩) (n + 1) cap) (n + 1) (ints (l ++ [u])) → Below base w w' → K (a.put o.dst (.slice (some ⟨g, 0, none⟩) (n + 1) cap)) w') :
    if Region.wanted o (yielded ops a.tmps) = true then Oper.wp Tryz.prog o a w K Q else E := by
  obtain ⟨i0, hi, hz0, hz1, hz2⟩ := info_parts info3
  exact step_append_lies w hgd s x 22 ho base 3 i0 (.int .i64 0) 1 8 Tryz.underlying22 hi hz0 hz1 hz2 rfl (by decide) v n _ hs hown ⟨b, 0, none⟩ 1 1 [.int .i64 u] hx rfl (fun j y hj => by
    have : j = 0 := by
      have := (List.getElem?_eq_some_iff.1 hj).1
      simp at this; exact this
    subst this
    have e : y = .int .i64 u := by simpa using hj.symm
    rw [e]; exact hc) (one_int _ _) Nat.one_pos (by unfold maxLen; omega) (by omega) hbase _ rfl (fun g cap w' h2 h3 _ _ => h g cap w' (by simpa [ints] using h2) (Below.ofGrown h3 hbase (ownsRow_base hown)))
/-- Some numbers of a stream, each as small as a byte. -/
def Byt (l : List Int) (n : Nat) : Prop := l.length = n ∧ ∀ x, x ∈ l → -128 ≤ x ∧ x ≤ 127
theorem Byt.more {l : List Int} {n : Nat} (h : Byt l n) {x : Int} (hx : -128 ≤ x ∧ x ≤ 127) : Byt (l ++ [x]) (n + 1) :=
  ⟨by rw [List.length_append, h.1]; rfl, fun y hy => by
    rcases List.mem_append.1 hy with h1 | h1
    · exact h.2 y h1
    · rw [List.mem_singleton.1 h1]; exact hx⟩
set_option maxRecDepth 100000 in
set_option maxHeartbeats 1600000 in
theorem bytes_st (xb : Nat) (V : Value) (L : List Int) (K : Nat) (n : Nat) (hn : n ≤ 200) (hK : K ≤ 100000) (w : World) (h : St w xb V L K) :
    Calls Tryz.prog 14 #[.pointer (some ⟨xb, 0, none⟩), .int .i64 n] w fun e w' => ∃ v l, e = .returned v ∧ Hid (Byt l n) ∧ Hid (w'.ownsRow w.heap.size 3 1 v n (ints l)) ∧ Hid (Asks xb V L (K + 2 * n) w w') := by
  have H := Lib.hid h
  have HF := Lib.hid h.far
  have HN := Lib.hid hn
  have HFL := Lib.hid (fun (k : Nat) (wx : World) (hk : k ≤ 200000) (hx : St wx xb V L k) => Flip_st xb V L k (by omega) 6 (by omega) wx hx)
  have HRG := Lib.hid (fun (k : Nat) (wx : World) (hk : k ≤ 200000) (hx : St wx xb V L k) => Range_st xb V L k (by omega) (-9) 9 (by omega) wx hx)
  have HPK := Lib.hid (fun (k : Nat) (wx : World) (hk : k ≤ 200000) (hx : St wx xb V L k) => Pick_lit0 xb V L k (by omega) [-128, 127] _ rfl 2 rfl (by decide) (by decide) wx hx)
  simp only [ints, List.map_cons, List.map_nil] at HPK
  clear h hn
  go_enter Tryz.func14, Tryz.ntmps14
  go_wp2
  go_loopg [5, 7] n (fun gk s5 s7 wx => ∃ (i : Nat) (l : List Int), s7 = .int .i64 i ∧ i ≤ n ∧ gk = n - i ∧ Hid (Byt l i) ∧ Hid (wx.ownsRow w.heap.size 3 1 s5 i (ints l)) ∧ Hid (Asks xb V L (K + 2 * i) w wx))
  case atStart => exact ⟨0, [], rfl, Nat.zero_le _, rfl, Lib.hid ⟨rfl, fun x hx => absurd hx (by simp)⟩, Lib.hid (World.ownsRow_nil _ _ _ _), Lib.hid (Asks.refl H.out)⟩
  case round =>
    obtain ⟨i, l, rfl, hil, rfl, HB, HO, HA⟩ := hrel
    obtain ⟨A5, c5, hv5⟩ := ownsRow_shape HO.out
    subst hv5
    by_cases hlt : i < n
    · have hk : K + 2 * i ≤ 200000 ∧ K + 2 * i + 1 ≤ 200000 ∧ i ≤ 1000 := by have := HN.out; omega
      have HK := Lib.hid hk
      clear hk
      go_wp2_with (first
        | (go_at_call 13; refine (HFL.out (K + 2 * i) wr HK.out.1 HA.out.2).mono ?_; rintro e w1 ⟨r, rfl, HA1⟩; cases r)
        | (go_at_call 12; refine (HPK.out (K + 2 * i + 1) w1 HK.out.2.1 HA1.out.2).mono ?_; rintro e w2 ⟨r2, rfl, HR2', HA2⟩; have HR2 := Lib.hid (show -128 ≤ r2 ∧ r2 ≤ 127 by have := HR2'.out; simp only [List.mem_cons, List.mem_nil_iff, or_false] at this; omega))
        | (go_at_call 5; refine (HRG.out (K + 2 * i + 1) w1 HK.out.2.1 HA1.out.2).mono ?_; rintro e w2 ⟨r2, rfl, HR2', HA2⟩; have HR2 := Lib.hid (show -128 ≤ r2 ∧ r2 ≤ 127 by have := HR2'.out; omega))
        | (at_builtin; refine wpList_app1 rfl _ _ rfl w.heap.size _ i l rfl (ownsRow_below (HA2.out.1.own (HA1.out.1.own HO.out HF.out.1) HF.out.1) ((Below.refl _ _).alloc (Nat.le_refl _) _)) r2 w2.heap.size rfl ((news_blk w2 [_] _).cell 0) HK.out.2.2 (Nat.le_trans ((HA.out.trans HA1.out).trans HA2.out).1.size (alloc_le _ _)) ?_; intro g cap w3 hown hb; have HO3 := Lib.hid hown; have HB3 := Lib.hid hb; clear hown hb))
      all_goals go_roundg (n - (i + 1))
      case measure => omega
      case measure => omega
      all_goals
        have hz := (HA.out.trans HA1.out).trans HA2.out
        have hn200 := HN.out
        exact ⟨i + 1, l ++ [r2], congrArg (Value.int .i64) (show wrap64 ((i : Int) + 1) = ((i + 1 : Nat) : Int) by rw [wrap64_in (by omega)]; rfl), by omega, rfl, Lib.hid (HB.out.more HR2.out), HO3, Lib.hid ((hz.base HF.out (((Below.refl _ _).alloc hz.1.size _).trans HB3.out)).up (by omega))⟩
    · have : i = n := by omega
      subst this
      go_wp2
      go_ret
      exact ⟨_, _, rfl, HB, HO, HA⟩
end Go.Proofs.YtdbhlkejfecffaaGreatDoor
/-
  The stream: Model: what is written.
-/
namespace Go.Proofs.YtdbhlkejfecffaaGreatDoor
open Go.RowKit

theorem own_set {w : World} {base b o : Nat} {e : TypeId} {size : Nat} {v : Value} {n : Nat} {xs : List Value} (h : w.ownsRow base e size v n xs) (hb : b < base) (x : Value) : (w.setCell ⟨b, o, none⟩ x).ownsRow base e size v n xs :=
  ownsRow_block h fun k _ hv => Below.heap_setCell _ _ _ _ (show k ≠ b by have := ownsRow_base h k hv; omega)
def zero27 : List Value := [.int .i64 0, .int .i64 0, .int .i64 0, .int .i64 0, .slice none 0 0, .slice none 0 0, .slice none 0 0, .slice none 0 0, .slice none 0 0, .slice none 0 0, .slice none 0 0]
/-- The lists of a model lie above a bound. -/
def MNew (base : Nat) (m : MD) (p : MP) : Prop := ∀ i, i < 7 → ∀ g, (Value.slice (p.pl i).A (m.lst i).length (p.pl i).c).ownBlock = some g → base ≤ g
theorem MAt.blocks {w w' : World} {m : MD} {p : MP} (h : MAt w m p) (hb : ∀ i, i < 7 → ∀ g, (Value.slice (p.pl i).A (m.lst i).length (p.pl i).c).ownBlock = some g → w'.heap[g]? = w.heap[g]?) : MAt w' m p :=
  ⟨h.cuts.of_cells (hb 0 (by omega)), h.embed.of_cells (hb 1 (by omega)), h.place.of_cells (hb 2 (by omega)), h.mix.of_cells (hb 3 (by omega)), h.out.of_cells (hb 4 (by omega)), h.soft.of_cells (hb 5 (by omega)), h.odds.of_cells (hb 6 (by omega))⟩
def setAll27 (w : World) (r : Nat) (m : MD) (p : MP) : World :=
  ((((((((((w.setCell ⟨r, 0, none⟩ (.int .i64 m.kind)).setCell ⟨r, 1, none⟩ (.int .i64 m.vocab)).setCell ⟨r, 2, none⟩ (.int .i64 m.width)).setCell ⟨r, 3, none⟩ (.int .i64 m.top)).setCell ⟨r, 4, none⟩ (.slice p.cuts.A m.cuts.length p.cuts.c)).setCell ⟨r, 5, none⟩ (.slice p.embed.A m.embed.length p.embed.c)).setCell ⟨r, 6, none⟩ (.slice p.place.A m.place.length p.place.c)).setCell ⟨r, 7, none⟩ (.slice p.mix.A m.mix.length p.mix.c)).setCell ⟨r, 8, none⟩ (.slice p.out.A m.out.length p.out.c)).setCell ⟨r, 9, none⟩ (.slice p.soft.A m.soft.length p.soft.c)).setCell ⟨r, 10, none⟩ (.slice p.odds.A m.odds.length p.odds.c)
/-- A model is laid in a cell of eleven. -/
theorem set27 {w : World} {r : Nat} {l : List Value} (h : Blk w r l 27) (hl : l.length = 11) (m : MD) (p : MP) : Blk (setAll27 w r m p) r (mCells m p) 27 ∧ (∀ base e size v n xs, w.ownsRow base e size v n xs → r < base → (setAll27 w r m p).ownsRow base e size v n xs) ∧ Below r w (setAll27 w r m p) := by
  obtain ⟨a0, a1, a2, a3, a4, a5, a6, a7, a8, a9, a10, rfl⟩ : ∃ a0 a1 a2 a3 a4 a5 a6 a7 a8 a9 a10, l = [a0, a1, a2, a3, a4, a5, a6, a7, a8, a9, a10] := by
    match l, hl with
    | [a0, a1, a2, a3, a4, a5, a6, a7, a8, a9, a10], _ => exact ⟨a0, a1, a2, a3, a4, a5, a6, a7, a8, a9, a10, rfl⟩
  unfold setAll27
  refine ⟨((((((((((h.set 0 _).set 1 _).set 2 _).set 3 _).set 4 _).set 5 _).set 6 _).set 7 _).set 8 _).set 9 _).set 10 _, fun base e size v n xs ho hr => ?_, ?_⟩
  · exact own_set (own_set (own_set (own_set (own_set (own_set (own_set (own_set (own_set (own_set (own_set ho hr _) hr _) hr _) hr _) hr _) hr _) hr _) hr _) hr _) hr _) hr _
  · have e := Nat.le_refl r
    exact (((((((((((Below.refl r w).setCell e _).setCell e _).setCell e _).setCell e _).setCell e _).setCell e _).setCell e _).setCell e _).setCell e _).setCell e _).setCell e _
theorem set27_other (w : World) (r : Nat) (m : MD) (p : MP) {b : Nat} (hb : b ≠ r) : (setAll27 w r m p).heap[b]? = w.heap[b]? := by
  unfold setAll27
  rw [Below.heap_setCell _ _ _ _ hb, Below.heap_setCell _ _ _ _ hb, Below.heap_setCell _ _ _ _ hb, Below.heap_setCell _ _ _ _ hb, Below.heap_setCell _ _ _ _ hb, Below.heap_setCell _ _ _ _ hb, Below.heap_setCell _ _ _ _ hb, Below.heap_setCell _ _ _ _ hb, Below.heap_setCell _ _ _ _ hb, Below.heap_setCell _ _ _ _ hb, Below.heap_setCell _ _ _ _ hb]
theorem set27_blk {w : World} {r b : Nat} {l : List Value} {t : TypeId} (h : Blk w b l t) (m : MD) (p : MP) (hb : b ≠ r) : Blk (setAll27 w r m p) b l t := by
  unfold Blk at h ⊢; rw [set27_other w r m p hb]; exact h
theorem set27_at {w : World} {r : Nat} {m m' : MD} {p p' : MP} (h : MAt w m p) {base : Nat} (hn : MNew base m p) (hr : r < base) : MAt (setAll27 w r m' p') m p :=
  h.blocks fun i hi g hg => set27_other w r m' p' (by have := hn i hi g hg; omega)
/-- Nothing above a block is changed. -/
structure Over (b3 : Nat) (w w' : World) : Prop where
  size : w.heap.size ≤ w'.heap.size
  block : ∀ b, b3 < b → b < w.heap.size → w'.heap[b]? = w.heap[b]?
theorem Over.refl (b3 : Nat) (w : World) : Over b3 w w := ⟨Nat.le_refl _, fun _ _ _ => rfl⟩
theorem Over.trans {b3 : Nat} {a b c : World} (h : Over b3 a b) (k : Over b3 b c) : Over b3 a c :=
  ⟨Nat.le_trans h.size k.size, fun x h1 h2 => (k.block x h1 (Nat.lt_of_lt_of_le h2 h.size)).trans (h.block x h1 h2)⟩
theorem Over.keep {b3 xb : Nat} {w w' : World} (h : KeepX xb w w') (hx : xb ≤ b3) : Over b3 w w' := ⟨h.size, fun b h1 h2 => h.block b h2 (by omega)⟩
theorem Over.set (b3 o : Nat) (w : World) (v : Value) : Over b3 w (w.setCell ⟨b3, o, none⟩ v) :=
  ⟨by simp [World.setCell], fun b h1 _ => Below.heap_setCell _ _ _ _ (show b ≠ b3 by omega)⟩
theorem Over.app {b3 : Nat} {a b c : World} (h : Over b3 a b) (k : Below a.heap.size b c) : Over b3 a c :=
  ⟨Nat.le_trans h.size k.size, fun x h1 h2 => (k.block x h2).trans (h.block x h1 h2)⟩
theorem Over.of_below {b3 : Nat} {a b : World} (k : Below a.heap.size a b) : Over b3 a b := (Over.refl b3 a).app k
/-- A list that is made. -/
def Fin3 (b3 : Nat) (w : World) (v : Value) (l : List Int) : Prop := Rd w v l ∧ ∀ b, v.ownBlock = some b → b3 < b
theorem Fin3.over {b3 : Nat} {w w' : World} {v : Value} {l : List Int} (h : Fin3 b3 w v l) (k : Over b3 w w') : Fin3 b3 w' v l :=
  ⟨h.1.block fun b hlt hv _ => k.block b (h.2 b hv) hlt, h.2⟩
theorem Fin3.own {b3 base : Nat} {w : World} {v : Value} {n : Nat} {l : List Int} (h : w.ownsRow base 3 1 v n (ints l)) (hb : b3 < base) : Fin3 b3 w v l :=
  ⟨rd_owned h, fun b hv => by have := ownsRow_base h b hv; omega⟩
/-- What a model in the making leaves: the stream was asked, its cells stand. -/
structure MS (xb : Nat) (V : Value) (L : List Int) (K : Nat) (w : World) (b3 : Nat) (wx : World) (l : List Value) : Prop where
  asks : Asks xb V L K w wx
  blk : Blk wx b3 l 27
  far : Far xb V L w.heap.size
  lt : w.heap.size < b3
  res : Blk wx w.heap.size zero27 27
theorem MS.ask {xb : Nat} {V : Value} {L : List Int} {K K' : Nat} {w : World} {b3 : Nat} {wx wy : World} {l : List Value} (h : MS xb V L K w b3 wx l) (k : Asks xb V L K' wx wy) : MS xb V L K' w b3 wy l :=
  ⟨h.asks.trans k, k.1.blk h.blk (by have := h.far.1; have := h.lt; omega), h.far, h.lt, k.1.blk h.res (by have := h.far.1; omega)⟩
theorem MS.set {xb : Nat} {V : Value} {L : List Int} {K : Nat} {w : World} {b3 : Nat} {wx : World} {l : List Value} (h : MS xb V L K w b3 wx l) (o : Nat) (v : Value) : MS xb V L K w b3 (wx.setCell ⟨b3, o, none⟩ v) (l.set o v) :=
  ⟨h.asks.base h.far ((Below.refl _ _).setCell (Nat.le_of_lt h.lt) _), h.blk.set o v, h.far, h.lt, h.res.far (show w.heap.size ≠ b3 from Nat.ne_of_lt h.lt) v⟩
theorem MS.base {xb : Nat} {V : Value} {L : List Int} {K B : Nat} {w : World} {b3 : Nat} {wx wy : World} {l : List Value} (h : MS xb V L K w b3 wx l) (hb : Below B wx wy) (hB : b3 < B) : MS xb V L K w b3 wy l :=
  ⟨h.asks.base h.far (hb.mono (by have := h.lt; omega)), by have := h.blk; unfold Blk at this ⊢; rw [hb.block b3 hB]; exact this, h.far, h.lt, by have := h.res; unfold Blk at this ⊢; rw [hb.block w.heap.size (Nat.lt_trans h.lt hB)]; exact this⟩
theorem MS.up {xb : Nat} {V : Value} {L : List Int} {K K' : Nat} {w : World} {b3 : Nat} {wx : World} {l : List Value} (h : MS xb V L K w b3 wx l) (hk : K ≤ K') : MS xb V L K' w b3 wx l := ⟨h.asks.up hk, h.blk, h.far, h.lt, h.res⟩
theorem MS.over {xb : Nat} {V : Value} {L : List Int} {K K' : Nat} {w : World} {b3 : Nat} {wx wy : World} {l : List Value} (h : MS xb V L K w b3 wx l) (k : Asks xb V L K' wx wy) : Over b3 wx wy := Over.keep k.1 (by have := h.far.1; have := h.lt; omega)
theorem MS.blt {xb : Nat} {V : Value} {L : List Int} {K : Nat} {w : World} {b3 : Nat} {wx : World} {l : List Value} (h : MS xb V L K w b3 wx l) : b3 < wx.heap.size := h.blk.lt
theorem Asks.drew {xb : Nat} {V : Value} {L : List Int} {K : Nat} {w w' : World} (h : Asks xb V L K w w') : Asks xb V L K w w'.drew := ⟨⟨h.1.os, h.1.tape, h.1.output, h.1.size, h.1.block⟩, h.2⟩
theorem Asks.undrew {xb : Nat} {V : Value} {L : List Int} {K : Nat} {w w' : World} (h : Asks xb V L K w.drew w') : Asks xb V L K w w' := ⟨⟨h.1.os, h.1.tape, h.1.output, h.1.size, h.1.block⟩, h.2⟩
theorem MS.drew {xb : Nat} {V : Value} {L : List Int} {K : Nat} {w : World} {b3 : Nat} {wx : World} {l : List Value} (h : MS xb V L K w b3 wx l) : MS xb V L K w b3 wx.drew l := ⟨h.asks.drew, h.blk, h.far, h.lt, h.res⟩
theorem place_len {rp r3 : Int} (h : rp ∈ [(1 : Int), 2, 4, 16]) (h3 : 1 ≤ r3 ∧ r3 ≤ 5) : ∃ N2 : Nat, IntKind.i64.wrap (rp * r3) = (N2 : Int) ∧ Hid (rp * r3 = N2 ∧ N2 ≤ 80 ∧ 1 ≤ rp ∧ rp ≤ 16) := by
  simp only [List.mem_cons, List.mem_nil_iff, or_false] at h
  have h1 : 0 ≤ rp * r3 ∧ rp * r3 ≤ 80 := by
    rcases (show r3 = 1 ∨ r3 = 2 ∨ r3 = 3 ∨ r3 = 4 ∨ r3 = 5 by omega) with e | e | e | e | e <;> subst e <;> omega
  refine ⟨(rp * r3).toNat, ?_, Lib.hid ⟨by omega, by omega, by omega, by omega⟩⟩
  rw [IntWalk.i64_in _ (by omega)]; omega
theorem own_one (w : World) (x : Int) : (w.alloc (.cells #[.int .i64 x] 3)).ownsRow w.heap.size 3 1 (.slice (some ⟨w.heap.size, 0, none⟩) 1 1) 1 (ints [x]) :=
  ⟨rfl, .inr ⟨w.heap.size, 1, #[.int .i64 x], rfl, Nat.le_refl _, heap_alloc_new w _, Nat.le_refl _, by unfold maxLen; decide, rfl, rfl⟩⟩
theorem made_ok {r1 r2 r3 top mn rp : Int} {N1 N2 N3 ns no : Nat} {l l5 l6 l7 l8 l9 l10 : List Int} (h1 : 1 ≤ r1 ∧ r1 ≤ 3) (h2 : 2 ≤ r2 ∧ r2 ≤ 16) (h3 : 1 ≤ r3 ∧ r3 ≤ 5) (ht : 1 ≤ top ∧ top ≤ r2)
    (hm : 1 ≤ mn ∧ mn ≤ 4 ∧ (r1 = 1 → mn = 3) ∧ (r1 = 2 → mn = 2)) (hc : l.length = 4 ∧ ∀ x, x ∈ l → 1 ≤ x ∧ x ≤ 15) (b5 : Byt l5 N1) (e1 : r2 * r3 = N1) (b6 : Byt l6 N2) (e2 : rp * r3 = N2 ∧ N2 ≤ 80 ∧ 1 ≤ rp ∧ rp ≤ 16) (b7 : Byt l7 N3) (e3 : mn * r3 * r3 = N3) (b8 : Byt l8 N1)
    (hs : l9.length = ns ∧ ∀ x, x ∈ l9 → 0 ≤ x ∧ x ≤ 1000) (hns : 1 ≤ ns ∧ ns ≤ 64) (ho : l10.length = no + 1 ∧ (∀ x, x ∈ l10 → 0 ≤ x ∧ x ≤ 1000) ∧ l10.getD 0 0 ≠ 0) (hno : no ≤ 63) :
    MD.Ok ⟨r1, r2, r3, top, l, l5, l6, l7, l8, l9, l10⟩ := by
  have q2 : ((l6.length : Nat) : Int) = rp * r3 := by rw [b6.1]; exact e2.1.symm
  have q3 : ((l7.length : Nat) : Int) = mn * (r3 * r3) := by rw [b7.1, ← Int.mul_assoc]; exact e3.symm
  have k0 : 0 < r3 * r3 := Int.mul_pos (by omega) (by omega)
  have d2 : rp * r3 / r3 = rp := Int.mul_ediv_cancel _ (by omega)
  have d3 : mn * (r3 * r3) / (r3 * r3) = mn := Int.mul_ediv_cancel _ (by omega)
  exact {
    kind := h1, vocab := h2, width := h3, top := ht, cuts := hc.1
    embed := by show ((l5.length : Nat) : Int) = r2 * r3; rw [b5.1]; exact e1.symm
    out := by show ((l8.length : Nat) : Int) = r2 * r3; rw [b8.1]; exact e1.symm
    place := by
      show ((l6.length : Nat) : Int) % r3 = 0 ∧ 1 ≤ ((l6.length : Nat) : Int) / r3 ∧ ((l6.length : Nat) : Int) / r3 ≤ 16
      rw [q2, d2]; exact ⟨Int.mul_emod_left _ _, e2.2.2⟩
    mix := by
      show ((l7.length : Nat) : Int) % (r3 * r3) = 0 ∧ (r1 = 1 → ((l7.length : Nat) : Int) / (r3 * r3) = 3) ∧ (r1 = 2 → ((l7.length : Nat) : Int) / (r3 * r3) = 2) ∧ 1 ≤ ((l7.length : Nat) : Int) / (r3 * r3) ∧ ((l7.length : Nat) : Int) / (r3 * r3) ≤ 4
      rw [q3, d3]; exact ⟨Int.mul_emod_left _ _, hm.2.2.1, hm.2.2.2, hm.1, hm.2.1⟩
    soft := by show 1 ≤ l9.length ∧ l9.length ≤ 64; rw [hs.1]; exact hns
    odds := by show 1 ≤ l10.length ∧ l10.length ≤ 64; rw [ho.1]; omega
    cuts' := hc.2, embed' := b5.2, place' := b6.2, mix' := b7.2, out' := b8.2, soft' := hs.2, odds' := ho.2.1, odds0 := ho.2.2 }
end Go.Proofs.YtdbhlkejfecffaaGreatDoor
