/-
  nat: Add.
  nat: Sub.
-/
import Derived.Test.YtgennilhbedmoaaGreatDoorSa4
/-
  nat: Add.
-/
namespace Go.Proofs.YtgennilhbedmoaaGreatDoor
open Go.RowKit KeepPlain

/-- One digit is appended to a row of digits. -/
theorem wpList_appU {w : World} {ops : Array Oper} {rest : List Oper} {o : Oper} {a : Act} {Q : Exit → Act → World → Prop} (hgd : o.guard = none) (s x : Operand)
    (ho : o.op = .call { callee := .builtin .append, args := #[s, x], argTypes := #[62, 62] })
    (base : Nat) (v : Value) (n : Nat) (l : List Nat) (hs : a.eval s = v) (hown : w.ownsRow base 81 1 v n (us l))
    (u : Nat) (b : Nat) (hx : a.eval x = .slice (some ⟨b, 0, none⟩) 1 1) (hc : w.cell? ⟨b, 0, none⟩ = some (.int .u32 (u : Int))) (hlen : n ≤ 100000) (hbase : base ≤ w.heap.size)
    (h : ∀ g cap w', w'.ownsRow base 81 1 (.slice (some ⟨g, 0, none⟩) (n + 1) cap) (n + 1) (us (l ++ [u])) → Below base w w' → wpList Tryz.prog ops Q rest (a.put o.dst (.slice (some ⟨g, 0, none⟩) (n + 1) cap)) w') : wpList Tryz.prog ops Q (o :: rest) a w := by
  obtain ⟨i0, hi, hz0, hz1, hz2⟩ := partsU
  exact wpList_append_lies w hgd s x 62 ho base 81 i0 (.int .u32 0) 1 4 Tryz.underlying62 hi hz0 hz1 hz2 rfl (by decide) v n _ hs hown ⟨b, 0, none⟩ 1 1 [.int .u32 (u : Int)] hx rfl (fun j y hj => by
    have : j = 0 := by
      have := (List.getElem?_eq_some_iff.1 hj).1
      simp at this; exact this
    subst this
    have e : y = .int .u32 (u : Int) := by simpa using hj.symm
    rw [e]; exact hc) (one_int _ _) Nat.one_pos (by unfold maxLen; omega) (by omega) hbase _ rfl (fun g cap w' h2 h3 _ _ => h g cap w' (by rw [us_snoc] at h2; exact h2) (Below.ofGrown h3 hbase (ownsRow_base hown)))
theorem run_makeU0 (c : Nat) (hc : c ≤ 100000) (W : World) : Sem.run Tryz.prog (Instr.makeSlice 62 (.int .i64 0) (.int .i64 c)) W = .ok (.slice (some ⟨W.heap.size, 0, none⟩) 0 c) (W.alloc (.cells (us (List.replicate c 0)).toArray 81)) := makeU 0 c (Nat.zero_le _) hc W
theorem own_makeU (c : Nat) (hc : c ≤ 100000) (W : World) : (W.alloc (.cells (us (List.replicate c 0)).toArray 81)).ownsRow W.heap.size 81 1 (.slice (some ⟨W.heap.size, 0, none⟩) 0 c) 0 (us []) :=
  World.ownsRow_made W _ c (Nat.le_refl _) (by unfold maxLen; omega) (by simp [us])
/-- The digits of a sum. -/
theorem nd_sum {l : List Nat} {a b n c : Nat} (hd : ∀ x ∈ l, x < 1000000000) (hn : l.length = n) (ha : (nd a).length ≤ n) (hb : (nd b).length ≤ n) (hm : (nd a).length = n) (h : sv (dg l) n + c * 1000000000 ^ n = sv (dg (nd a)) n + sv (dg (nd b)) n) (hc : c ≤ 1) :
    (c = 0 → l = nd (a + b)) ∧ (c = 1 → l ++ [1] = nd (a + b)) := by
  rw [nd_sv a n ha, nd_sv b n hb] at h
  have hl : sv (dg l) n = nv l := nv_sv l n (by omega)
  rw [hl] at h
  constructor
  · rintro rfl
    have hv : nv l = a + b := by omega
    rw [← hv, nd_nv]
    refine ⟨hd, fun e => ?_⟩
    have h0 : n ≠ 0 := by rintro rfl; rw [List.length_eq_zero_iff.1 hn] at e; simp at e
    have h1 : 1000000000 ^ (n - 1) ≤ a := by
      have := neat_pos (nd a) (nd_neat a) (fun e => h0 (by rw [← hm, e]; rfl))
      rw [nv_nd, hm] at this; exact this
    have h2 : nv l < 1000000000 ^ (n - 1) := by
      have e1 : dg l (n - 1) = 0 := by
        unfold dg
        rw [List.getLast?_eq_getElem?, hn] at e
        rw [List.getD_eq_getElem?_getD, e]; rfl
      rw [← hl, show n = n - 1 + 1 by omega, sv_top e1]
      have := sv_lt (d := dg l) (n - 1) (fun j _ => dg_lt l hd j)
      simpa using this
    omega
  · rintro rfl
    have hv : nv (l ++ [1]) = a + b := by rw [nv_snoc, hn]; omega
    rw [← hv, nd_nv]
    refine ⟨fun x hx => ?_, by simp⟩
    rcases List.mem_append.1 hx with h1 | h1
    · exact hd x h1
    · rw [List.mem_singleton.1 h1]; omega
set_option maxRecDepth 100000 in
set_option maxHeartbeats 3200000 in
theorem add_ge (a b : Nat) (u v : Value) (w : World) (hu : NV w u a) (hv : NV w v b) (hla : (nd a).length ≤ 1000) (hlb : (nd b).length ≤ (nd a).length) (B1 : Bool) (hB1 : B1 = false → (nd b).length < (nd a).length) :
    Calls Tryz.prog 32 (if B1 then #[u, v] else #[v, u]) w fun e w' => ∃ r, e = .returned r ∧ Hid (NV w' r (a + b)) ∧ Hid (Below w.heap.size w w') := by
  obtain ⟨A, c, rfl, -, -, hA⟩ := RdU.open hu
  obtain ⟨B, d, rfl, -, -, hB⟩ := RdU.open hv
  have HA := Lib.hid hA
  have HB := Lib.hid hB
  have HLA := Lib.hid hla
  have HLB := Lib.hid hlb
  have HSUM := Lib.hid (fun l c (hd : ∀ x ∈ l, x < 1000000000) (hn : l.length = (nd a).length) h hc => nd_sum (l := l) (a := a) (b := b) (n := (nd a).length) (c := c) hd hn (Nat.le_refl _) hlb rfl h hc)
  have HDB := Lib.hid (fun i (h : (nd b).length ≤ i) => dg_far (nd b) i h)
  have HM := Lib.hid (run_makeU0 ((nd a).length + 1) (by omega) w)
  have HO := Lib.hid (own_makeU ((nd a).length + 1) (by omega) w)
  have hb0 : Below w.heap.size w (w.alloc (.cells (us (List.replicate ((nd a).length + 1) 0)).toArray 81)) := (Below.refl _ _).alloc (Nat.le_refl _) _
  have HB0 := Lib.hid hb0
  clear hu hv hA hB hb0
  generalize (nd a).length = la at *
  generalize (nd b).length = lb at *
  generalize w.alloc (.cells (us (List.replicate (la + 1) 0)).toArray 81) = w0 at *
  have hm := HM.out
  have hcast : (((la + 1 : Nat)) : Int) = (la : Int) + 1 := by omega
  rw [hcast] at hm
  have hwr : wrap64 ((la : Int) + 1) = (la : Int) + 1 := wrap64_in (by omega)
  cases B1
  all_goals
    first | (have d0 : (lb : Int) < (la : Int) := by have := hB1 rfl; omega) | (have d0 : ¬ ((la : Int) < (lb : Int)) := by omega)
    clear hB1 hcast
    simp only [reduceIte, Bool.false_eq_true]
    go_enter Tryz.func32, Tryz.ntmps32
    go_wp2
    go_loopg [5, 6, 22] la (fun gk s5 s6 s22 wx => ∃ (i : Nat) (l : List Nat) (cy : Nat), s22 = .int .i64 i ∧ i ≤ la ∧ gk = la - i ∧ s6 = .int .u32 cy ∧ cy ≤ 1 ∧ Hid ((∀ x ∈ l, x < 1000000000) ∧ l.length = i) ∧ Hid (sv (dg l) i + cy * 1000000000 ^ i = sv (dg (nd a)) i + sv (dg (nd b)) i) ∧ Hid (wx.ownsRow w.heap.size 81 1 s5 i (us l)) ∧ Hid (Below w.heap.size w wx))
    case atStart => exact ⟨0, [], 0, rfl, Nat.zero_le _, rfl, rfl, Nat.zero_le _, Lib.hid ⟨fun x hx => absurd hx (by simp), rfl⟩, Lib.hid rfl, HO, HB0⟩
    case round =>
      obtain ⟨i, l, cy, rfl, hi, rfl, rfl, hcy, HL, HS, HOW, HBW⟩ := hrel
      obtain ⟨A5, c5, hv5⟩ := ownsRow_shape HOW.out
      subst hv5
      by_cases hlt : i < la
      · obtain ⟨b1, o1, rfl, hb1, c1⟩ := HA.out i hlt
        have c1' : wr.cell? ⟨b1, o1 + i, none⟩ = some (.int .u32 (dg (nd a) i : Nat)) := by rw [HBW.out.cell (p := ⟨b1, o1 + i, none⟩) hb1]; exact c1
        have hx := nd_dg_lt a i
        have hy := nd_dg_lt b i
        have HT := Lib.hid (fun (l' : List Nat) (hl : l'.length = i + 1) (h1 : ∀ j, j < i → dg l' j = dg l j) (h2 : dg l' i = (dg (nd a) i + dg (nd b) i + cy) % 1000000000) => show sv (dg l') (i + 1) + (dg (nd a) i + dg (nd b) i + cy) / 1000000000 * 1000000000 ^ (i + 1) = sv (dg (nd a)) (i + 1) + sv (dg (nd b)) (i + 1) from
          add_step (o := dg l') (a := dg (nd a)) (b := dg (nd b)) (i := i) (c := cy) (by rw [sv_congr i h1]; exact HS.out) h2)
        have HIL := Lib.hid (show i ≤ 1000 by omega)
        by_cases hib : i < lb
        · obtain ⟨b2, o2, rfl, hb2, c2⟩ := HB.out i hib
          have c2' : wr.cell? ⟨b2, o2 + i, none⟩ = some (.int .u32 (dg (nd b) i : Nat)) := by rw [HBW.out.cell (p := ⟨b2, o2 + i, none⟩) hb2]; exact c2
          generalize dg (nd a) i = x at hx c1' HT
          generalize dg (nd b) i = y at hy c2' HT
          clear c1 c2
          obtain ⟨t1, h1⟩ : ∃ t1, t1 = x + cy := ⟨_, rfl⟩
          obtain ⟨t, h2⟩ : ∃ t, t = t1 + y := ⟨_, rfl⟩
          have s1 : (x : Int) + (cy : Int) = (t1 : Int) := by omega
          have s2 : (t1 : Int) + (y : Int) = (t : Int) := by omega
          have w1 : IntKind.u32.wrap (t1 : Int) = t1 := u32_in (by omega)
          have w2 : IntKind.u32.wrap (t : Int) = t := u32_in (by omega)
          have w3 : Int.tdiv (t : Int) 1000000000 = ((t / 1000000000 : Nat) : Int) := tdiv_nat t 1000000000
          have w4 : Int.tmod (t : Int) 1000000000 = ((t % 1000000000 : Nat) : Int) := tmod_nat t 1000000000
          have w5 : (t : Int) / 1000000000 = ((t / 1000000000 : Nat) : Int) := rfl
          have w6 : (t : Int) % 1000000000 = ((t % 1000000000 : Nat) : Int) := rfl
          have hq : t / 1000000000 ≤ 1 := by omega
          have hr : t % 1000000000 < 1000000000 := by omega
          rw [show x + y + cy = t by omega] at HT
          have HR := Lib.hid hr
          have HQ := Lib.hid hq
          generalize t / 1000000000 = q at *
          generalize t % 1000000000 = r at *
          have w7 : (q : Int) % 4294967296 = q := by omega
          have w8 : (r : Int) % 4294967296 = r := by omega
          clear h1 h2 hx hy hr hq
          go_wp2_with (at_builtin; refine wpList_appU rfl _ _ rfl w.heap.size _ i l rfl (ownsRow_below HOW.out ((Below.refl _ _).alloc (Nat.le_refl _) _)) r wr.heap.size rfl ((news_blk wr [_] _).cell 0) (by have := HIL.out; omega) (Nat.le_trans HBW.out.size (alloc_le _ _)) ?_; intro g cap w3 hown hb; have HO3 := Lib.hid hown; have HB3 := Lib.hid hb; clear hown hb)
          go_roundg (la - (i + 1))
          case measure => omega
          case rel =>
            obtain ⟨hl1, hl2⟩ := HL.out
            refine ⟨i + 1, l ++ [r], q, congrArg (Value.int .i64) (by omega), by omega, rfl, rfl, HQ.out, Lib.hid ⟨fun z hz => ?_, by simp [hl2]⟩, Lib.hid (HT.out (l ++ [r]) (by simp [hl2]) (fun j hj => ?_) ?_), HO3, Lib.hid ((HBW.out.alloc HBW.out.size _).trans HB3.out)⟩
            · rcases List.mem_append.1 hz with h1 | h1
              · exact hl1 z h1
              · rw [List.mem_singleton.1 h1]; exact HR.out
            · unfold dg; simp [List.getElem?_append_left (show j < l.length by omega)]
            · unfold dg; simp [← hl2]
        · generalize dg (nd a) i = x at hx c1' HT
          rw [HDB.out i (by omega)] at HT
          clear c1 hy
          have hib' : ¬ ((i : Int) < (lb : Int)) := by omega
          obtain ⟨t, h1⟩ : ∃ t, t = x + cy := ⟨_, rfl⟩
          have s1 : (x : Int) + (cy : Int) = (t : Int) := by omega
          have w1 : IntKind.u32.wrap (t : Int) = t := u32_in (by omega)
          have w3 : Int.tdiv (t : Int) 1000000000 = ((t / 1000000000 : Nat) : Int) := tdiv_nat t 1000000000
          have w4 : Int.tmod (t : Int) 1000000000 = ((t % 1000000000 : Nat) : Int) := tmod_nat t 1000000000
          have w5 : (t : Int) / 1000000000 = ((t / 1000000000 : Nat) : Int) := rfl
          have w6 : (t : Int) % 1000000000 = ((t % 1000000000 : Nat) : Int) := rfl
          have hq : t / 1000000000 ≤ 1 := by omega
          have hr : t % 1000000000 < 1000000000 := by omega
          rw [show x + 0 + cy = t by omega] at HT
          have HR := Lib.hid hr
          have HQ := Lib.hid hq
          generalize t / 1000000000 = q at *
          generalize t % 1000000000 = r at *
          have w7 : (q : Int) % 4294967296 = q := by omega
          have w8 : (r : Int) % 4294967296 = r := by omega
          clear h1 hx hr hq
          go_wp2_with (at_builtin; refine wpList_appU rfl _ _ rfl w.heap.size _ i l rfl (ownsRow_below HOW.out ((Below.refl _ _).alloc (Nat.le_refl _) _)) r wr.heap.size rfl ((news_blk wr [_] _).cell 0) (by have := HIL.out; omega) (Nat.le_trans HBW.out.size (alloc_le _ _)) ?_; intro g cap w3 hown hb; have HO3 := Lib.hid hown; have HB3 := Lib.hid hb; clear hown hb)
          go_roundg (la - (i + 1))
          case measure => omega
          case rel =>
            obtain ⟨hl1, hl2⟩ := HL.out
            refine ⟨i + 1, l ++ [r], q, congrArg (Value.int .i64) (by omega), by omega, rfl, rfl, HQ.out, Lib.hid ⟨fun z hz => ?_, by simp [hl2]⟩, Lib.hid (HT.out (l ++ [r]) (by simp [hl2]) (fun j hj => ?_) ?_), HO3, Lib.hid ((HBW.out.alloc HBW.out.size _).trans HB3.out)⟩
            · rcases List.mem_append.1 hz with h1 | h1
              · exact hl1 z h1
              · rw [List.mem_singleton.1 h1]; exact HR.out
            · unfold dg; simp [List.getElem?_append_left (show j < l.length by omega)]
            · unfold dg; simp [← hl2]
      · have : i = la := by omega
        subst this
        obtain ⟨hl1, hl2⟩ := HL.out
        obtain ⟨hs0, hs1⟩ := HSUM.out l cy hl1 hl2 HS.out hcy
        clear hl1 hl2 HSUM
        have hc2 : cy = 0 ∨ cy = 1 := by omega
        rcases hc2 with rfl | rfl
        · have HN := Lib.hid (hs0 rfl)
          clear hs0 hs1
          go_wp2
          go_ret
          exact ⟨_, rfl, Lib.hid (by unfold NV; rw [← HN.out]; exact rdu_row HOW.out), HBW⟩
        · have HN := Lib.hid (hs1 rfl)
          clear hs0 hs1
          go_wp2_with (at_builtin; refine wpList_appU rfl _ _ rfl w.heap.size _ i l rfl (ownsRow_below HOW.out ((Below.refl _ _).alloc (Nat.le_refl _) _)) 1 wr.heap.size rfl ((news_blk wr [_] _).cell 0) (by omega) (Nat.le_trans HBW.out.size (alloc_le _ _)) ?_; intro g cap w3 hown hb; have HO3 := Lib.hid hown; have HB3 := Lib.hid hb; clear hown hb)
          go_ret
          exact ⟨_, rfl, Lib.hid (by unfold NV; rw [← HN.out]; exact rdu_row HO3.out), Lib.hid ((HBW.out.alloc HBW.out.size _).trans HB3.out)⟩
theorem add_any (a b : Nat) (u v : Value) (w : World) (hu : NV w u a) (hv : NV w v b) (hla : (nd a).length ≤ 1000) (hlb : (nd b).length ≤ 1000) :
    Calls Tryz.prog 32 #[u, v] w fun e w' => ∃ r, e = .returned r ∧ Hid (NV w' r (a + b)) ∧ Hid (Below w.heap.size w w') := by
  by_cases h : (nd a).length < (nd b).length
  · have := add_ge b a v u w hv hu hlb (by omega) false (fun _ => h)
    rw [Nat.add_comm b a] at this
    exact this
  · exact add_ge a b u v w hu hv hla (by omega) true (fun e => by cases e)
end Go.Proofs.YtgennilhbedmoaaGreatDoor
/-
  nat: Sub.
-/
namespace Go.Proofs.YtgennilhbedmoaaGreatDoor
open Go.RowKit KeepPlain

/-- A digit is written. -/
theorem blk_setU {w : World} {g : Nat} {l : List Nat} (h : Blk w g (us l) 81) (p x : Nat) : Blk (w.setCell ⟨g, p, none⟩ (.int .u32 (x : Int))) g (us (l.set p x)) 81 := by
  have := h.set p (.int .u32 (x : Int))
  rwa [us_set] at this
theorem blk_cellU {w : World} {g : Nat} {l : List Nat} (h : Blk w g (us l) 81) (p : Nat) (hp : p < l.length) : w.cell? ⟨g, p, none⟩ = some (.int .u32 (dg l p : Nat)) := by
  rw [h.cell p, us_get l p hp]
theorem set_lt {l : List Nat} (h : ∀ x ∈ l, x < 1000000000) (p x : Nat) (hx : x < 1000000000) : ∀ y ∈ l.set p x, y < 1000000000 := by
  intro y hy
  rcases List.mem_or_eq_of_mem_set hy with h1 | h1
  · exact h y h1
  · rw [h1]; exact hx
theorem rep_lt (n : Nat) : ∀ y ∈ List.replicate n 0, y < 1000000000 := by
  intro y hy
  rw [List.eq_of_mem_replicate hy]; omega
theorem blk_rdU {w : World} {g : Nat} {l : List Nat} (h : Blk w g (us l) 81) (n c : Nat) (hn : n = l.length) (hc : n ≤ c) (hm : c ≤ maxLen) : RdU w (.slice (some ⟨g, 0, none⟩) n c) l := by
  have := rdu_blk h 0 n c (by omega) hc hm
  rwa [List.drop_zero, List.take_of_length_le (by omega)] at this
theorem sub_end {o : List Nat} {a b n c : Nat} (hd : ∀ x ∈ o, x < 1000000000) (hn : o.length = n) (ha : (nd a).length = n) (hb : (nd b).length ≤ n) (hba : b ≤ a) (h : sv (dg o) n + sv (dg (nd b)) n = sv (dg (nd a)) n + c * 1000000000 ^ n) : nv o = a - b := by
  rw [nd_sv a n (by omega), nd_sv b n hb] at h
  have h1 := sv_lt (d := dg o) n (fun j _ => dg_lt o hd j)
  rw [nv_sv o n (by omega)] at h h1
  rcases Nat.eq_zero_or_pos c with e | e
  · subst e; omega
  · have : 1 * 1000000000 ^ n ≤ c * 1000000000 ^ n := Nat.mul_le_mul_right _ e
    omega
set_option maxRecDepth 100000 in
set_option maxHeartbeats 3200000 in
theorem sub_any (a b : Nat) (u v : Value) (w : World) (hu : NV w u a) (hv : NV w v b) (hla : (nd a).length ≤ 1000) (hba : b ≤ a) :
    Calls Tryz.prog 34 #[u, v] w fun e w' => ∃ r, e = .returned r ∧ Hid (NV w' r (a - b)) ∧ Hid (Below w.heap.size w w') := by
  obtain ⟨A, c, rfl, -, -, hA⟩ := RdU.open hu
  obtain ⟨B, d, rfl, -, -, hB⟩ := RdU.open hv
  have hlb : (nd b).length ≤ (nd a).length := by
    rcases Nat.lt_or_ge (nd a).length (nd b).length with h | h
    · have := nd_len_lt h; omega
    · exact h
  have HA := Lib.hid hA
  have HB := Lib.hid hB
  have HLA := Lib.hid hla
  have HLB := Lib.hid hlb
  have HEND := Lib.hid (fun o c (hd : ∀ x ∈ o, x < 1000000000) (hn : o.length = (nd a).length) h => sub_end (o := o) (a := a) (b := b) (n := (nd a).length) (c := c) hd hn rfl hlb hba h)
  have HDB := Lib.hid (fun i (h : (nd b).length ≤ i) => dg_far (nd b) i h)
  have hm := makeU (nd a).length (nd a).length (Nat.le_refl _) (by omega) w
  have HK0 := Lib.hid (news_blk w (us (List.replicate (nd a).length 0)) 81)
  have HB0 := Lib.hid (show Below w.heap.size w (w.alloc (.cells (us (List.replicate (nd a).length 0)).toArray 81)) from (Below.refl _ _).alloc (Nat.le_refl _) _)
  have HTR := Lib.hid (fun A n c l wx (h1 : RdU wx (.slice A n c) l) h2 h3 => trim_any A n c l wx h1 h2 h3)
  clear hu hv hA hB hba
  generalize (nd a).length = la at *
  generalize (nd b).length = lb at *
  generalize w.alloc (.cells (us (List.replicate la 0)).toArray 81) = w0 at *
  go_enter Tryz.func34, Tryz.ntmps34
  go_wp2
  go_loopg [6, 15] la (fun gk s6 s15 wx => ∃ (i : Nat) (o : List Nat) (cy : Nat), s15 = .int .i64 i ∧ i ≤ la ∧ gk = la - i ∧ s6 = .int .u32 cy ∧ cy ≤ 1 ∧ Hid ((∀ x ∈ o, x < 1000000000) ∧ o.length = la) ∧ Hid (sv (dg o) i + sv (dg (nd b)) i = sv (dg (nd a)) i + cy * 1000000000 ^ i) ∧ Hid (Blk wx w.heap.size (us o) 81) ∧ Hid (Below w.heap.size w wx))
  case atStart => exact ⟨0, List.replicate la 0, 0, rfl, Nat.zero_le _, rfl, rfl, Nat.zero_le _, Lib.hid ⟨rep_lt la, by simp⟩, Lib.hid rfl, HK0, HB0⟩
  case round =>
    obtain ⟨i, o, cy, rfl, hi, rfl, rfl, hcy, HL, HS, HK, HBW⟩ := hrel
    by_cases hlt : i < la
    · obtain ⟨b1, o1, rfl, hb1, c1⟩ := HA.out i hlt
      have c1' : wr.cell? ⟨b1, o1 + i, none⟩ = some (.int .u32 (dg (nd a) i : Nat)) := by rw [HBW.out.cell (p := ⟨b1, o1 + i, none⟩) hb1]; exact c1
      have hx := nd_dg_lt a i
      have hy := nd_dg_lt b i
      have hoc := blk_cellU HK.out i (by rw [HL.out.2]; exact hlt)
      have hof := HK.out.frozen i
      have HT := Lib.hid (fun (o' : List Nat) (z cy' : Nat) (h1 : ∀ j, j < i → dg o' j = dg o j) (h2 : dg o' i = z) (h3 : z + dg (nd b) i + cy = dg (nd a) i + cy' * 1000000000) => show sv (dg o') (i + 1) + sv (dg (nd b)) (i + 1) = sv (dg (nd a)) (i + 1) + cy' * 1000000000 ^ (i + 1) by
        have := sub_step (o := dg o') (a := dg (nd a)) (b := dg (nd b)) (i := i) (c := cy) (c' := cy') (x := z) (by rw [sv_congr i h1]; exact HS.out) (by rw [h2]; exact h3) h2.symm
        rwa [← sv_top h2] at this)
      have HIL := Lib.hid (show i ≤ 1000 by omega)
      clear c1
      by_cases hib : i < lb
      · obtain ⟨b2, o2, rfl, hb2, c2⟩ := HB.out i hib
        have c2' : wr.cell? ⟨b2, o2 + i, none⟩ = some (.int .u32 (dg (nd b) i : Nat)) := by rw [HBW.out.cell (p := ⟨b2, o2 + i, none⟩) hb2]; exact c2
        generalize dg (nd a) i = x at hx c1' HT
        generalize dg (nd b) i = y at hy c2' HT
        clear c2
        obtain ⟨t, h1⟩ : ∃ t, t = cy + y := ⟨_, rfl⟩
        have s1 : (cy : Int) + (y : Int) = (t : Int) := by omega
        have w1 : IntKind.u32.wrap (t : Int) = t := u32_in (by omega)
        by_cases hxt : x < t
        · obtain ⟨x2, h2⟩ : ∃ x2, x2 = x + 1000000000 := ⟨_, rfl⟩
          have s2 : (x : Int) + 1000000000 = (x2 : Int) := by omega
          have w2 : IntKind.u32.wrap (x2 : Int) = x2 := u32_in (by omega)
          obtain ⟨z, h3⟩ : ∃ z, z = x2 - t := ⟨_, rfl⟩
          have s3 : (x2 : Int) - (t : Int) = (z : Int) := by omega
          have w3 : IntKind.u32.wrap (z : Int) = z := u32_in (by omega)
          have hxi : (x : Int) < (t : Int) := by omega
          have HE := Lib.hid (show z + y + cy = x + 1 * 1000000000 by omega)
          have HZ := Lib.hid (show z < 1000000000 by omega)
          clear h1 h2 h3 hx hy hxt
          go_wp2
          go_roundg (la - (i + 1))
          case measure => omega
          case rel =>
            obtain ⟨hl1, hl2⟩ := HL.out
            have hii := hlt
            exact ⟨i + 1, o.set i z, 1, congrArg (Value.int .i64) (by omega), by omega, rfl, rfl, by omega, Lib.hid ⟨set_lt hl1 i z HZ.out, by simp [hl2]⟩, Lib.hid (HT.out (o.set i z) z 1 (fun j hj => by rw [dg_set o i z (by omega), up_ne _ _ _ _ (by omega)]) (by rw [dg_set o i z (by omega), up_same]) HE.out), Lib.hid (blk_setU HK.out i z), Lib.hid (HBW.out.setCell (p := ⟨w.heap.size, i, none⟩) (Nat.le_refl _) _)⟩
        · obtain ⟨z, h3⟩ : ∃ z, z = x - t := ⟨_, rfl⟩
          have s3 : (x : Int) - (t : Int) = (z : Int) := by omega
          have w3 : IntKind.u32.wrap (z : Int) = z := u32_in (by omega)
          have hxi : ¬ ((x : Int) < (t : Int)) := by omega
          have HE := Lib.hid (show z + y + cy = x + 0 * 1000000000 by omega)
          have HZ := Lib.hid (show z < 1000000000 by omega)
          clear h1 h3 hx hy hxt
          go_wp2
          go_roundg (la - (i + 1))
          case measure => omega
          case rel =>
            obtain ⟨hl1, hl2⟩ := HL.out
            have hii := hlt
            exact ⟨i + 1, o.set i z, 0, congrArg (Value.int .i64) (by omega), by omega, rfl, rfl, by omega, Lib.hid ⟨set_lt hl1 i z HZ.out, by simp [hl2]⟩, Lib.hid (HT.out (o.set i z) z 0 (fun j hj => by rw [dg_set o i z (by omega), up_ne _ _ _ _ (by omega)]) (by rw [dg_set o i z (by omega), up_same]) HE.out), Lib.hid (blk_setU HK.out i z), Lib.hid (HBW.out.setCell (p := ⟨w.heap.size, i, none⟩) (Nat.le_refl _) _)⟩
      · rw [HDB.out i (by omega)] at HT
        have hib' : ¬ ((i : Int) < (lb : Int)) := by omega
        generalize dg (nd a) i = x at hx c1' HT
        clear hy
        by_cases hxt : x < cy
        · obtain ⟨x2, h2⟩ : ∃ x2, x2 = x + 1000000000 := ⟨_, rfl⟩
          have s2 : (x : Int) + 1000000000 = (x2 : Int) := by omega
          have w2 : IntKind.u32.wrap (x2 : Int) = x2 := u32_in (by omega)
          obtain ⟨z, h3⟩ : ∃ z, z = x2 - cy := ⟨_, rfl⟩
          have s3 : (x2 : Int) - (cy : Int) = (z : Int) := by omega
          have w3 : IntKind.u32.wrap (z : Int) = z := u32_in (by omega)
          have hxi : (x : Int) < (cy : Int) := by omega
          have HE := Lib.hid (show z + 0 + cy = x + 1 * 1000000000 by omega)
          have HZ := Lib.hid (show z < 1000000000 by omega)
          clear h2 h3 hx hxt
          go_wp2
          go_roundg (la - (i + 1))
          case measure => omega
          case rel =>
            obtain ⟨hl1, hl2⟩ := HL.out
            have hii := hlt
            exact ⟨i + 1, o.set i z, 1, congrArg (Value.int .i64) (by omega), by omega, rfl, rfl, by omega, Lib.hid ⟨set_lt hl1 i z HZ.out, by simp [hl2]⟩, Lib.hid (HT.out (o.set i z) z 1 (fun j hj => by rw [dg_set o i z (by omega), up_ne _ _ _ _ (by omega)]) (by rw [dg_set o i z (by omega), up_same]) HE.out), Lib.hid (blk_setU HK.out i z), Lib.hid (HBW.out.setCell (p := ⟨w.heap.size, i, none⟩) (Nat.le_refl _) _)⟩
        · obtain ⟨z, h3⟩ : ∃ z, z = x - cy := ⟨_, rfl⟩
          have s3 : (x : Int) - (cy : Int) = (z : Int) := by omega
          have w3 : IntKind.u32.wrap (z : Int) = z := u32_in (by omega)
          have hxi : ¬ ((x : Int) < (cy : Int)) := by omega
          have HE := Lib.hid (show z + 0 + cy = x + 0 * 1000000000 by omega)
          have HZ := Lib.hid (show z < 1000000000 by omega)
          clear h3 hx hxt
          go_wp2
          go_roundg (la - (i + 1))
          case measure => omega
          case rel =>
            obtain ⟨hl1, hl2⟩ := HL.out
            have hii := hlt
            exact ⟨i + 1, o.set i z, 0, congrArg (Value.int .i64) (by omega), by omega, rfl, rfl, by omega, Lib.hid ⟨set_lt hl1 i z HZ.out, by simp [hl2]⟩, Lib.hid (HT.out (o.set i z) z 0 (fun j hj => by rw [dg_set o i z (by omega), up_ne _ _ _ _ (by omega)]) (by rw [dg_set o i z (by omega), up_same]) HE.out), Lib.hid (blk_setU HK.out i z), Lib.hid (HBW.out.setCell (p := ⟨w.heap.size, i, none⟩) (Nat.le_refl _) _)⟩
    · have : i = la := by omega
      subst this
      obtain ⟨hl1, hl2⟩ := HL.out
      have HV := Lib.hid (HEND.out o cy hl1 hl2 HS.out)
      have HRD := Lib.hid (blk_rdU HK.out i i (by omega) (Nat.le_refl _) (by unfold maxLen; omega))
      have HLT := Lib.hid hl1
      clear hl1 hl2
      go_wp2_with (go_at_call 46; refine (HTR.out _ _ _ o wr HRD.out HLT.out (by omega)).mono ?_; rintro e wz ⟨m, rfl, HN, hz⟩; subst wz)
      go_ret
      exact ⟨_, rfl, Lib.hid (by rw [← HV.out]; exact HN.out), HBW⟩
end Go.Proofs.YtgennilhbedmoaaGreatDoor
