/-
  frac: Add.
  strings.Builder: strings are written one behind the other, and read.
  nat: String.
  nat: Parse.
  strings.CutPrefix of a number's text; num: digits.
-/
import Derived.Laws.Concat
import Derived.Laws.Externs
import Derived.Lib.AppendStr
import Derived.Lib.Builder
import Derived.Lib.ConvBytes
import Derived.Lib.ParseIntB
import Derived.Lib.UnsafeStr
import Derived.Shelf.Strings.SlTrimAscii
import Derived.Test.YtdbhlkejfecffaaGreatDoorSa1
import Derived.Test.YtdbhlkejfecffaaGreatDoorSa6
import Derived.Test.YtdbhlkejfecffaaGreatDoorSa19
import Derived.Test.YtdbhlkejfecffaaGreatDoorSa20
import Derived.Test.YtdbhlkejfecffaaGreatDoorSa25
/-
  frac: Add.
-/
namespace Go.Proofs.YtdbhlkejfecffaaGreatDoor
open Go.RowKit KeepPlain

theorem nd_add_len {x y i : Nat} (hx : (nd x).length ≤ i) (hy : (nd y).length ≤ i) : (nd (x + y)).length ≤ i + 1 := by
  refine nd_len_le _ _ ?_
  have h1 := nd_lt_pow x
  have h2 := nd_lt_pow y
  have h3 : 1000000000 ^ (nd x).length ≤ 1000000000 ^ i := Nat.pow_le_pow_right (by decide) hx
  have h4 : 1000000000 ^ (nd y).length ≤ 1000000000 ^ i := Nat.pow_le_pow_right (by decide) hy
  rw [pow_succ']
  generalize 1000000000 ^ i = p at *
  omega
end Go.Proofs.YtdbhlkejfecffaaGreatDoor
/-
  strings.Builder: strings are written one behind the other, and read.
-/
namespace Go.Proofs.YtdbhlkejfecffaaGreatDoor
open Go.RowKit

theorem infoB : (Tryz.prog.info? 121).map (·.size) = some 2 := by kernel_rfl
set_option maxHeartbeats 1000000 in
set_option maxRecDepth 100000 in
theorem copyCheck_fresh (b : Nat) (w : World) (h0 : w.cell? ⟨b, 0, none⟩ = some (.pointer none)) (hsh : w.shape? b = some (121, 2)) (hfz : w.frozen? ⟨b, 0, none⟩ = false) :
    Calls Tryz.prog 89 #[.pointer (some ⟨b, 0, none⟩)] w fun e w' => e = .returned (.tuple #[]) ∧ w' = w.setCell ⟨b, 0, none⟩ (.pointer (some ⟨b, 0, none⟩)) := by
  obtain ⟨j, hj, hjs⟩ := Option.map_eq_some_iff.1 infoB
  go_enter Tryz.func89, Tryz.ntmps89
  go_wp2
  rw [Lib.run_to_unsafe w ⟨b, 0, none⟩ Tryz.underlying118 Tryz.underlying176 hj (by rw [hjs]; decide) hsh (Nat.zero_lt_succ 1)]
  simp only [Result.andThen]
  rw [Oper.upon_value]
  go_wp2
  rw [run_callFunc_extern Tryz.func120 (by kernel_rfl) (by kernel_rfl) (by kernel_rfl) (e := Extern.AbiNoEscape.same) (by kernel_rfl)]
  rw [Lib.run_noEscape]
  simp only [Result.andThen]
  rw [Oper.upon_value]
  go_wp2
  rw [Lib.run_from_unsafe w ⟨b, 0, none⟩ Tryz.underlying176 Tryz.underlying118 hj hsh (by kernel_rfl)]
  simp only [Result.andThen]
  rw [Oper.upon_value]
  go_wp2
  go_end0
  exact ⟨rfl, rfl⟩
set_option maxHeartbeats 1000000 in
set_option maxRecDepth 100000 in
theorem copyCheck_used (b : Nat) (w : World) (h0 : w.cell? ⟨b, 0, none⟩ = some (.pointer (some ⟨b, 0, none⟩))) :
    Calls Tryz.prog 89 #[.pointer (some ⟨b, 0, none⟩)] w fun e w' => e = .returned (.tuple #[]) ∧ w' = w := by
  obtain ⟨j, hj, hjs⟩ := Option.map_eq_some_iff.1 infoB
  have hne := Lib.run_neq_ptr_same (P := Tryz.prog) (w := w) ⟨b, 0, none⟩ Tryz.underlying118 hj
  go_enter Tryz.func89, Tryz.ntmps89
  go_wp2
  go_end0
  exact ⟨rfl, rfl⟩
/-- A builder in block b, of which nothing else is known; what it holds is the call's own. -/
def BD (w : World) (b B : Nat) (l : List UInt8) : Prop := ∃ p v, Blk w b [p, v] 121 ∧ (p = .pointer none ∨ p = .pointer (some ⟨b, 0, none⟩)) ∧ w.ownsRow B 5 1 v l.length (Lib.byteCells l)
theorem BD.below {w w' : World} {b B : Nat} {l : List UInt8} (h : BD w b B l) (hb : Below w.heap.size w w') : BD w' b B l := by
  obtain ⟨p, v, h1, h2, h3⟩ := h
  exact ⟨p, v, Blk.below hb h1, h2, ownsRow_below h3 hb⟩
theorem own_set2 {w : World} {base b o : Nat} {e : TypeId} {size : Nat} {v : Value} {n : Nat} {xs : List Value} (h : w.ownsRow base e size v n xs) (hb : b < base) (x : Value) : (w.setCell ⟨b, o, none⟩ x).ownsRow base e size v n xs :=
  ownsRow_block h fun k _ hv => Below.heap_setCell _ _ _ _ (show k ≠ b by have := ownsRow_base h k hv; omega)
theorem copyCheck_any (b : Nat) (w : World) (p v : Value) (hk : Blk w b [p, v] 121) (hp : p = .pointer none ∨ p = .pointer (some ⟨b, 0, none⟩)) :
    Calls Tryz.prog 89 #[.pointer (some ⟨b, 0, none⟩)] w fun e w' => e = .returned (.tuple #[]) ∧ Hid (Blk w' b [.pointer (some ⟨b, 0, none⟩), v] 121) ∧ Hid (w'.heap.size = w.heap.size) ∧ Hid (Below b w w') ∧ Hid (∀ k, k ≠ b → w'.heap[k]? = w.heap[k]?) := by
  rcases hp with rfl | rfl
  · refine (copyCheck_fresh b w (hk.cell 0) (by unfold Blk at hk; simp [World.shape?, hk]) (hk.frozen 0)).mono ?_
    rintro e w' ⟨rfl, rfl⟩
    exact ⟨rfl, Lib.hid (hk.set 0 _), Lib.hid (by simp [World.setCell]), Lib.hid ((Below.refl b w).setCell (p := ⟨b, 0, none⟩) (Nat.le_refl b) _), Lib.hid fun k hk' => Below.heap_setCell _ _ _ _ hk'⟩
  · refine (copyCheck_used b w (hk.cell 0)).mono ?_
    rintro e w' ⟨rfl, rfl⟩
    exact ⟨rfl, Lib.hid hk, Lib.hid rfl, Lib.hid (Below.refl _ _), Lib.hid fun _ _ => rfl⟩
set_option maxHeartbeats 2000000 in
set_option maxRecDepth 100000 in
theorem write_any (b B : Nat) (hbB : b < B) (l : List UInt8) (s : ByteArray) (hs : l.length + s.size ≤ 100000) (w : World) (hBw : B ≤ w.heap.size) (h : BD w b B l) :
    Calls Tryz.prog 67 #[.pointer (some ⟨b, 0, none⟩), .string s] w fun e w' => e = .returned (.tuple #[.int .i64 s.size, .nilIface]) ∧ Hid (BD w' b B (l ++ s.data.toList)) ∧ Hid (Below b w w') := by
  obtain ⟨i0, hi, hz0, hz1, hz2⟩ := info_parts info5
  obtain ⟨p, v, hk, hp, hown⟩ := h
  have HCC := Lib.hid (copyCheck_any b w p v hk hp)
  have HO := Lib.hid hown
  have HBL := Lib.hid (show ∀ k, v.ownBlock = some k → B ≤ k from ownsRow_base hown)
  clear hk hp hown
  go_enter Tryz.func67, Tryz.ntmps67
  go_upto_region 2 with (go_at_call 89; refine HCC.out.mono ?_; rintro e w1 ⟨rfl, HK1, HZ1, HB1, HH1⟩)
  have HO1 := Lib.hid (show w1.ownsRow B 5 1 v l.length (Lib.byteCells l) from ownsRow_block HO.out fun k _ hv => HH1.out k (by have := HBL.out k hv; omega))
  have HBW := Lib.hid (show B ≤ w1.heap.size by rw [HZ1.out]; exact hBw)
  have d1 := HK1.out.cell 1
  go_wp2_with (at_builtin; refine Lib.wpList_append_own_string _ rfl _ _ 119 9 rfl B 5 i0 Tryz.underlying119 Tryz.underlying9 hi hz0 hz1 hz2 _ l.length (Lib.byteCells l) rfl HO1.out s rfl (by unfold maxLen; omega) (by omega) HBW.out ?_; intro v' w2 hown' hgrow _; have HO2 := Lib.hid hown'; have HG2 := Lib.hid hgrow; obtain ⟨ao, cap, rfl⟩ := ownsRow_shape hown'; have HK2 : Hid (Blk w2 b [.pointer (some ⟨b, 0, none⟩), v] 121) := Lib.hid (HK1.out.grown HG2.out (by intro e; have := HBL.out b e.symm; omega)); have q2 := HK2.out.cell; have r2 := HK2.out.frozen; clear hown' hgrow)
  go_ret2
  refine ⟨rfl, Lib.hid ⟨_, _, HK2.out.set 1 _, Or.inr rfl, ?_⟩, Lib.hid ((HB1.out.trans (Below.ofGrown HG2.out (by rw [HZ1.out]; omega) (fun k e => by have := HBL.out k e; omega))).setCell (p := ⟨b, 1, none⟩) (Nat.le_refl b) _)⟩
  have ho := own_set2 HO2.out hbB (o := 1) (.slice ao (l.length + s.size) cap)
  rw [Lib.strCells_eq, ← Lib.byteCells_append] at ho
  rw [List.length_append, show s.data.toList.length = s.size by rw [Array.length_toList]; rfl]
  exact ho
set_option maxHeartbeats 2000000 in
set_option maxRecDepth 100000 in
theorem read_any (b B : Nat) (l : List UInt8) (h0 : l ≠ []) (hl : l.length ≤ 100000) (w : World) (h : BD w b B l) :
    Calls Tryz.prog 70 #[.pointer (some ⟨b, 0, none⟩)] w fun e w' => e = .returned (.string ⟨l.toArray⟩) ∧ Hid (Below B w w') := by
  obtain ⟨p, v, hk, hp, hown⟩ := h
  have hl0 : l.length ≠ 0 := by simpa using h0
  obtain ⟨g, cap, cur, rfl, hbg, hg, hnc, hcm, hcs, htake⟩ : ∃ g cap cur, v = .slice (some ⟨g, 0, none⟩) l.length cap ∧ B ≤ g ∧ w.heap[g]? = some (.cells cur 5 (0, 0)) ∧ l.length ≤ cap ∧ cap ≤ maxLen ∧ cur.size = cap * 1 ∧ cur.toList.take (l.length * 1) = Lib.byteCells l := by
    rcases hown.2 with ⟨_, hz⟩ | ⟨g, cap, cur, hv, r⟩
    · exact absurd hz hl0
    · exact ⟨g, cap, cur, hv, r⟩
  have c1 : w.drew.cell? ⟨b, 1, none⟩ = some (.slice (some ⟨g, 0, none⟩) l.length cap) := hk.drew.cell 1
  have hSD : (Builtin.unsafeSliceData_ #[119] 151 #[.slice (some ⟨g, 0, none⟩) l.length cap]).run Tryz.prog w.drew = .ok (.pointer (some ⟨g, 0, none⟩)) w.drew :=
    Lib.run_unsafeSliceData_row _ _ _ _ _ _ (by omega)
  have hUS : (Builtin.unsafeString_ #[151, 3] 9 #[.pointer (some ⟨g, 0, none⟩), .int .i64 l.length]).run Tryz.prog w.drew = .ok (.string ⟨l.toArray⟩) (w.drew.freeze ⟨g, 0, none⟩ l.length) := by
    refine Lib.run_unsafeString_row w.drew 151 3 9 5 Tryz.underlying151 (by kernel_rfl) g cur.size (by have hg' : w.drew.heap[g]? = some (.cells cur 5 (0, 0)) := hg; simp [World.shape?, hg']) l h0 (by omega) (by unfold maxLen at hcm; omega) ?_
    intro j x hx
    have := hown.cells (g := g) rfl j (.int .u8 x.toNat) (by simp [Lib.byteCells, hx])
    exact this
  clear hk hown hp
  go_enter Tryz.func70, Tryz.ntmps70
  go_wp2
  go_region
  all_goals (go_wp2; go_ret; exact ⟨rfl, Lib.hid (Lib.below_freeze (Below.drew (Below.refl B w)) (p := ⟨g, 0, none⟩) hbg _)⟩)
end Go.Proofs.YtdbhlkejfecffaaGreatDoor
/-
  nat: String.
-/
namespace Go.Proofs.YtdbhlkejfecffaaGreatDoor
open Go.RowKit KeepPlain

theorem hi_pos {d : Nat → Nat} {k m n : Nat} (hk : k ≤ m) (hm : m < n) (h : d m ≠ 0) : hi d k n ≠ 0 := by
  intro e
  have h1 := high_zero (d := fun j => d (k + j)) (n := 0) (N := n - k) (by show hi d k n < _; rw [e]; exact Nat.one_pos) (m - k) (Nat.zero_le _) (by omega)
  have h2 : d (k + (m - k)) = 0 := h1
  rw [show k + (m - k) = m by omega] at h2
  exact h h2
theorem hi_len {d : Nat → Nat} {k n : Nat} (h : ∀ j, j < n → d j < 1000000000) (hk : k < n) : (Lib.decDigits (hi d k n)).length ≤ 9 * (n - k) := by
  refine dec_len_le _ _ (by omega) ?_
  have := hi_lt k n h
  rwa [show (1000000000 : Nat) = 10 ^ 9 from rfl, ← Nat.pow_mul] at this
theorem ba_size (l : List UInt8) : (⟨l.toArray⟩ : ByteArray).size = l.length := by rw [← ByteArray.size_data]; simp
theorem ba_append (x y : ByteArray) : (x ++ y).data.toList = x.data.toList ++ y.data.toList := by simp [ByteArray.data_append]
set_option maxRecDepth 100000 in
set_option maxHeartbeats 3200000 in
theorem string_any (a : Nat) (v : Value) (w : World) (hv : NV w v a) (hl : (nd a).length ≤ 500) (ht : Pow10 w) :
    Calls Tryz.prog 54 #[v] w fun e w' => e = .returned (.string ⟨(Lib.decDigits a).toArray⟩) ∧ Hid (Below w.heap.size w w') := by
  obtain ⟨A, c, rfl, -, -, hA⟩ := RdU.open hv
  by_cases h0 : a = 0
  · subst h0
    rw [nd_zero]
    simp only [List.length_nil]
    clear hv hA hl
    have HD := Lib.hid (show (Lib.decDigits 0) = [48] from by rw [dec_small (by omega)]; rfl)
    go_enter Tryz.func54, Tryz.ntmps54
    go_wp2
    go_ret
    exact ⟨by rw [HD.out]; rfl, Lib.hid (Below.refl _ _)⟩
  · have hn0 : (nd a).length ≠ 0 := fun h => h0 ((nd_nil_iff a).1 (List.length_eq_zero_iff.1 h))
    obtain ⟨n, hn⟩ : ∃ n, n = (nd a).length := ⟨_, rfl⟩
    rw [← hn] at hA hl hn0 ⊢
    obtain ⟨m, hm⟩ : ∃ m, n = m + 1 := ⟨n - 1, by omega⟩
    have htop : dg (nd a) m ≠ 0 := by
      have h := (nd_neat a).2
      rw [List.getLast?_eq_getElem?, ← hn, hm, Nat.add_sub_cancel] at h
      rw [dg_get _ _ (by omega)]
      rw [List.getElem?_eq_getElem (by omega)] at h
      intro e
      exact h (by rw [e])
    have hall : hi (dg (nd a)) 0 n = a := by rw [hi_zero]; exact nd_sv a n (by omega)
    have hhi0 : hi (dg (nd a)) m n = dg (nd a) m := by rw [hi_step _ m n (by omega), hm, hi_end]; omega
    have hdl : ∀ j, j < n → dg (nd a) j < 1000000000 := fun j _ => nd_dg_lt a j
    have HNZ := Lib.hid (fun k (hk : k ≤ m) => hi_pos (d := dg (nd a)) (n := n) hk (by omega) htop)
    have HLEN := Lib.hid (fun k (hk : k < n) => hi_len (d := dg (nd a)) (k := k) hdl hk)
    have HST := Lib.hid (fun k (hk : k < n) => hi_step (dg (nd a)) k n hk)
    have HALL := Lib.hid hall
    have HTOP := Lib.hid hhi0
    have HA := Lib.hid hA
    have HDL := Lib.hid (fun i => nd_dg_lt a i)
    have HFM := Lib.hid (fun u (hu : u < 1000000000) wx (hb : Below w.heap.size w wx) => format_any u hu wx (ht.below hb))
    have HRP := Lib.hid (fun k (hk : k ≤ 9) wx => Tryz.strings_Repeat ⟨#[48]⟩ k wx (by omega) (by show 1 * k ≤ _; omega))
    obtain ⟨w0, hw0, hb0, hk0⟩ : ∃ w0, w.alloc (.cells #[.pointer none, .slice none 0 0] 121) = w0 ∧ Below w.heap.size w w0 ∧ Blk w0 w.heap.size [.pointer none, .slice none 0 0] 121 := ⟨_, rfl, (Below.refl _ _).alloc (Nat.le_refl _) _, heap_alloc_new w _⟩
    have HB0 := Lib.hid hb0
    have HSZ := Lib.hid (show w.heap.size < w0.heap.size from hk0.lt)
    have HBD0 := Lib.hid (show BD w0 w.heap.size w0.heap.size [] from ⟨_, _, hk0, Or.inl rfl, World.ownsRow_nil _ _ _ _⟩)
    have HWR := Lib.hid (fun l s (hs : l.length + ByteArray.size s ≤ 100000) (wx : World) (hBw : w0.heap.size ≤ wx.heap.size) (h : BD wx w.heap.size w0.heap.size l) => write_any w.heap.size w0.heap.size hk0.lt l s hs wx hBw h)
    have HRD := Lib.hid (fun l (h0 : l ≠ []) (hl : l.length ≤ 100000) wx (h : BD wx w.heap.size w0.heap.size l) => read_any w.heap.size w0.heap.size l h0 hl wx h)
    obtain ⟨b1, o1, rfl, hb1, c1⟩ := hA m (by omega)
    have c1' : w0.cell? ⟨b1, o1 + m, none⟩ = some (.int .u32 (dg (nd a) m : Nat)) := by rw [hb0.cell (p := ⟨b1, o1 + m, none⟩) hb1]; exact c1
    have d0 : ((n : Int) == 0) = false := by simp; omega
    have s1 : (n : Int) - 1 = (m : Int) := by omega
    have bm : m < n := by omega
    have bm5 : m ≤ 500 := by omega
    have hx := nd_dg_lt a m
    obtain ⟨x, hxe⟩ : ∃ x, x = dg (nd a) m := ⟨_, rfl⟩
    rw [← hxe] at c1' hx HTOP
    have u1 : IntKind.u64.wrap (x : Int) = x := u64_in (by omega)
    have HF1 := Lib.hid (HFM.out x hx w0 hb0)
    obtain ⟨S, hS⟩ : ∃ S : ByteArray, S = ⟨(Lib.decDigits x).toArray⟩ := ⟨_, rfl⟩
    have HS := Lib.hid hS
    have HSL := Lib.hid (show ([] : List UInt8).length + S.size ≤ 100000 by rw [hS, ba_size]; have := dec_len9 hx; simp; omega)
    rw [← hS] at HF1
    have HM := Lib.hid hm
    have hls : (nd a).length = n := hn.symm
    clear hv hA hall hhi0 hdl htop hb0 hk0 c1 hx hxe hS hm h0 hn hn0 ht hls
    go_enter Tryz.func54, Tryz.ntmps54
    go_wp2_with (first | (go_at_call 68; refine HF1.out.mono ?_; rintro e w1 ⟨rfl, HB1⟩) | (go_at_call 67; refine (HWR.out [] S HSL.out w1 HB1.out.size (HBD0.out.below HB1.out)).mono ?_; rintro e w2 ⟨rfl, HBD2, HB2⟩))
    have HBW := Lib.hid (show Below w.heap.size w w2 from (HB0.out.trans (HB1.out.mono HB0.out.size)).trans HB2.out)
    have HB0W := Lib.hid (show w0.heap.size ≤ w2.heap.size from Nat.le_trans HB1.out.size HB2.out.size)
    have HT2 := Lib.hid (show BD w2 w.heap.size w0.heap.size (Lib.decDigits (hi (dg (nd a)) m n)) by
      have := HBD2.out
      rw [HS.out, List.nil_append] at this
      rw [HTOP.out]
      simpa using this)
    clear HB1 HB2 HBD2 HF1 HSL HS HBD0 HTOP c1'
    go_loopg [4, 5] m (fun gk s4 s5 wx => s4 = .int .i64 ((gk : Int) - 1) ∧ gk ≤ m ∧ Hid (BD wx w.heap.size w0.heap.size (Lib.decDigits (hi (dg (nd a)) gk n))) ∧ Hid (w0.heap.size ≤ wx.heap.size) ∧ Hid (Below w.heap.size w wx))
    case atStart => exact ⟨congrArg (Value.int .i64) (by omega), Nat.le_refl _, HT2, HB0W, HBW⟩
    case round =>
      obtain ⟨rfl, hgm, HT, HSW, HBW⟩ := hrel
      cases gk with
      | zero =>
        have HRR := Lib.hid (HRD.out (Lib.decDigits (hi (dg (nd a)) 0 n)) (dec_ne _) (by have := HLEN.out 0 (by omega); omega) wr HT.out)
        rw [HALL.out] at HRR
        go_wp2_with (go_at_call 70; refine HRR.out.mono ?_; rintro e w3 ⟨rfl, HB3⟩)
        go_ret
        exact ⟨rfl, Lib.hid (HBW.out.trans (HB3.out.mono (Nat.le_of_lt HSZ.out)))⟩
      | succ k =>
        obtain ⟨b2, o2, hA2, hb2, c2⟩ := HA.out k (by omega)
        have c2' : wr.cell? ⟨b2, o2 + k, none⟩ = some (.int .u32 (dg (nd a) k : Nat)) := by rw [HBW.out.cell (p := ⟨b2, o2 + k, none⟩) hb2]; exact c2
        injection hA2 with hA2
        injection hA2 with e1 e2
        subst e1 e2
        have hx2 := HDL.out k
        obtain ⟨y, hye⟩ : ∃ y, y = dg (nd a) k := ⟨_, rfl⟩
        rw [← hye] at c2' hx2
        have u2 : IntKind.u64.wrap (y : Int) = y := u64_in (by omega)
        have hF2 := HFM.out y hx2 wr HBW.out
        obtain ⟨S2, hS2⟩ : ∃ S : ByteArray, S = ⟨(Lib.decDigits y).toArray⟩ := ⟨_, rfl⟩
        rw [← hS2] at hF2
        have HF2 := Lib.hid hF2
        obtain ⟨sz, hsz⟩ : ∃ sz, sz = S2.size := ⟨_, rfl⟩
        have hsz2 : sz = (Lib.decDigits y).length := by rw [hsz, hS2, ba_size]
        have hsz9 : sz ≤ 9 := by rw [hsz2]; exact dec_len9 hx2
        have hszi : (S2.size : Int) = (sz : Int) := by rw [hsz]
        obtain ⟨r, hr⟩ : ∃ r, r = 9 - sz := ⟨_, rfl⟩
        have s5 : (9 : Int) - (sz : Int) = (r : Int) := by omega
        obtain ⟨Z, hZ⟩ : ∃ Z : ByteArray, Z = ⟨(Lib.repeatL [48] r).toArray⟩ := ⟨_, rfl⟩
        have hrp := fun wx => HRP.out r (by omega) wx
        have hrp2 : ∀ wx : World, Calls Tryz.prog 69 #[.string ⟨#[48]⟩, .int .i64 r] wx fun e w' => e = .returned (.string Z) ∧ Below wx.heap.size wx w' := fun wx => by rw [hZ]; exact hrp wx
        have HRPZ := Lib.hid hrp2
        have HCH := Lib.hid (show Lib.decDigits (hi (dg (nd a)) (k + 1) n) ++ (Z ++ S2).data.toList = Lib.decDigits (hi (dg (nd a)) k n) by
          rw [HST.out k (by omega), ← hye, show y + 1000000000 * hi (dg (nd a)) (k + 1) n = hi (dg (nd a)) (k + 1) n * 1000000000 + y by omega, dec_chunk _ y (HNZ.out (k + 1) hgm) hx2, ba_append, hZ, hS2, hr, hsz2]
          have e9 : ∀ j, Lib.repeatL [48] j = List.replicate j 48 := fun j => by
            have := Lib.repeatL_replicate 48 1 j
            rw [Nat.mul_one] at this
            exact this
          rw [e9])
        have hadd : ∀ W, (Op.stringOp .add Z S2).run Tryz.prog W = .ok (.string (Z ++ S2)) W := fun W => run_string_add_sum W Z S2 (by
          rw [← hsz, hZ, ba_size, Lib.repeatL_length]; simp; omega)
        have HSL := Lib.hid (show (Lib.decDigits (hi (dg (nd a)) (k + 1) n)).length + (Z ++ S2).size ≤ 100000 by
          have h1 := HLEN.out (k + 1) (by omega)
          have h2 : (Z ++ S2).size = r + sz := by
            rw [ByteArray.size_append, ← hsz, hZ, ba_size, Lib.repeatL_length]; simp
          omega)
        clear hrp hrp2 hZ hr hsz hsz2 hS2 hF2 hye c2 hx2
        rw [show (((k + 1 : Nat) : Int) - 1) = (k : Int) by omega]
        have bk : k < n := by omega
        go_wp2_with (first | (go_at_call 67; refine (HWR.out _ (Z ++ S2) HSL.out w4 (Nat.le_trans HSW.out (Nat.le_trans HB3.out.size HB4.out.size)) ((HT.out.below HB3.out).below HB4.out)).mono ?_; rintro e w5 ⟨rfl, HBD5, HB5⟩) | (go_at_call 68; refine HF2.out.mono ?_; rintro e w3 ⟨rfl, HB3⟩) | (go_at_call 69; refine (HRPZ.out w3).mono ?_; rintro e w4 ⟨rfl, hb4⟩; have HB4 := Lib.hid hb4; clear hb4))
        go_roundg k
        case measure => omega
        case rel =>
          have hz3 := HB3.out.size
          have hz4 := HB4.out.size
          have hz5 := HB5.out.size
          exact ⟨congrArg (Value.int .i64) (by first | rfl | omega), by omega, Lib.hid (by rw [← HCH.out]; exact HBD5.out), Lib.hid (by have := HSW.out; omega), Lib.hid (((HBW.out.trans (HB3.out.mono HBW.out.size)).trans (HB4.out.mono (Nat.le_trans HBW.out.size hz3))).trans HB5.out)⟩
end Go.Proofs.YtdbhlkejfecffaaGreatDoor
/-
  nat: Parse.
-/
namespace Go.Proofs.YtdbhlkejfecffaaGreatDoor
open Go.RowKit KeepPlain

theorem dvA_ge (a : Nat) (l : List UInt8) : a ≤ dvA a l := by
  induction l generalizing a with
  | nil => exact Nat.le_refl _
  | cons c l ih => rw [dvA_cons]; exact Nat.le_trans (by omega) (ih _)
theorem parseM {M : Nat} (hM : M < 1844674407370955162) (l : List UInt8) (a : Nat) (hd : Dig l) (h : dvA a l ≤ M) : Lib.parseUintM M a l = .ok (dvA a l) := by
  induction l generalizing a with
  | nil => rfl
  | cons c l ih =>
    have hc := hd c (by simp)
    have h1 := dvA_ge (a * 10 + (c.toNat - 48)) l
    rw [dvA_cons] at h ⊢
    rw [Lib.parseUintM, if_pos hc, if_neg (by omega), if_neg (by omega)]
    exact ih _ (fun x hx => hd x (by simp [hx])) h
theorem parseB {l : List UInt8} (hd : Dig l) (h0 : l ≠ []) (h9 : l.length ≤ 9) : Lib.parseUintB 32 l = .ok (dv l) := by
  unfold Lib.parseUintB
  rw [if_neg h0]
  refine parseM (by decide) l 0 hd ?_
  have h1 := dv_lt l hd
  have h2 : 10 ^ l.length ≤ 10 ^ 9 := Nat.pow_le_pow_right (by decide) h9
  have h3 : (10 : Nat) ^ 9 ≤ 2 ^ 32 - 1 := by decide
  show dv l ≤ _
  exact Nat.le_trans (Nat.le_of_lt h1) (Nat.le_trans h2 h3)
theorem below_bytes (w : World) (e : TypeId) (s : ByteArray) : Below w.heap.size w (Lib.bytesWorld w e s) :=
  ⟨rfl, rfl, rfl, by rw [Lib.bytesWorld_size]; omega, fun b hb => Lib.bytesWorld_at_old w e s b hb⟩
end Go.Proofs.YtdbhlkejfecffaaGreatDoor
/-
  strings.CutPrefix of a number's text; num: digits.
-/
namespace Go.Proofs.YtdbhlkejfecffaaGreatDoor
open Go.RowKit KeepPlain

theorem ba_len (l : List UInt8) : (⟨l.toArray⟩ : ByteArray).size = l.length := by rw [← ByteArray.size_data]; simp
theorem bytes_eta' (s : ByteArray) : (⟨s.data.toList.toArray⟩ : ByteArray) = s := by cases s; simp
theorem itoa_neg' {x : Int} (h : x < 0) : Lib.itoa x = 45 :: Lib.decDigits x.natAbs := by unfold Lib.itoa; rw [if_pos h]
theorem itoa_pos' {x : Int} (h : ¬ x < 0) : Lib.itoa x = Lib.decDigits x.natAbs := by
  unfold Lib.itoa; rw [if_neg h]
  congr 1; omega
theorem drop_all {p : UInt8 → Bool} : ∀ m : List UInt8, (∀ c ∈ m, p c = true) → m.dropWhile p = []
  | [], _ => rfl
  | c :: m, h => by
    rw [List.dropWhile_cons_of_pos (h c (by simp))]
    exact drop_all m (fun x hx => h x (by simp [hx]))
theorem cutset_size : (⟨#[48, 49, 50, 51, 52, 53, 54, 55, 56, 57]⟩ : ByteArray).size = 10 := rfl
theorem trim_digits (l : List UInt8) (hd : Dig l) : Lib.trimS l [48, 49, 50, 51, 52, 53, 54, 55, 56, 57] = [] := by
  have h : ∀ m : List UInt8, Dig m → m.dropWhile (fun x => ([48, 49, 50, 51, 52, 53, 54, 55, 56, 57] : List UInt8).contains x) = [] := by
    intro m hm
    refine drop_all m fun c hc => ?_
    have h1 := hm c hc
    have h2 : ∀ n : Fin 10, ([48, 49, 50, 51, 52, 53, 54, 55, 56, 57] : List UInt8).contains (UInt8.ofNat (48 + n.val)) = true := by decide
    have h3 := h2 ⟨c.toNat - 48, by omega⟩
    have h4 : UInt8.ofNat (48 + (c.toNat - 48)) = c := by rw [show 48 + (c.toNat - 48) = c.toNat by omega]; simp
    simp only [h4] at h3
    exact h3
  unfold Lib.trimS Lib.trimLeftS Lib.trimRightS
  rw [h l.reverse (fun c hc => hd c (by simpa using hc))]
  rfl
theorem trim_info : (Tryz.prog.info? (Tryz.lays160_ren.t 116)).map (fun i => (i.zero, i.size)) = some (some (.agg (Array.replicate 256 (.bool false))), 256) := by kernel_rfl
theorem cutset_ascii : ∀ (j : Nat) b, (⟨#[48, 49, 50, 51, 52, 53, 54, 55, 56, 57]⟩ : ByteArray).data.toList[j]? = some b → b.toNat < 128 := ascii_of_all (by decide)
theorem trim_at (s : ByteArray) (hs : s.size ≤ 9223372036854775807) (w : World) :
    Calls Tryz.prog 215 #[.string s, .string ⟨#[48, 49, 50, 51, 52, 53, 54, 55, 56, 57]⟩] w fun e w' => e = .returned (.string ⟨(Lib.trimS s.data.toList [48, 49, 50, 51, 52, 53, 54, 55, 56, 57]).toArray⟩) ∧ Below w.heap.size w w' :=
  Any.strings_Trim_laid Tryz.lays160 trim_info s ⟨#[48, 49, 50, 51, 52, 53, 54, 55, 56, 57]⟩ w hs (by rw [cutset_size]; decide) cutset_ascii
end Go.Proofs.YtdbhlkejfecffaaGreatDoor
