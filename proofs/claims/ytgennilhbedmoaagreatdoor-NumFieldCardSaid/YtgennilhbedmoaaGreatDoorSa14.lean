/-
  strconv: FormatUint of a digit to the base 1000000000.
  strings.Builder: strings are written one behind the other, and read.
  nat: String.
-/
import Derived.Laws.Concat
import Derived.Laws.Externs
import Derived.Laws.IdiomArrays
import Derived.Lib.AppendIntMem
import Derived.Lib.AppendStr
import Derived.Lib.Builder
import Derived.Lib.ItoaMem
import Derived.Lib.UnsafeStr
import Derived.Test.YtgennilhbedmoaaGreatDoorSa1
import Derived.Test.YtgennilhbedmoaaGreatDoorSa4
import Derived.Test.YtgennilhbedmoaaGreatDoorSa6
import Derived.Test.YtgennilhbedmoaaGreatDoorSa13
/-
  strconv: FormatUint of a digit to the base 1000000000.
-/
namespace Go.Proofs.YtgennilhbedmoaaGreatDoor
open Go.RowKit Go.Sort KeepPlain

/-- The library's table of the powers of ten. -/
def Pow10 (w : World) : Prop := Lib.TabIs Tryz.prog w "internal/strconv.uint64pow10" .u64 Lib.pow10Tab
theorem Pow10.below {w w' : World} (h : Pow10 w) (hb : Below w.heap.size w w') : Pow10 w' := by
  unfold Pow10 Lib.TabIs World.var? at *
  cases hg : Tryz.prog.globalNamed "internal/strconv.uint64pow10" with
  | none => simp [hg] at h
  | some g =>
    simp only [hg, Option.bind_some] at h ⊢
    have hlt : g < w.heap.size := by
      rcases Nat.lt_or_ge g w.heap.size with h' | h'
      · exact h'
      · rw [Array.getElem?_eq_none h'] at h; simp at h
    rw [hb.block g hlt]
    exact h
set_option maxHeartbeats 3200000 in
set_option maxRecDepth 100000 in
theorem format_in (u : Nat) (hu : u < 1000000000) (w : World) (htab : Pow10 w) :
    Calls Tryz.prog 99 #[.int .u64 u, .int .i64 10] w fun e w' => e = .returned (.string ⟨(Lib.decDigits u).toArray⟩) ∧ Hid (Below w.heap.size w w') := by
  by_cases hs : u < 100
  · have HS := Lib.hid (Tryz.internal_strconv_small u hs w)
    have d0 : (u : Int) < 100 := by omega
    have w1 : wrap64 (u : Int) = u := wrap64_in (by omega)
    clear hs hu
    go_enter Tryz.func99, Tryz.ntmps99
    go_wp2_with (go_at_call 94; refine HS.out.mono ?_; rintro e wz ⟨rfl, hz⟩; subst wz)
    go_ret
    exact ⟨rfl, Lib.hid (Below.refl _ _)⟩
  · have hu1 : 1 ≤ u := by omega
    have hu64 : u < 18446744073709551616 := by omega
    have hnd9 : Lib.nDigits u ≤ 9 := by
      rw [← Lib.decDigits_length]; exact dec_len9 hu
    have hnl := Lib.lt_pow_nDigits u
    have hdl := Lib.decDigits_length u
    have HND := Lib.hid hnd9
    have hfmt := Tryz.internal_strconv_formatBase10 w.heap.size 0 24 u (Array.replicate (Lib.nDigits u) 0) (w.alloc (.cells Lib.zeros24 149)) (Lib.holds_zero0 w 149 (Lib.nDigits u) (by omega)) (by rw [Array.size_replicate]; exact hnl) hu64 (by rw [Array.size_replicate]; omega)
    rw [Array.size_replicate] at hfmt
    have HH0 := Lib.hid (Lib.holds_zero0 w 149 (Lib.nDigits u) (by omega))
    have HND1 := Lib.hid (Tryz.internal_strconv_numDigits u hu1 hu64 (w.alloc (.cells Lib.zeros24 149)) (Lib.tabIs_alloc htab _))
    have hal : Tryz.prog.arrayLen 149 = 24 := by kernel_rfl
    have hsl1 : ∀ W, (Instr.sliceAt 149 (.pointer (some ⟨w.heap.size, 0, none⟩)) none (some (.int .i64 (Lib.nDigits u : Int))) none).run Tryz.prog W = .ok (.slice (some ⟨w.heap.size, 0, none⟩) (Lib.nDigits u) 24) W := fun W => by
      rw [run_sliceAt_array_h W 149 ⟨w.heap.size, 0, none⟩ (by kernel_rfl) .i64 (Lib.nDigits u : Int) (by omega) (by rw [hal]; omega)]
      go_simp
    have HFM := Lib.hid hfmt
    have d0 : ¬ ((u : Int) < 100) := by omega
    clear hfmt hal hu hs hnl htab
    go_enter Tryz.func99, Tryz.ntmps99
    go_wp2_with (first | (go_at_call 95; refine HND1.out.mono ?_; rintro e wz ⟨rfl, hz⟩; subst wz) | (go_at_call 96; refine HFM.out.mono ?_; rintro e w2 ⟨rfl, k, v', dk, hw2, hF⟩; have HF := Lib.hid hF; have HW2 := Lib.hid hw2; clear hF hw2; refine Hid.out ?_))
    have hcv : (convert 58 9 (.slice (some ⟨w.heap.size, 0, none⟩) (Lib.nDigits u) 24)).run Tryz.prog w2 = .ok (.string ⟨(Lib.decDigits u).toArray⟩) w2 := by
      rw [HW2.out]
      have h := run_convert_bytes_back (P := Tryz.prog) ((putRow (fun (b : UInt8) => Value.int .u8 (b.toNat : Int)) (w.alloc (.cells Lib.zeros24 149)) w.heap.size 0 dk).drewN k) 58 9 5 ⟨w.heap.size, 0, none⟩ 24 (Lib.decDigits u) Tryz.underlying58 Tryz.underlying5 Tryz.underlying9 (fun j hj => by
        rw [Lib.row_is_numeral HF.out j hj, Lib.add_plain, World.cell?_drewN]
        exact cell?_putRow (fun (b : UInt8) => Value.int .u8 (b.toNat : Int)) _ w.heap.size 0 _ dk HH0.out (by rw [HF.out.size, Array.size_replicate]) j (by rw [HF.out.size]; rw [Lib.decDigits_length] at hj; exact hj))
      rw [Lib.decDigits_length] at h
      exact h
    have HB2 := Lib.hid (show Below w.heap.size w w2 by
      rw [HW2.out]
      obtain ⟨os, eo⟩ := Lib.fin_at w (.cells Lib.zeros24 149) dk k 0
      rw [eo]
      exact Lib.below_grow w.heap.size w (Nat.le_refl _) k os)
    clear HW2 HF HH0
    refine Lib.hid ?_
    go_wp2
    go_ret
    exact ⟨rfl, HB2⟩
set_option maxHeartbeats 3200000 in
set_option maxRecDepth 100000 in
theorem format_any (u : Nat) (hu : u < 1000000000) (w : World) (htab : Pow10 w) :
    Calls Tryz.prog 65 #[.int .u64 u, .int .i64 10] w fun e w' => e = .returned (.string ⟨(Lib.decDigits u).toArray⟩) ∧ Hid (Below w.heap.size w w') := by
  have HI := Lib.hid (format_in u hu w htab)
  clear hu htab
  go_enter Tryz.func65, Tryz.ntmps65
  go_wp2_with (go_at_call 99; refine HI.out.mono ?_; rintro e w1 ⟨rfl, HB1⟩)
  go_ret
  exact ⟨rfl, HB1⟩
end Go.Proofs.YtgennilhbedmoaaGreatDoor
/-
  strings.Builder: strings are written one behind the other, and read.
-/
namespace Go.Proofs.YtgennilhbedmoaaGreatDoor
open Go.RowKit

theorem infoB : (Tryz.prog.info? 113).map (·.size) = some 2 := by kernel_rfl
set_option maxHeartbeats 1000000 in
set_option maxRecDepth 100000 in
theorem copyCheck_fresh (b : Nat) (w : World) (h0 : w.cell? ⟨b, 0, none⟩ = some (.pointer none)) (hsh : w.shape? b = some (113, 2)) (hfz : w.frozen? ⟨b, 0, none⟩ = false) :
    Calls Tryz.prog 98 #[.pointer (some ⟨b, 0, none⟩)] w fun e w' => e = .returned (.tuple #[]) ∧ w' = w.setCell ⟨b, 0, none⟩ (.pointer (some ⟨b, 0, none⟩)) := by
  obtain ⟨j, hj, hjs⟩ := Option.map_eq_some_iff.1 infoB
  go_enter Tryz.func98, Tryz.ntmps98
  go_wp2
  rw [Lib.run_to_unsafe w ⟨b, 0, none⟩ Tryz.underlying111 Tryz.underlying191 hj (by rw [hjs]; decide) hsh (Nat.zero_lt_succ 1)]
  simp only [Result.andThen]
  rw [Oper.upon_value]
  go_wp2
  rw [run_callFunc_extern Tryz.func140 (by kernel_rfl) (by kernel_rfl) (by kernel_rfl) (e := Extern.AbiNoEscape.same) (by kernel_rfl)]
  rw [Lib.run_noEscape]
  simp only [Result.andThen]
  rw [Oper.upon_value]
  go_wp2
  rw [Lib.run_from_unsafe w ⟨b, 0, none⟩ Tryz.underlying191 Tryz.underlying111 hj hsh (by kernel_rfl)]
  simp only [Result.andThen]
  rw [Oper.upon_value]
  go_wp2
  go_end0
  exact ⟨rfl, rfl⟩
set_option maxHeartbeats 1000000 in
set_option maxRecDepth 100000 in
theorem copyCheck_used (b : Nat) (w : World) (h0 : w.cell? ⟨b, 0, none⟩ = some (.pointer (some ⟨b, 0, none⟩))) :
    Calls Tryz.prog 98 #[.pointer (some ⟨b, 0, none⟩)] w fun e w' => e = .returned (.tuple #[]) ∧ w' = w := by
  obtain ⟨j, hj, hjs⟩ := Option.map_eq_some_iff.1 infoB
  have hne := Lib.run_neq_ptr_same (P := Tryz.prog) (w := w) ⟨b, 0, none⟩ Tryz.underlying111 hj
  go_enter Tryz.func98, Tryz.ntmps98
  go_wp2
  go_end0
  exact ⟨rfl, rfl⟩
/-- A builder in block b, of which nothing else is known; what it holds is the call's own. -/
def BD (w : World) (b B : Nat) (l : List UInt8) : Prop := ∃ p v, Blk w b [p, v] 113 ∧ (p = .pointer none ∨ p = .pointer (some ⟨b, 0, none⟩)) ∧ w.ownsRow B 5 1 v l.length (Lib.byteCells l)
theorem BD.below {w w' : World} {b B : Nat} {l : List UInt8} (h : BD w b B l) (hb : Below w.heap.size w w') : BD w' b B l := by
  obtain ⟨p, v, h1, h2, h3⟩ := h
  exact ⟨p, v, Blk.below hb h1, h2, ownsRow_below h3 hb⟩
theorem own_set2 {w : World} {base b o : Nat} {e : TypeId} {size : Nat} {v : Value} {n : Nat} {xs : List Value} (h : w.ownsRow base e size v n xs) (hb : b < base) (x : Value) : (w.setCell ⟨b, o, none⟩ x).ownsRow base e size v n xs :=
  ownsRow_block h fun k _ hv => Below.heap_setCell _ _ _ _ (show k ≠ b by have := ownsRow_base h k hv; omega)
theorem copyCheck_any (b : Nat) (w : World) (p v : Value) (hk : Blk w b [p, v] 113) (hp : p = .pointer none ∨ p = .pointer (some ⟨b, 0, none⟩)) :
    Calls Tryz.prog 98 #[.pointer (some ⟨b, 0, none⟩)] w fun e w' => e = .returned (.tuple #[]) ∧ Hid (Blk w' b [.pointer (some ⟨b, 0, none⟩), v] 113) ∧ Hid (w'.heap.size = w.heap.size) ∧ Hid (Below b w w') ∧ Hid (∀ k, k ≠ b → w'.heap[k]? = w.heap[k]?) := by
  rcases hp with rfl | rfl
  · refine (copyCheck_fresh b w (hk.cell 0) (by unfold Blk at hk; simp [World.shape?, hk]) (hk.frozen 0)).mono ?_
    rintro e w' ⟨rfl, rfl⟩
    exact ⟨rfl, Lib.hid (hk.set 0 _), Lib.hid (by simp [World.setCell]), Lib.hid ((Below.refl b w).setCell (p := ⟨b, 0, none⟩) (Nat.le_refl b) _), Lib.hid fun k hk' => Below.heap_setCell _ _ _ _ hk'⟩
  · refine (copyCheck_used b w (hk.cell 0)).mono ?_
    rintro e w' ⟨rfl, rfl⟩
    exact ⟨rfl, Lib.hid hk, Lib.hid rfl, Lib.hid (Below.refl _ _), Lib.hid fun _ _ => rfl⟩
set_option maxHeartbeats 2000000 in
set_option maxRecDepth 100000 in
theorem write_any (b B : Nat) (hbB : b < B) (l : List UInt8) (s : ByteArray) (hs : l.length + s.size ≤ 100000) (w : World) (hBw : B ≤ w.heap.size) (h : BD w b B l) :
    Calls Tryz.prog 64 #[.pointer (some ⟨b, 0, none⟩), .string s] w fun e w' => e = .returned (.tuple #[.int .i64 s.size, .nilIface]) ∧ Hid (BD w' b B (l ++ s.data.toList)) ∧ Hid (Below b w w') := by
  obtain ⟨i0, hi, hz0, hz1, hz2⟩ := info_parts info5
  obtain ⟨p, v, hk, hp, hown⟩ := h
  have HCC := Lib.hid (copyCheck_any b w p v hk hp)
  have HO := Lib.hid hown
  have HBL := Lib.hid (show ∀ k, v.ownBlock = some k → B ≤ k from ownsRow_base hown)
  clear hk hp hown
  go_enter Tryz.func64, Tryz.ntmps64
  go_upto_region 2 with (go_at_call 98; refine HCC.out.mono ?_; rintro e w1 ⟨rfl, HK1, HZ1, HB1, HH1⟩)
  have HO1 := Lib.hid (show w1.ownsRow B 5 1 v l.length (Lib.byteCells l) from ownsRow_block HO.out fun k _ hv => HH1.out k (by have := HBL.out k hv; omega))
  have HBW := Lib.hid (show B ≤ w1.heap.size by rw [HZ1.out]; exact hBw)
  have d1 := HK1.out.cell 1
  go_wp2_with (at_builtin; refine Lib.wpList_append_own_string _ rfl _ _ 58 9 rfl B 5 i0 Tryz.underlying58 Tryz.underlying9 hi hz0 hz1 hz2 _ l.length (Lib.byteCells l) rfl HO1.out s rfl (by unfold maxLen; omega) (by omega) HBW.out ?_; intro v' w2 hown' hgrow _; have HO2 := Lib.hid hown'; have HG2 := Lib.hid hgrow; obtain ⟨ao, cap, rfl⟩ := ownsRow_shape hown'; have HK2 : Hid (Blk w2 b [.pointer (some ⟨b, 0, none⟩), v] 113) := Lib.hid (HK1.out.grown HG2.out (by intro e; have := HBL.out b e.symm; omega)); have q2 := HK2.out.cell; have r2 := HK2.out.frozen; clear hown' hgrow)
  go_ret2
  refine ⟨rfl, Lib.hid ⟨_, _, HK2.out.set 1 _, Or.inr rfl, ?_⟩, Lib.hid ((HB1.out.trans (Below.ofGrown HG2.out (by rw [HZ1.out]; omega) (fun k e => by have := HBL.out k e; omega))).setCell (p := ⟨b, 1, none⟩) (Nat.le_refl b) _)⟩
  have ho := own_set2 HO2.out hbB (o := 1) (.slice ao (l.length + s.size) cap)
  rw [Lib.strCells_eq, ← Lib.byteCells_append] at ho
  rw [List.length_append, show s.data.toList.length = s.size by rw [Array.length_toList]; rfl]
  exact ho
set_option maxHeartbeats 2000000 in
set_option maxRecDepth 100000 in
theorem read_any (b B : Nat) (l : List UInt8) (h0 : l ≠ []) (hl : l.length ≤ 100000) (w : World) (h : BD w b B l) :
    Calls Tryz.prog 67 #[.pointer (some ⟨b, 0, none⟩)] w fun e w' => e = .returned (.string ⟨l.toArray⟩) ∧ Hid (Below B w w') := by
  obtain ⟨p, v, hk, hp, hown⟩ := h
  have hl0 : l.length ≠ 0 := by simpa using h0
  obtain ⟨g, cap, cur, rfl, hbg, hg, hnc, hcm, hcs, htake⟩ : ∃ g cap cur, v = .slice (some ⟨g, 0, none⟩) l.length cap ∧ B ≤ g ∧ w.heap[g]? = some (.cells cur 5 (0, 0)) ∧ l.length ≤ cap ∧ cap ≤ maxLen ∧ cur.size = cap * 1 ∧ cur.toList.take (l.length * 1) = Lib.byteCells l := by
    rcases hown.2 with ⟨_, hz⟩ | ⟨g, cap, cur, hv, r⟩
    · exact absurd hz hl0
    · exact ⟨g, cap, cur, hv, r⟩
  have c1 : w.drew.cell? ⟨b, 1, none⟩ = some (.slice (some ⟨g, 0, none⟩) l.length cap) := hk.drew.cell 1
  have hSD : (Builtin.unsafeSliceData_ #[58] 158 #[.slice (some ⟨g, 0, none⟩) l.length cap]).run Tryz.prog w.drew = .ok (.pointer (some ⟨g, 0, none⟩)) w.drew :=
    Lib.run_unsafeSliceData_row _ _ _ _ _ _ (by omega)
  have hUS : (Builtin.unsafeString_ #[158, 3] 9 #[.pointer (some ⟨g, 0, none⟩), .int .i64 l.length]).run Tryz.prog w.drew = .ok (.string ⟨l.toArray⟩) (w.drew.freeze ⟨g, 0, none⟩ l.length) := by
    refine Lib.run_unsafeString_row w.drew 158 3 9 5 Tryz.underlying158 (by kernel_rfl) g cur.size (by have hg' : w.drew.heap[g]? = some (.cells cur 5 (0, 0)) := hg; simp [World.shape?, hg']) l h0 (by omega) (by unfold maxLen at hcm; omega) ?_
    intro j x hx
    have := hown.cells (g := g) rfl j (.int .u8 x.toNat) (by simp [Lib.byteCells, hx])
    exact this
  clear hk hown hp
  go_enter Tryz.func67, Tryz.ntmps67
  go_wp2
  go_region
  all_goals (go_wp2; go_ret; exact ⟨rfl, Lib.hid (Lib.below_freeze (Below.drew (Below.refl B w)) (p := ⟨g, 0, none⟩) hbg _)⟩)
end Go.Proofs.YtgennilhbedmoaaGreatDoor
/-
  nat: String.
-/
namespace Go.Proofs.YtgennilhbedmoaaGreatDoor
open Go.RowKit KeepPlain

theorem hi_pos {d : Nat → Nat} {k m n : Nat} (hk : k ≤ m) (hm : m < n) (h : d m ≠ 0) : hi d k n ≠ 0 := by
  intro e
  have h1 := high_zero (d := fun j => d (k + j)) (n := 0) (N := n - k) (by show hi d k n < _; rw [e]; exact Nat.one_pos) (m - k) (Nat.zero_le _) (by omega)
  have h2 : d (k + (m - k)) = 0 := h1
  rw [show k + (m - k) = m by omega] at h2
  exact h h2
theorem hi_len {d : Nat → Nat} {k n : Nat} (h : ∀ j, j < n → d j < 1000000000) (hk : k < n) : (Lib.decDigits (hi d k n)).length ≤ 9 * (n - k) := by
  refine dec_len_le _ _ (by omega) ?_
  have := hi_lt k n h
  rwa [show (1000000000 : Nat) = 10 ^ 9 from rfl, ← Nat.pow_mul] at this
theorem ba_size (l : List UInt8) : (⟨l.toArray⟩ : ByteArray).size = l.length := by rw [← ByteArray.size_data]; simp
theorem ba_append (x y : ByteArray) : (x ++ y).data.toList = x.data.toList ++ y.data.toList := by simp [ByteArray.data_append]
set_option maxRecDepth 100000 in
set_option maxHeartbeats 3200000 in
theorem string_any (a : Nat) (v : Value) (w : World) (hv : NV w v a) (hl : (nd a).length ≤ 500) (ht : Pow10 w) :
    Calls Tryz.prog 45 #[v] w fun e w' => e = .returned (.string ⟨(Lib.decDigits a).toArray⟩) ∧ Hid (Below w.heap.size w w') := by
  obtain ⟨A, c, rfl, -, -, hA⟩ := RdU.open hv
  by_cases h0 : a = 0
  · subst h0
    rw [nd_zero]
    simp only [List.length_nil]
    clear hv hA hl
    have HD := Lib.hid (show (Lib.decDigits 0) = [48] from by rw [dec_small (by omega)]; rfl)
    go_enter Tryz.func45, Tryz.ntmps45
    go_wp2
    go_ret
    exact ⟨by rw [HD.out]; rfl, Lib.hid (Below.refl _ _)⟩
  · have hn0 : (nd a).length ≠ 0 := fun h => h0 ((nd_nil_iff a).1 (List.length_eq_zero_iff.1 h))
    obtain ⟨n, hn⟩ : ∃ n, n = (nd a).length := ⟨_, rfl⟩
    rw [← hn] at hA hl hn0 ⊢
    obtain ⟨m, hm⟩ : ∃ m, n = m + 1 := ⟨n - 1, by omega⟩
    have htop : dg (nd a) m ≠ 0 := by
      have h := (nd_neat a).2
      rw [List.getLast?_eq_getElem?, ← hn, hm, Nat.add_sub_cancel] at h
      rw [dg_get _ _ (by omega)]
      rw [List.getElem?_eq_getElem (by omega)] at h
      intro e
      exact h (by rw [e])
    have hall : hi (dg (nd a)) 0 n = a := by rw [hi_zero]; exact nd_sv a n (by omega)
    have hhi0 : hi (dg (nd a)) m n = dg (nd a) m := by rw [hi_step _ m n (by omega), hm, hi_end]; omega
    have hdl : ∀ j, j < n → dg (nd a) j < 1000000000 := fun j _ => nd_dg_lt a j
    have HNZ := Lib.hid (fun k (hk : k ≤ m) => hi_pos (d := dg (nd a)) (n := n) hk (by omega) htop)
    have HLEN := Lib.hid (fun k (hk : k < n) => hi_len (d := dg (nd a)) (k := k) hdl hk)
    have HST := Lib.hid (fun k (hk : k < n) => hi_step (dg (nd a)) k n hk)
    have HALL := Lib.hid hall
    have HTOP := Lib.hid hhi0
    have HA := Lib.hid hA
    have HDL := Lib.hid (fun i => nd_dg_lt a i)
    have HFM := Lib.hid (fun u (hu : u < 1000000000) wx (hb : Below w.heap.size w wx) => format_any u hu wx (ht.below hb))
    have HRP := Lib.hid (fun k (hk : k ≤ 9) wx => Tryz.strings_Repeat ⟨#[48]⟩ k wx (by omega) (by show 1 * k ≤ _; omega))
    obtain ⟨w0, hw0, hb0, hk0⟩ : ∃ w0, w.alloc (.cells #[.pointer none, .slice none 0 0] 113) = w0 ∧ Below w.heap.size w w0 ∧ Blk w0 w.heap.size [.pointer none, .slice none 0 0] 113 := ⟨_, rfl, (Below.refl _ _).alloc (Nat.le_refl _) _, heap_alloc_new w _⟩
    have HB0 := Lib.hid hb0
    have HSZ := Lib.hid (show w.heap.size < w0.heap.size from hk0.lt)
    have HBD0 := Lib.hid (show BD w0 w.heap.size w0.heap.size [] from ⟨_, _, hk0, Or.inl rfl, World.ownsRow_nil _ _ _ _⟩)
    have HWR := Lib.hid (fun l s (hs : l.length + ByteArray.size s ≤ 100000) (wx : World) (hBw : w0.heap.size ≤ wx.heap.size) (h : BD wx w.heap.size w0.heap.size l) => write_any w.heap.size w0.heap.size hk0.lt l s hs wx hBw h)
    have HRD := Lib.hid (fun l (h0 : l ≠ []) (hl : l.length ≤ 100000) wx (h : BD wx w.heap.size w0.heap.size l) => read_any w.heap.size w0.heap.size l h0 hl wx h)
    obtain ⟨b1, o1, rfl, hb1, c1⟩ := hA m (by omega)
    have c1' : w0.cell? ⟨b1, o1 + m, none⟩ = some (.int .u32 (dg (nd a) m : Nat)) := by rw [hb0.cell (p := ⟨b1, o1 + m, none⟩) hb1]; exact c1
    have d0 : ((n : Int) == 0) = false := by simp; omega
    have s1 : (n : Int) - 1 = (m : Int) := by omega
    have bm : m < n := by omega
    have bm5 : m ≤ 500 := by omega
    have hx := nd_dg_lt a m
    obtain ⟨x, hxe⟩ : ∃ x, x = dg (nd a) m := ⟨_, rfl⟩
    rw [← hxe] at c1' hx HTOP
    have u1 : IntKind.u64.wrap (x : Int) = x := u64_in (by omega)
    have HF1 := Lib.hid (HFM.out x hx w0 hb0)
    obtain ⟨S, hS⟩ : ∃ S : ByteArray, S = ⟨(Lib.decDigits x).toArray⟩ := ⟨_, rfl⟩
    have HS := Lib.hid hS
    have HSL := Lib.hid (show ([] : List UInt8).length + S.size ≤ 100000 by rw [hS, ba_size]; have := dec_len9 hx; simp; omega)
    rw [← hS] at HF1
    have HM := Lib.hid hm
    have hls : (nd a).length = n := hn.symm
    clear hv hA hall hhi0 hdl htop hb0 hk0 c1 hx hxe hS hm h0 hn hn0 ht hls
    go_enter Tryz.func45, Tryz.ntmps45
    go_wp2_with (first | (go_at_call 65; refine HF1.out.mono ?_; rintro e w1 ⟨rfl, HB1⟩) | (go_at_call 64; refine (HWR.out [] S HSL.out w1 HB1.out.size (HBD0.out.below HB1.out)).mono ?_; rintro e w2 ⟨rfl, HBD2, HB2⟩))
    have HBW := Lib.hid (show Below w.heap.size w w2 from (HB0.out.trans (HB1.out.mono HB0.out.size)).trans HB2.out)
    have HB0W := Lib.hid (show w0.heap.size ≤ w2.heap.size from Nat.le_trans HB1.out.size HB2.out.size)
    have HT2 := Lib.hid (show BD w2 w.heap.size w0.heap.size (Lib.decDigits (hi (dg (nd a)) m n)) by
      have := HBD2.out
      rw [HS.out, List.nil_append] at this
      rw [HTOP.out]
      simpa using this)
    clear HB1 HB2 HBD2 HF1 HSL HS HBD0 HTOP c1'
    go_loopg [4, 5] m (fun gk s4 s5 wx => s4 = .int .i64 ((gk : Int) - 1) ∧ gk ≤ m ∧ Hid (BD wx w.heap.size w0.heap.size (Lib.decDigits (hi (dg (nd a)) gk n))) ∧ Hid (w0.heap.size ≤ wx.heap.size) ∧ Hid (Below w.heap.size w wx))
    case atStart => exact ⟨congrArg (Value.int .i64) (by omega), Nat.le_refl _, HT2, HB0W, HBW⟩
    case round =>
      obtain ⟨rfl, hgm, HT, HSW, HBW⟩ := hrel
      cases gk with
      | zero =>
        have HRR := Lib.hid (HRD.out (Lib.decDigits (hi (dg (nd a)) 0 n)) (dec_ne _) (by have := HLEN.out 0 (by omega); omega) wr HT.out)
        rw [HALL.out] at HRR
        go_wp2_with (go_at_call 67; refine HRR.out.mono ?_; rintro e w3 ⟨rfl, HB3⟩)
        go_ret
        exact ⟨rfl, Lib.hid (HBW.out.trans (HB3.out.mono (Nat.le_of_lt HSZ.out)))⟩
      | succ k =>
        obtain ⟨b2, o2, hA2, hb2, c2⟩ := HA.out k (by omega)
        have c2' : wr.cell? ⟨b2, o2 + k, none⟩ = some (.int .u32 (dg (nd a) k : Nat)) := by rw [HBW.out.cell (p := ⟨b2, o2 + k, none⟩) hb2]; exact c2
        injection hA2 with hA2
        injection hA2 with e1 e2
        subst e1 e2
        have hx2 := HDL.out k
        obtain ⟨y, hye⟩ : ∃ y, y = dg (nd a) k := ⟨_, rfl⟩
        rw [← hye] at c2' hx2
        have u2 : IntKind.u64.wrap (y : Int) = y := u64_in (by omega)
        have hF2 := HFM.out y hx2 wr HBW.out
        obtain ⟨S2, hS2⟩ : ∃ S : ByteArray, S = ⟨(Lib.decDigits y).toArray⟩ := ⟨_, rfl⟩
        rw [← hS2] at hF2
        have HF2 := Lib.hid hF2
        obtain ⟨sz, hsz⟩ : ∃ sz, sz = S2.size := ⟨_, rfl⟩
        have hsz2 : sz = (Lib.decDigits y).length := by rw [hsz, hS2, ba_size]
        have hsz9 : sz ≤ 9 := by rw [hsz2]; exact dec_len9 hx2
        have hszi : (S2.size : Int) = (sz : Int) := by rw [hsz]
        obtain ⟨r, hr⟩ : ∃ r, r = 9 - sz := ⟨_, rfl⟩
        have s5 : (9 : Int) - (sz : Int) = (r : Int) := by omega
        obtain ⟨Z, hZ⟩ : ∃ Z : ByteArray, Z = ⟨(Lib.repeatL [48] r).toArray⟩ := ⟨_, rfl⟩
        have hrp := fun wx => HRP.out r (by omega) wx
        have hrp2 : ∀ wx : World, Calls Tryz.prog 66 #[.string ⟨#[48]⟩, .int .i64 r] wx fun e w' => e = .returned (.string Z) ∧ Below wx.heap.size wx w' := fun wx => by rw [hZ]; exact hrp wx
        have HRPZ := Lib.hid hrp2
        have HCH := Lib.hid (show Lib.decDigits (hi (dg (nd a)) (k + 1) n) ++ (Z ++ S2).data.toList = Lib.decDigits (hi (dg (nd a)) k n) by
          rw [HST.out k (by omega), ← hye, show y + 1000000000 * hi (dg (nd a)) (k + 1) n = hi (dg (nd a)) (k + 1) n * 1000000000 + y by omega, dec_chunk _ y (HNZ.out (k + 1) hgm) hx2, ba_append, hZ, hS2, hr, hsz2]
          have e9 : ∀ j, Lib.repeatL [48] j = List.replicate j 48 := fun j => by
            have := Lib.repeatL_replicate 48 1 j
            rw [Nat.mul_one] at this
            exact this
          rw [e9])
        have hadd : ∀ W, (Op.stringOp .add Z S2).run Tryz.prog W = .ok (.string (Z ++ S2)) W := fun W => run_string_add_sum W Z S2 (by
          rw [← hsz, hZ, ba_size, Lib.repeatL_length]; simp; omega)
        have HSL := Lib.hid (show (Lib.decDigits (hi (dg (nd a)) (k + 1) n)).length + (Z ++ S2).size ≤ 100000 by
          have h1 := HLEN.out (k + 1) (by omega)
          have h2 : (Z ++ S2).size = r + sz := by
            rw [ByteArray.size_append, ← hsz, hZ, ba_size, Lib.repeatL_length]; simp
          omega)
        clear hrp hrp2 hZ hr hsz hsz2 hS2 hF2 hye c2 hx2
        rw [show (((k + 1 : Nat) : Int) - 1) = (k : Int) by omega]
        have bk : k < n := by omega
        go_wp2_with (first | (go_at_call 64; refine (HWR.out _ (Z ++ S2) HSL.out w4 (Nat.le_trans HSW.out (Nat.le_trans HB3.out.size HB4.out.size)) ((HT.out.below HB3.out).below HB4.out)).mono ?_; rintro e w5 ⟨rfl, HBD5, HB5⟩) | (go_at_call 65; refine HF2.out.mono ?_; rintro e w3 ⟨rfl, HB3⟩) | (go_at_call 66; refine (HRPZ.out w3).mono ?_; rintro e w4 ⟨rfl, hb4⟩; have HB4 := Lib.hid hb4; clear hb4))
        go_roundg k
        case measure => omega
        case rel =>
          have hz3 := HB3.out.size
          have hz4 := HB4.out.size
          have hz5 := HB5.out.size
          exact ⟨congrArg (Value.int .i64) (by first | rfl | omega), by omega, Lib.hid (by rw [← HCH.out]; exact HBD5.out), Lib.hid (by have := HSW.out; omega), Lib.hid (((HBW.out.trans (HB3.out.mono HBW.out.size)).trans (HB4.out.mono (Nat.le_trans HBW.out.size hz3))).trans HB5.out)⟩
end Go.Proofs.YtgennilhbedmoaaGreatDoor
