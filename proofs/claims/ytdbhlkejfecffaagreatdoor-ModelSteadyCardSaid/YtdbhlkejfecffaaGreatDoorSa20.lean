/-
  nat: Mul.
  nat: scaled, short.
-/
import Derived.Test.YtdbhlkejfecffaaGreatDoorSa19
/-
  nat: Mul.
-/
namespace Go.Proofs.YtdbhlkejfecffaaGreatDoor
open Go.RowKit KeepPlain

theorem mul_zero_any (a b : Nat) (u v : Value) (w : World) (hu : NV w u a) (hv : NV w v b) (hla : (nd a).length ≤ 1000) (hlb : (nd b).length ≤ 1000) (h0 : a = 0 ∨ b = 0) :
    Calls Tryz.prog 64 #[u, v] w fun e w' => e = .returned (.slice none 0 0) ∧ w' = w := by
  obtain ⟨A, c, rfl, -, -, hA⟩ := RdU.open hu
  obtain ⟨B, d, rfl, -, -, hB⟩ := RdU.open hv
  clear hu hv hA hB
  by_cases e : a = 0
  · subst e
    rw [nd_zero] at *
    simp only [List.length_nil]
    go_enter Tryz.func64, Tryz.ntmps64
    go_wp2
    go_ret
    exact ⟨rfl, rfl⟩
  · have eb : b = 0 := by omega
    subst eb
    have hl : (nd a).length ≠ 0 := fun h => e ((nd_nil_iff a).1 (List.length_eq_zero_iff.1 h))
    rw [nd_zero] at *
    simp only [List.length_nil]
    generalize (nd a).length = la at *
    have d0 : ((la : Int) == 0) = false := by simp; omega
    clear h0 e hl
    go_enter Tryz.func64, Tryz.ntmps64
    go_wp2
    go_ret
    exact ⟨rfl, rfl⟩
set_option maxRecDepth 100000 in
set_option maxHeartbeats 6400000 in
theorem mul_pos_any (a b : Nat) (u v : Value) (w : World) (hu : NV w u a) (hv : NV w v b) (hla : (nd a).length ≤ 1000) (hlb : (nd b).length ≤ 1000) (ha0 : a ≠ 0) (hb0 : b ≠ 0) :
    Calls Tryz.prog 64 #[u, v] w fun e w' => ∃ r, e = .returned r ∧ Hid (NV w' r (a * b)) ∧ Hid (Below w.heap.size w w') := by
  obtain ⟨A, c, rfl, -, -, hA⟩ := RdU.open hu
  obtain ⟨B, d, rfl, -, -, hB⟩ := RdU.open hv
  have HA := Lib.hid hA
  have HB := Lib.hid hB
  have HLA := Lib.hid hla
  have HLB := Lib.hid hlb
  have ha1 : (nd a).length ≠ 0 := fun h => ha0 ((nd_nil_iff a).1 (List.length_eq_zero_iff.1 h))
  have hb1 : (nd b).length ≠ 0 := fun h => hb0 ((nd_nil_iff b).1 (List.length_eq_zero_iff.1 h))
  have HVA := Lib.hid (nd_sv a (nd a).length (Nat.le_refl _))
  have HVB := Lib.hid (nd_sv b (nd b).length (Nat.le_refl _))
  have HTR := Lib.hid (fun A n c l wx (h1 : RdU wx (.slice A n c) l) h2 h3 => trim_any A n c l wx h1 h2 h3)
  clear hu hv hA hB ha0 hb0
  generalize (nd a).length = la at *
  generalize (nd b).length = lb at *
  obtain ⟨n, hn⟩ : ∃ n, n = la + lb := ⟨_, rfl⟩
  have s0 : (la : Int) + (lb : Int) = (n : Int) := by omega
  have w0n : wrap64 (n : Int) = n := wrap64_in (by omega)
  have hm := makeU n n (Nat.le_refl _) (by omega) w
  have HK0 := Lib.hid (news_blk w (us (List.replicate n 0)) 127)
  have HB0 := Lib.hid (show Below w.heap.size w (w.alloc (.cells (us (List.replicate n 0)).toArray 127)) from (Below.refl _ _).alloc (Nat.le_refl _) _)
  generalize w.alloc (.cells (us (List.replicate n 0)).toArray 127) = w0 at *
  have d1 : ((la : Int) == 0) = false := by simp; omega
  have d2 : ((lb : Int) == 0) = false := by simp; omega
  have HN := Lib.hid hn
  clear hn ha1 hb1
  go_enter Tryz.func64, Tryz.ntmps64
  go_wp2
  go_loopg [28] la (fun gk s28 wx => ∃ (i : Nat) (o : List Nat), s28 = .int .i64 i ∧ i ≤ la ∧ gk = la - i ∧ Hid ((∀ x ∈ o, x < 1000000000) ∧ o.length = n) ∧ Hid (sv (dg o) (i + lb) = sv (dg (nd a)) i * b) ∧ Hid (Blk wx w.heap.size (us o) 127) ∧ Hid (Below w.heap.size w wx))
  case atStart => exact ⟨0, List.replicate n 0, rfl, Nat.zero_le _, rfl, Lib.hid ⟨rep_lt n, by simp⟩, Lib.hid (by rw [sv_zero (d := dg (List.replicate n 0)) (0 + lb) (fun j _ => dg_replicate n j)]; exact (Nat.zero_mul b).symm), HK0, HB0⟩
  case round =>
    obtain ⟨i, o, rfl, hi, rfl, HL, HS, HK, HBW⟩ := hrel
    by_cases hlt : i < la
    · obtain ⟨b1, o1, rfl, hb1, c1⟩ := HA.out i hlt
      have c1' : wr.cell? ⟨b1, o1 + i, none⟩ = some (.int .u32 (dg (nd a) i : Nat)) := by rw [HBW.out.cell (p := ⟨b1, o1 + i, none⟩) hb1]; exact c1
      have HX := Lib.hid (nd_dg_lt a i)
      have HIL := Lib.hid (show i < 1000 ∧ i + lb < n by have := HN.out; omega)
      obtain ⟨x, hx⟩ : ∃ x, x = dg (nd a) i := ⟨_, rfl⟩
      rw [← hx] at c1' HX
      have HXX := Lib.hid hx
      clear c1 hx
      go_wp2
      go_loopg [8, 35] lb (fun gk s8 s35 wx => ∃ (k : Nat) (o : List Nat) (cy : Nat), s35 = .int .i64 k ∧ k ≤ lb ∧ gk = lb - k ∧ s8 = .int .u64 cy ∧ Hid (cy < 1000000000) ∧ Hid ((∀ x ∈ o, x < 1000000000) ∧ o.length = n) ∧ Hid (sv (dg o) (i + lb) + cy * 1000000000 ^ (i + k) = sv (dg (nd a)) i * b + x * 1000000000 ^ i * sv (dg (nd b)) k) ∧ Hid (Blk wx w.heap.size (us o) 127) ∧ Hid (Below w.heap.size w wx))
      case atStart => exact ⟨0, o, 0, rfl, Nat.zero_le _, rfl, rfl, Lib.hid (by omega), HL, Lib.hid (by rw [Nat.zero_mul, Nat.add_zero, HS.out]; show _ = _ + x * 1000000000 ^ i * 0; rw [Nat.mul_zero, Nat.add_zero]), HK, HBW⟩
      case round =>
        obtain ⟨k, o, cy, rfl, hk, rfl, rfl, HCY, HL, HS, HK, HBW⟩ := hrel
        obtain ⟨m, hm2⟩ : ∃ m, m = i + k := ⟨_, rfl⟩
        have s1 : (i : Int) + (k : Int) = (m : Int) := by omega
        have w1 : wrap64 (m : Int) = m := wrap64_in (by have := HIL.out; have := HLB.out; omega)
        by_cases hkl : k < lb
        · obtain ⟨b2, o2, rfl, hb2, c2⟩ := HB.out k hkl
          have c2' : wr.cell? ⟨b2, o2 + k, none⟩ = some (.int .u32 (dg (nd b) k : Nat)) := by rw [HBW.out.cell (p := ⟨b2, o2 + k, none⟩) hb2]; exact c2
          have hmn : m < n := by have := HIL.out; omega
          have hoc := blk_cellU HK.out m (by rw [HL.out.2]; exact hmn)
          have hof := HK.out.frozen m
          have hbd := mul_bound HX.out (nd_dg_lt b k) (dg_lt o HL.out.1 m) HCY.out
          have HT := Lib.hid (mul_step (o := dg o) (b := dg (nd b)) (i := i) (k := k) (n := i + lb) (x := x) (c := cy) (by omega) HS.out)
          have HMO := Lib.hid (show m < o.length by rw [HL.out.2]; exact hmn)
          rw [← hm2] at HT
          have hxl := HX.out
          have hyl := nd_dg_lt b k
          have hzl := dg_lt o HL.out.1 m
          generalize dg (nd b) k = y at c2' hbd HT hyl
          generalize dg o m = z at hoc hbd HT hzl
          obtain ⟨p, hp⟩ : ∃ p, p = x * y := ⟨_, rfl⟩
          obtain ⟨t1, ht1⟩ : ∃ t1, t1 = p + z := ⟨_, rfl⟩
          obtain ⟨t, ht⟩ : ∃ t, t = t1 + cy := ⟨_, rfl⟩
          rw [← hp, ← ht1, ← ht] at hbd HT
          have s2 : (x : Int) * (y : Int) = (p : Int) := by rw [hp]; push_cast; rfl
          have s3 : (p : Int) + (z : Int) = (t1 : Int) := by omega
          have s4 : (t1 : Int) + (cy : Int) = (t : Int) := by omega
          have u1 : IntKind.u64.wrap (x : Int) = x := u64_in (by omega)
          have u2 : IntKind.u64.wrap (y : Int) = y := u64_in (by omega)
          have u3 : IntKind.u64.wrap (z : Int) = z := u64_in (by omega)
          have u4 : IntKind.u64.wrap (p : Int) = p := u64_in (by omega)
          have u5 : IntKind.u64.wrap (t1 : Int) = t1 := u64_in (by omega)
          have u6 : IntKind.u64.wrap (t : Int) = t := u64_in (by omega)
          have w3 : Int.tdiv (t : Int) 1000000000 = ((t / 1000000000 : Nat) : Int) := tdiv_nat t 1000000000
          have w4 : Int.tmod (t : Int) 1000000000 = ((t % 1000000000 : Nat) : Int) := tmod_nat t 1000000000
          have w5 : (t : Int) / 1000000000 = ((t / 1000000000 : Nat) : Int) := rfl
          have w6 : (t : Int) % 1000000000 = ((t % 1000000000 : Nat) : Int) := rfl
          have hr : t % 1000000000 < 1000000000 := by omega
          have HR := Lib.hid hr
          have HQ := Lib.hid hbd.2
          have w9 : IntKind.u64.wrap ((t / 1000000000 : Nat) : Int) = ((t / 1000000000 : Nat) : Int) := u64_in (by omega)
          generalize t / 1000000000 = q at *
          generalize t % 1000000000 = r at *
          have w7 : (r : Int) % 4294967296 = r := by omega
          have w8 : IntKind.u32.wrap (r : Int) = r := u32_in (by omega)
          have HM2 := Lib.hid hm2
          clear hp ht1 ht hbd hr hxl hyl hzl c2 hm2
          go_wp2
          go_roundg (lb - (k + 1))
          case measure => omega
          case rel =>
            obtain ⟨hl1, hl2⟩ := HL.out
            exact ⟨k + 1, o.set m r, q, congrArg (Value.int .i64) (by omega), by omega, rfl, rfl, HQ, Lib.hid ⟨set_lt hl1 m r HR.out, by simp [hl2]⟩, Lib.hid (by have := HT.out; rw [dg_set o m r HMO.out, ← Nat.add_assoc, ← HM2.out]; exact this), Lib.hid (blk_setU HK.out m r), Lib.hid (HBW.out.setCell (p := ⟨w.heap.size, m, none⟩) (Nat.le_refl _) _)⟩
        · have : k = lb := by omega
          subst this
          have hmn : m < n := by have := HIL.out; omega
          have hoc := blk_cellU HK.out m (by rw [HL.out.2]; exact hmn)
          have hof := HK.out.frozen m
          have HMO := Lib.hid (show m < o.length by rw [HL.out.2]; exact hmn)
          have HT := Lib.hid (mul_row (o := dg o) (b := dg (nd b)) (a := dg (nd a)) (i := i) (m := k) (c := cy) (T := sv (dg (nd a)) i * b) (by rw [HVB.out]) (by rw [← HXX.out]; exact HS.out))
          have hcy := HCY.out
          have w7 : (cy : Int) % 4294967296 = cy := by omega
          have w8 : IntKind.u32.wrap (cy : Int) = cy := u32_in (by omega)
          have HM2 := Lib.hid hm2
          clear hcy hm2
          go_wp2
          go_roundg (la - (i + 1))
          case measure => omega
          case rel =>
            obtain ⟨hl1, hl2⟩ := HL.out
            exact ⟨i + 1, o.set m cy, congrArg (Value.int .i64) (by omega), by omega, rfl, Lib.hid ⟨set_lt hl1 m cy HCY.out, by simp [hl2]⟩, Lib.hid (by have := HT.out; rw [HVB.out, ← HM2.out] at this; rw [dg_set o m cy HMO.out]; exact this), Lib.hid (blk_setU HK.out m cy), Lib.hid (HBW.out.setCell (p := ⟨w.heap.size, m, none⟩) (Nat.le_refl _) _)⟩
    · have : i = la := by omega
      subst this
      obtain ⟨hl1, hl2⟩ := HL.out
      have HV := Lib.hid (show nv o = a * b by
        have := HS.out
        rw [HVA.out, ← HN.out] at this
        rw [← this, nv_sv o n (by omega)])
      have HRD := Lib.hid (blk_rdU HK.out n n (by omega) (Nat.le_refl _) (by unfold maxLen; have := HN.out; omega))
      have HLT := Lib.hid hl1
      have HNL := Lib.hid (show n ≤ 100000 by have := HN.out; omega)
      clear hl1 hl2
      go_wp2_with (go_at_call 88; refine (HTR.out _ _ _ o wr HRD.out HLT.out HNL.out).mono ?_; rintro e wz ⟨m, rfl, HNV, hz⟩; subst wz)
      go_ret
      exact ⟨_, rfl, Lib.hid (by rw [← HV.out]; exact HNV.out), HBW⟩
theorem mul_any (a b : Nat) (u v : Value) (w : World) (hu : NV w u a) (hv : NV w v b) (hla : (nd a).length ≤ 1000) (hlb : (nd b).length ≤ 1000) :
    Calls Tryz.prog 64 #[u, v] w fun e w' => ∃ r, e = .returned r ∧ Hid (NV w' r (a * b)) ∧ Hid (Below w.heap.size w w') := by
  by_cases h : a = 0 ∨ b = 0
  · refine (mul_zero_any a b u v w hu hv hla hlb h).mono ?_
    rintro e w' ⟨rfl, hw⟩
    subst hw
    refine ⟨_, rfl, Lib.hid ?_, Lib.hid (Below.refl _ _)⟩
    have : a * b = 0 := by rcases h with rfl | rfl <;> simp
    rw [this]; exact NV.nil _
  · exact mul_pos_any a b u v w hu hv hla hlb (fun e => h (Or.inl e)) (fun e => h (Or.inr e))
end Go.Proofs.YtdbhlkejfecffaaGreatDoor
/-
  nat: scaled, short.
-/
namespace Go.Proofs.YtdbhlkejfecffaaGreatDoor
open Go.RowKit KeepPlain


set_option maxRecDepth 100000 in
set_option maxHeartbeats 6400000 in
theorem scaled_any (a f n : Nat) (u : Value) (w : World) (hu : NV w u a) (hla : (nd a).length ≤ n) (hn : n ≤ 2000) (hf : f ≤ 1000000000) (hfit : f * a < 1000000000 ^ n) :
    Calls Tryz.prog 118 #[u, .int .u64 f, .int .i64 n] w fun e w' => ∃ o, e = .returned (.slice (some ⟨w.heap.size, 0, none⟩) n n) ∧ Hid (Blk w' w.heap.size (us o) 127) ∧ Hid (o.length = n ∧ (∀ x ∈ o, x < 1000000000) ∧ sv (dg o) n = f * a) ∧ Hid (Below w.heap.size w w') := by
  obtain ⟨A, c, rfl, -, -, hA⟩ := RdU.open hu
  have HA := Lib.hid hA
  have HN := Lib.hid hn
  have HFI := Lib.hid hfit
  have HVA := Lib.hid (nd_sv a n hla)
  have HDA := Lib.hid (fun i (h : (nd a).length ≤ i) => dg_far (nd a) i h)
  have hm := makeU n n (Nat.le_refl _) (by omega) w
  have HK0 := Lib.hid (news_blk w (us (List.replicate n 0)) 127)
  have HB0 := Lib.hid (show Below w.heap.size w (w.alloc (.cells (us (List.replicate n 0)).toArray 127)) from (Below.refl _ _).alloc (Nat.le_refl _) _)
  have HF := Lib.hid hf
  clear hu hA hfit hla
  generalize (nd a).length = la at *
  generalize w.alloc (.cells (us (List.replicate n 0)).toArray 127) = w0 at *
  go_enter Tryz.func118, Tryz.ntmps118
  go_wp2
  go_loopg [8, 15] n (fun gk s8 s15 wx => ∃ (i : Nat) (o : List Nat) (cy : Nat), s15 = .int .i64 i ∧ i ≤ n ∧ gk = n - i ∧ s8 = .int .u64 cy ∧ Hid (cy < 1000000000) ∧ Hid ((∀ x ∈ o, x < 1000000000) ∧ o.length = n) ∧ Hid (sv (dg o) i + cy * 1000000000 ^ i = f * sv (dg (nd a)) i) ∧ Hid (Blk wx w.heap.size (us o) 127) ∧ Hid (Below w.heap.size w wx))
  case atStart => exact ⟨0, List.replicate n 0, 0, rfl, Nat.zero_le _, rfl, rfl, Lib.hid (by omega), Lib.hid ⟨rep_lt n, by simp⟩, Lib.hid (by simp [sv]), HK0, HB0⟩
  case round =>
    obtain ⟨i, o, cy, rfl, hi, rfl, rfl, HCY, HL, HS, HK, HBW⟩ := hrel
    by_cases hlt : i < n
    · have HX := Lib.hid (nd_dg_lt a i)
      have hoc := blk_cellU HK.out i (by rw [HL.out.2]; exact hlt)
      have hof := HK.out.frozen i
      have HIL := Lib.hid (show i < n from hlt)
      have HT := Lib.hid (fun (o' : List Nat) (h1 : ∀ j, j < i → dg o' j = dg o j) (h2 : dg o' i = (cy + dg (nd a) i * f) % 1000000000) => scale_step (o := dg o') (a := dg (nd a)) (i := i) (c := cy) (m := f) (by rw [sv_congr i h1]; exact HS.out) h2)
      have hbd := scale_bound HX.out HF.out HCY.out
      have hcy := HCY.out
      by_cases hia : i < la
      · obtain ⟨b1, o1, rfl, hb1, c1⟩ := HA.out i hia
        have c1' : wr.cell? ⟨b1, o1 + i, none⟩ = some (.int .u32 (dg (nd a) i : Nat)) := by rw [HBW.out.cell (p := ⟨b1, o1 + i, none⟩) hb1]; exact c1
        have hx := HX.out
        generalize dg (nd a) i = x at c1' HT hbd hx
        obtain ⟨p, hp⟩ : ∃ p, p = x * f := ⟨_, rfl⟩
        obtain ⟨t, ht⟩ : ∃ t, t = cy + p := ⟨_, rfl⟩
        rw [← hp, ← ht] at hbd HT
        have s2 : (x : Int) * (f : Int) = (p : Int) := by rw [hp]; push_cast; rfl
        have s3 : (cy : Int) + (p : Int) = (t : Int) := by omega
        have u1 : IntKind.u64.wrap (x : Int) = x := u64_in (by omega)
        have u4 : IntKind.u64.wrap (p : Int) = p := u64_in (by omega)
        have u6 : IntKind.u64.wrap (t : Int) = t := u64_in (by omega)
        have w3 : Int.tdiv (t : Int) 1000000000 = ((t / 1000000000 : Nat) : Int) := tdiv_nat t 1000000000
        have w4 : Int.tmod (t : Int) 1000000000 = ((t % 1000000000 : Nat) : Int) := tmod_nat t 1000000000
        have w5 : (t : Int) / 1000000000 = ((t / 1000000000 : Nat) : Int) := rfl
        have w6 : (t : Int) % 1000000000 = ((t % 1000000000 : Nat) : Int) := rfl
        have hr : t % 1000000000 < 1000000000 := by omega
        have HR := Lib.hid hr
        have HQ := Lib.hid hbd.2
        have w9 : IntKind.u64.wrap ((t / 1000000000 : Nat) : Int) = ((t / 1000000000 : Nat) : Int) := u64_in (by omega)
        generalize t / 1000000000 = q at *
        generalize t % 1000000000 = r at *
        have w7 : (r : Int) % 4294967296 = r := by omega
        have w8 : IntKind.u32.wrap (r : Int) = r := u32_in (by omega)
        clear hp ht hbd hr hx c1 hcy
        go_wp2
        go_roundg (n - (i + 1))
        case measure => omega
        case rel =>
          obtain ⟨hl1, hl2⟩ := HL.out
          have hil := HIL.out
          exact ⟨i + 1, o.set i r, q, congrArg (Value.int .i64) (by omega), by omega, rfl, rfl, HQ, Lib.hid ⟨set_lt hl1 i r HR.out, by simp [hl2]⟩, Lib.hid (HT.out (o.set i r) (fun j hj => by rw [dg_set o i r (by omega), up_ne _ _ _ _ (by omega)]) (by rw [dg_set o i r (by omega), up_same])), Lib.hid (blk_setU HK.out i r), Lib.hid (HBW.out.setCell (p := ⟨w.heap.size, i, none⟩) (Nat.le_refl _) _)⟩
      · rw [HDA.out i (by omega)] at HT
        have hia' : ¬ ((i : Int) < (la : Int)) := by omega
        obtain ⟨t, ht⟩ : ∃ t, t = cy := ⟨_, rfl⟩
        rw [show cy + 0 * f = t by rw [ht]; simp] at HT
        rw [← ht]
        rw [← ht] at HCY
        have hty : t < 1000000000 := HCY.out
        have w3 : Int.tdiv (t : Int) 1000000000 = ((t / 1000000000 : Nat) : Int) := tdiv_nat t 1000000000
        have w4 : Int.tmod (t : Int) 1000000000 = ((t % 1000000000 : Nat) : Int) := tmod_nat t 1000000000
        have w5 : (t : Int) / 1000000000 = ((t / 1000000000 : Nat) : Int) := rfl
        have w6 : (t : Int) % 1000000000 = ((t % 1000000000 : Nat) : Int) := rfl
        have hr : t % 1000000000 < 1000000000 := by omega
        have HR := Lib.hid hr
        have HQ := Lib.hid (show t / 1000000000 < 1000000000 by omega)
        have w9 : IntKind.u64.wrap ((t / 1000000000 : Nat) : Int) = ((t / 1000000000 : Nat) : Int) := u64_in (by omega)
        generalize t / 1000000000 = q at *
        generalize t % 1000000000 = r at *
        have w7 : (r : Int) % 4294967296 = r := by omega
        have w8 : IntKind.u32.wrap (r : Int) = r := u32_in (by omega)
        clear ht hbd hr hcy hty
        go_wp2
        go_roundg (n - (i + 1))
        case measure => omega
        case rel =>
          obtain ⟨hl1, hl2⟩ := HL.out
          have hil := HIL.out
          exact ⟨i + 1, o.set i r, q, congrArg (Value.int .i64) (by omega), by omega, rfl, rfl, HQ, Lib.hid ⟨set_lt hl1 i r HR.out, by simp [hl2]⟩, Lib.hid (HT.out (o.set i r) (fun j hj => by rw [dg_set o i r (by omega), up_ne _ _ _ _ (by omega)]) (by rw [dg_set o i r (by omega), up_same])), Lib.hid (blk_setU HK.out i r), Lib.hid (HBW.out.setCell (p := ⟨w.heap.size, i, none⟩) (Nat.le_refl _) _)⟩
    · have : i = n := by omega
      subst this
      have HE := Lib.hid (show sv (dg o) i = f * a by
        have := HS.out
        rw [HVA.out] at this
        exact (carry_zero this HFI.out).2)
      go_wp2
      go_ret
      exact ⟨o, rfl, HK, Lib.hid ⟨HL.out.2, HL.out.1, HE.out⟩, HBW⟩
set_option maxRecDepth 100000 in
set_option maxHeartbeats 6400000 in
theorem short_any (l : List Nat) (f : Nat) (A : Option Addr) (n c : Nat) (w : World) (hu : RdU w (.slice A n c) l) (hd : ∀ x ∈ l, x < 1000000000) (hn : n ≤ 2000) (hf0 : 0 < f) (hf : f ≤ 1000000000) :
    Calls Tryz.prog 117 #[.slice A n c, .int .u64 f] w fun e w' => ∃ r, e = .returned (.tuple #[r, .int .u64 (nv l % f : Nat)]) ∧ Hid (NV w' r (nv l / f)) ∧ Hid (Below w.heap.size w w') := by
  obtain ⟨rfl, -, -, hA⟩ := hu.slice
  have HA := Lib.hid hA
  have HD := Lib.hid hd
  have HN := Lib.hid hn
  have HF0 := Lib.hid hf0
  have HF := Lib.hid hf
  have HTR := Lib.hid (fun A n c l wx (h1 : RdU wx (.slice A n c) l) h2 h3 => trim_any A n c l wx h1 h2 h3)
  have HNV := Lib.hid (show sv (dg l) l.length = nv l from rfl)
  generalize nv l = V at *
  obtain ⟨n, hnn⟩ : ∃ n, n = l.length := ⟨_, rfl⟩
  rw [← hnn] at HA HN HNV hn ⊢
  have hm := makeU n n (Nat.le_refl _) (by omega) w
  have HK0 := Lib.hid (news_blk w (us (List.replicate n 0)) 127)
  have HB0 := Lib.hid (show Below w.heap.size w (w.alloc (.cells (us (List.replicate n 0)).toArray 127)) from (Below.refl _ _).alloc (Nat.le_refl _) _)
  generalize w.alloc (.cells (us (List.replicate n 0)).toArray 127) = w0 at *
  have d0 : ((f : Int) == 0) = false := by simp; omega
  have d1 : (f : Int) ≠ 0 := by omega
  clear hu hA hd hnn hf0
  go_enter Tryz.func117, Tryz.ntmps117
  go_wp2
  go_loopg [7, 8] n (fun gk s7 s8 wx => ∃ (o : List Nat) (r : Nat), s8 = .int .i64 ((gk : Int) - 1) ∧ gk ≤ n ∧ s7 = .int .u64 r ∧ Hid (r < f) ∧ Hid ((∀ x ∈ o, x < 1000000000) ∧ o.length = n) ∧ Hid (hi (dg l) gk n = f * hi (dg o) gk n + r) ∧ Hid (Blk wx w.heap.size (us o) 127) ∧ Hid (Below w.heap.size w wx))
  case atStart => exact ⟨List.replicate n 0, 0, congrArg (Value.int .i64) (by first | rfl | omega | exact wrap64_in (by have := HN.out; omega)), Nat.le_refl _, rfl, HF0, Lib.hid ⟨rep_lt n, by simp⟩, Lib.hid (by rw [hi_end, hi_end]; rfl), HK0, HB0⟩
  case round =>
    obtain ⟨o, r, rfl, hgn, rfl, HR, HL, HS, HK, HBW⟩ := hrel
    cases gk with
    | zero =>
      have HE := Lib.hid (show nv o = V / f ∧ r = V % f by
        have h := HS.out
        rw [hi_zero, hi_zero, HNV.out] at h
        have h2 : sv (dg o) n = nv o := nv_sv o n (by rw [HL.out.2]; exact Nat.le_refl _)
        rw [h2] at h
        have h3 := HR.out
        have h4 : V / f = nv o := by rw [h, Nat.mul_add_div HF0.out, Nat.div_eq_of_lt h3]; omega
        have h5 : V % f = r := by rw [h, Nat.mul_add_mod, Nat.mod_eq_of_lt h3]
        exact ⟨h4.symm, h5.symm⟩)
      have HRD := Lib.hid (blk_rdU HK.out n n (by rw [HL.out.2]) (Nat.le_refl _) (by unfold maxLen; have := HN.out; omega))
      have HLT := Lib.hid HL.out.1
      have HNL := Lib.hid (show n ≤ 100000 by have := HN.out; omega)
      go_wp2_with (go_at_call 88; refine (HTR.out _ _ _ o wr HRD.out HLT.out HNL.out).mono ?_; rintro e wz ⟨m, rfl, HNV2, hz⟩; subst wz)
      go_ret2
      exact ⟨_, by rw [HE.out.2]; rfl, Lib.hid (by rw [← HE.out.1]; exact HNV2.out), HBW⟩
    | succ k =>
      obtain ⟨b1, o1, rfl, hb1, c1⟩ := HA.out k (by omega)
      have c1' : wr.cell? ⟨b1, o1 + k, none⟩ = some (.int .u32 (dg l k : Nat)) := by rw [HBW.out.cell (p := ⟨b1, o1 + k, none⟩) hb1]; exact c1
      have hoc := blk_cellU HK.out k (by rw [HL.out.2]; omega)
      have hof := HK.out.frozen k
      have hbd := short_bound HR.out HF.out (dg_lt l HD.out k)
      have HT := Lib.hid (fun (o' : List Nat) (h1 : ∀ j, k + 1 ≤ j → j < n → dg o' j = dg o j) (h2 : dg o' k = (r * 1000000000 + dg l k) / f) => short_step (o := dg o') (a := dg l) (k := k) (n := n) (m := f) (r := r) HF0.out (by omega) (by rw [hi_congr h1]; exact HS.out) h2)
      rw [show (((k + 1 : Nat) : Int) - 1) = (k : Int) by omega]
      have hx := dg_lt l HD.out k
      have hr := HR.out
      generalize dg l k = x at c1' hbd HT hx
      obtain ⟨p, hp⟩ : ∃ p, p = r * 1000000000 := ⟨_, rfl⟩
      obtain ⟨t, ht⟩ : ∃ t, t = p + x := ⟨_, rfl⟩
      rw [← hp, ← ht] at hbd HT
      have s2 : (r : Int) * 1000000000 = (p : Int) := by omega
      have s3 : (p : Int) + (x : Int) = (t : Int) := by omega
      have u1 : IntKind.u64.wrap (x : Int) = x := u64_in (by omega)
      have u4 : IntKind.u64.wrap (p : Int) = p := u64_in (by omega)
      have u6 : IntKind.u64.wrap (t : Int) = t := u64_in (by omega)
      have w3 : Int.tdiv (t : Int) (f : Int) = ((t / f : Nat) : Int) := tdiv_nat t f
      have w4 : Int.tmod (t : Int) (f : Int) = ((t % f : Nat) : Int) := tmod_nat t f
      have w5 : (t : Int) / (f : Int) = ((t / f : Nat) : Int) := rfl
      have w6 : (t : Int) % (f : Int) = ((t % f : Nat) : Int) := rfl
      have HQ := Lib.hid hbd.2.1
      have HR2 := Lib.hid hbd.2.2
      have hq1 := hbd.2.1
      have hq2 := hbd.2.2
      generalize t / f = q at *
      generalize t % f = r2 at *
      have w7 : (q : Int) % 4294967296 = q := by omega
      have w8 : IntKind.u32.wrap (q : Int) = q := u32_in (by omega)
      have w9 : IntKind.u64.wrap (q : Int) = q := u64_in (by omega)
      have w10 : IntKind.u64.wrap (r2 : Int) = r2 := u64_in (by omega)
      have b1' : (k : Int) < n := by omega
      have b2' : k < n := by omega
      have HKN := Lib.hid b2'
      clear hp ht hbd hx c1 hr hq1 hq2
      go_wp2
      go_region
      go_wp2
      go_roundg k
      case measure => omega
      case rel =>
        obtain ⟨hl1, hl2⟩ := HL.out
        have hil := HKN.out
        exact ⟨o.set k q, r2, congrArg (Value.int .i64) (by first | rfl | omega | exact wrap64_in (by have := HN.out; omega)), by omega, rfl, HR2, Lib.hid ⟨set_lt hl1 k q HQ.out, by simp [hl2]⟩, Lib.hid (HT.out (o.set k q) (fun j hj _ => by rw [dg_set o k q (by omega), up_ne _ _ _ _ (by omega)]) (by rw [dg_set o k q (by omega), up_same])), Lib.hid (blk_setU HK.out k q).drew, Lib.hid (HBW.out.setCell (p := ⟨w.heap.size, k, none⟩) (Nat.le_refl _) _).drew⟩
end Go.Proofs.YtdbhlkejfecffaaGreatDoor
