/-
  nat: Div: the short ways.
  nat: Div: the long way.
  nat: Div: the walk of the long way.
-/
import Derived.Test.YtdbhlkejfecffaaGreatDoorSa23
/-
  nat: Div: the short ways.
-/
namespace Go.Proofs.YtdbhlkejfecffaaGreatDoor
open Go.RowKit KeepPlain

set_option maxRecDepth 100000 in
set_option maxHeartbeats 1600000 in
theorem div_less (a b : Nat) (u v : Value) (w : World) (hu : NV w u a) (hv : NV w v b) (hla : (nd a).length ≤ 500) (hlb : (nd b).length ≤ 500) (hab : a < b) :
    Calls Tryz.prog 87 #[u, v] w fun e w' => ∃ q r, e = .returned (.tuple #[q, r]) ∧ Hid (NV w' q 0) ∧ Hid (NV w' r a) ∧ Hid (Below w.heap.size w w') := by
  have HC := Lib.hid (cmp_any a b u v w hu hv (by omega) (by omega))
  have HCL := Lib.hid (fun wx (hb : Below w.heap.size w wx) => clone_any a u wx (hu.below hb) (by omega))
  have HZ := Lib.hid (show cmpZ (a : Int) (b : Int) = -1 by unfold cmpZ; rw [if_pos (by omega)])
  obtain ⟨A, c, rfl, -, -, -⟩ := RdU.open hu
  obtain ⟨B, d, rfl, -, -, -⟩ := RdU.open hv
  clear hu hv
  rw [HZ.out] at HC
  clear hab HZ
  go_enter Tryz.func87, Tryz.ntmps87
  go_wp2_with (first | (go_at_call 116; refine HC.out.mono ?_; rintro e w1 ⟨rfl, m, rfl⟩) | (go_at_call 114; refine (HCL.out _ (below_drawn w m)).mono ?_; rintro e w2 ⟨r, rfl, HN, HB⟩))
  go_ret2
  exact ⟨_, _, rfl, Lib.hid (NV.nil _), HN, Lib.hid ((below_drawn w m).trans HB.out)⟩
set_option maxRecDepth 100000 in
set_option maxHeartbeats 1600000 in
theorem div_short (a b : Nat) (u v : Value) (w : World) (hu : NV w u a) (hv : NV w v b) (hla : (nd a).length ≤ 500) (hlb : (nd b).length = 1) (hab : b ≤ a) :
    Calls Tryz.prog 87 #[u, v] w fun e w' => ∃ q r, e = .returned (.tuple #[q, r]) ∧ Hid (NV w' q (a / b)) ∧ Hid (NV w' r (a % b)) ∧ Hid (Below w.heap.size w w') := by
  have HC := Lib.hid (cmp_any a b u v w hu hv (by omega) (by omega))
  have hb1 : b < 1000000000 := by have := nd_lt_pow b; rwa [hlb, Nat.pow_one] at this
  have hb0 : 0 < b := by
    rcases Nat.eq_zero_or_pos b with e | e
    · rw [e, nd_zero] at hlb; simp at hlb
    · exact e
  have HBB := Lib.hid (And.intro hb0 hb1)
  have HU := Lib.hid hu
  obtain ⟨A, c, rfl, -, -, -⟩ := RdU.open hu
  obtain ⟨B, d, rfl, -, -, hB⟩ := RdU.open hv
  have HSH := Lib.hid (fun wx (hb : Below w.heap.size w wx) => short_any (nd a) b A (nd a).length c wx (RdU.below HU.out hb) (nd_lt a) (by omega) hb0 (by omega))
  have HOF := Lib.hid (fun x (h : x < 18446744073709551616) wx => of_any x h wx)
  rw [nv_nd] at HSH
  obtain ⟨b1, o, rfl, hbl, hc⟩ := hB 0 (by omega)
  rw [hlb] at HC hB ⊢
  have hd0 : dg (nd b) 0 = b := by
    have h1 := nv_nd b
    have h2 := nd_lt b
    match hnd : nd b, hlb with
    | [x], _ => rw [hnd] at h1; rw [nv_cons, nv_nil] at h1; show x = b; omega
  rw [hd0, Nat.add_zero] at hc
  have HCC := Lib.hid (fun wx (hb : Below w.heap.size w wx) => show wx.cell? ⟨b1, o, none⟩ = some (.int .u32 (b : Int)) by rw [hb.cell (p := ⟨b1, o, none⟩) hbl]; exact hc)
  have hcz : cmpZ (a : Int) (b : Int) = 0 ∨ cmpZ (a : Int) (b : Int) = 1 := by
    unfold cmpZ
    rw [if_neg (by omega)]
    by_cases h : (b : Int) < a
    · exact Or.inr (if_pos h)
    · exact Or.inl (if_neg h)
  have u1 : IntKind.u64.wrap (b : Int) = b := u64_in (by omega)
  clear hu hv hB hc hd0 hlb hb1 hb0 hab
  obtain ⟨z, hz⟩ : ∃ z, z = cmpZ (a : Int) (b : Int) := ⟨_, rfl⟩
  rw [← hz] at hcz HC
  clear hz
  rcases hcz with rfl | rfl
  all_goals
    go_enter Tryz.func87, Tryz.ntmps87
    go_wp2_with (first | (go_at_call 116; refine HC.out.mono ?_; rintro e w1 ⟨rfl, m, rfl⟩; have c1 := HCC.out _ (below_drawn w m)) | (go_at_call 117; refine (HSH.out _ (below_drawn w m)).mono ?_; rintro e w2 ⟨q, rfl, HN, HB⟩) | (go_at_call 65; refine (HOF.out (a % b) (Nat.lt_trans (Nat.lt_trans (Nat.mod_lt _ HBB.out.1) HBB.out.2) (by decide)) w2).mono ?_; rintro e w3 ⟨r, rfl, HN2, HB2⟩))
    go_ret2
    exact ⟨_, _, rfl, Lib.hid (HN.out.below HB2.out), HN2, Lib.hid (((below_drawn w m).trans HB.out).trans (HB2.out.mono HB.out.size))⟩
end Go.Proofs.YtdbhlkejfecffaaGreatDoor
/-
  nat: Div: the long way.
-/
namespace Go.Proofs.YtdbhlkejfecffaaGreatDoor
open Go.RowKit KeepPlain

/-- What the long division works on. -/
def LD (f a b n M : Nat) (g9 g11 : Nat) (v : Value) (k : Nat) (wx : World) : Prop :=
  ∃ U O : List Nat, Blk wx g9 (us U) 127 ∧ Blk wx g11 (us O) 127 ∧ NV wx v (f * b) ∧ (∀ x ∈ U, x < 1000000000) ∧ (∀ x ∈ O, x < 1000000000) ∧ U.length = M + n ∧ O.length = M ∧
    f * a = f * b * (1000000000 ^ k * hi (dg O) k M) + sv (dg U) (M + n) ∧ sv (dg U) (M + n) < f * b * 1000000000 ^ k
theorem nd_of_block {o : List Nat} {n x : Nat} (hl : o.length = n) (hd : ∀ y ∈ o, y < 1000000000) (hv : sv (dg o) n = x) (hx : 1000000000 ^ (n - 1) ≤ x) (hn : 0 < n) : o = nd x := by
  have h1 : nv o = x := by rw [← hv, nv_sv o n (by omega)]
  rw [← h1, nd_nv]
  refine ⟨hd, fun e => ?_⟩
  have e1 : dg o (n - 1) = 0 := by
    unfold dg
    rw [List.getLast?_eq_getElem?, hl] at e
    rw [List.getD_eq_getElem?_getD, e]; rfl
  have h2 : sv (dg o) n < 1000000000 ^ (n - 1) := by
    rw [show n = n - 1 + 1 by omega, sv_top e1]
    have := sv_lt (d := dg o) (n - 1) (fun j _ => dg_lt o hd j)
    simpa using this
  omega
/-- The start. -/
theorem LD.start {a b f n la g9 g11 : Nat} {v : Value} {wx : World} {U : List Nat} (ha : (nd a).length = la) (hb : (nd b).length = n) (hn : 2 ≤ n) (hnla : n ≤ la) (hf : 0 < f) (h9 : Blk wx g9 (us U) 127) (h11 : Blk wx g11 (us (List.replicate (la - n + 1) 0)) 127) (hv : NV wx v (f * b))
    (hd : ∀ x ∈ U, x < 1000000000) (hl : U.length = la + 1) (hs : sv (dg U) (la + 1) = f * a) : LD f a b n (la - n + 1) g9 g11 v (la - n + 1) wx := by
  have e1 : la - n + 1 + n = la + 1 := by clear hs hf; omega
  have hb2 : nd b ≠ [] := by intro e; rw [e] at hb; simp at hb; clear hs hf; omega
  have h3 := neat_pos (nd b) (nd_neat b) hb2
  rw [nv_nd, hb] at h3
  have h4 := nd_lt_pow a
  rw [ha] at h4
  have h5 : 1 ≤ n := by clear hs hf h3 h4; omega
  have h6 := long_start (m := f) hf h4 h3 hnla h5
  refine ⟨U, _, h9, h11, hv, hd, rep_lt _, by rw [e1]; exact hl, List.length_replicate, ?_, ?_⟩
  · rw [hi_end, Nat.mul_zero, Nat.mul_zero, Nat.zero_add, e1, hs]
  · rw [e1, hs]; exact h6
/-- One step: the window's quotient is a digit. -/
theorem ld_window {f a b n M k : Nat} {U : List Nat} (hU : ∀ x ∈ U, x < 1000000000) (hVn : (nd (f * b)).length = n) (hk : k < M) (hs : sv (dg U) (M + n) < f * b * 1000000000 ^ (k + 1)) :
    sv (fun j => dg U (k + j)) (n + 1) < 1000000000 * (f * b) ∧ sv (fun j => dg U (k + j)) (n + 1) / (f * b) < 1000000000 := by
  have hV : f * b < 1000000000 ^ n := by rw [← hVn]; exact nd_lt_pow _
  obtain ⟨-, h⟩ := window (u := dg U) (V := f * b) (k := k) (n := n) (N := M + n) (by omega) hV hs
  have h0 : 0 < f * b := by
    rcases Nat.eq_zero_or_pos (f * b) with e | e
    · rw [e] at h; omega
    · exact e
  have _ := hU
  have _ := a
  exact ⟨h, (Nat.div_lt_iff_lt_mul h0).2 h⟩
theorem LD.step {f a b n M k g9 g11 : Nat} {v : Value} {wx : World} {U U' O : List Nat} (hVn : (nd (f * b)).length = n) (hk : k < M)
    (h9 : Blk wx g9 (us U') 127) (h11 : Blk wx g11 (us (O.set k (sv (fun j => dg U (k + j)) (n + 1) / (f * b)))) 127) (hv : NV wx v (f * b)) (hU : ∀ x ∈ U, x < 1000000000) (hO : ∀ x ∈ O, x < 1000000000) (hUl : U.length = M + n) (hOl : O.length = M)
    (hA : f * a = f * b * (1000000000 ^ (k + 1) * hi (dg O) (k + 1) M) + sv (dg U) (M + n)) (hs : sv (dg U) (M + n) < f * b * 1000000000 ^ (k + 1)) (hw : Win U U' k (n + 1)) (hr : sv (fun j => dg U' (k + j)) (n + 1) = sv (fun j => dg U (k + j)) (n + 1) % (f * b)) : LD f a b n M g9 g11 v k wx := by
  have hV : f * b < 1000000000 ^ n := by rw [← hVn]; exact nd_lt_pow _
  obtain ⟨hq1, hq2⟩ := ld_window (a := a) hU hVn hk hs
  obtain ⟨w1, w2, w3, w4⟩ := hw
  obtain ⟨e1, e2⟩ := long_step (u := dg U) (u' := dg U') (A := f * a) (V := f * b) (k := k) (n := n) (N := M + n) (Q := hi (dg O) (k + 1) M) (by omega) hV hs hA w3 (sv_lt k (fun j _ => dg_lt U hU j)) (fun j hj => w4 j (by omega)) hr
  refine ⟨U', _, h9, h11, hv, w2, set_lt hO k _ hq2, by rw [w1, hUl], by simp [hOl], ?_, e2⟩
  rw [hi_step _ k M hk, dg_set O k _ (by omega), up_same, hi_congr (e := dg O) (fun j h1 _ => up_ne _ _ _ _ (by omega))]
  exact e1
/-- The end. -/
theorem LD.fin {f a b n M g9 g11 : Nat} {v : Value} {wx : World} (hf : 0 < f) (hVn : (nd (f * b)).length = n) (h : LD f a b n M g9 g11 v 0 wx) :
    ∃ U O : List Nat, Blk wx g9 (us U) 127 ∧ Blk wx g11 (us O) 127 ∧ (∀ x ∈ U, x < 1000000000) ∧ (∀ x ∈ O, x < 1000000000) ∧ U.length = M + n ∧ O.length = M ∧ nv O = a / b ∧ nv (U.take n) / f = a % b := by
  obtain ⟨U, O, h9, h11, -, hU, hO, hUl, hOl, hA, hs⟩ := h
  rw [Nat.pow_zero, Nat.one_mul, hi_zero] at hA
  rw [Nat.pow_zero, Nat.mul_one] at hs
  obtain ⟨e1, e2, e3⟩ := long_end hf hA hs
  have hV : f * b < 1000000000 ^ n := by rw [← hVn]; exact nd_lt_pow _
  have hz := fun j h1 h2 => high_zero (d := dg U) (n := n) (N := M + n) (Nat.lt_trans hs hV) j h1 h2
  refine ⟨U, O, h9, h11, hU, hO, hUl, hOl, by rw [← e1, nv_sv O M (by omega)], ?_⟩
  rw [nv_take U n (by omega), ← e3]
  congr 1
  rw [Nat.add_comm M n, sv_add, sv_zero M (fun j hj => hz _ (by omega) (by omega))]
  simp
end Go.Proofs.YtdbhlkejfecffaaGreatDoor
/-
  nat: Div: the walk of the long way.
-/
namespace Go.Proofs.YtdbhlkejfecffaaGreatDoor
open Go.RowKit KeepPlain

theorem long_facts {a b la n f : Nat} (hla : (nd a).length = la) (hn : (nd b).length = n) (hn2 : 2 ≤ n) (hf : f = 1000000000 / (dg (nd b) (n - 1) + 1)) : 0 < f ∧ f ≤ 1000000000 ∧ f * a < 1000000000 ^ (la + 1) ∧ f * b < 1000000000 ^ n ∧ 1000000000 ^ (n - 1) ≤ f * b := by
  have h0 := scale_pos (nd_dg_lt b (n - 1))
  rw [← hf] at h0
  have h1 := scale_fits (d := dg (nd b)) (n := n - 1) (fun j _ => nd_dg_lt b j)
  have e1 : n - 1 + 1 = n := by clear h1; omega
  rw [← hf, e1, nd_sv b n (Nat.le_of_eq hn)] at h1
  have hb2 : nd b ≠ [] := by intro e; rw [e] at hn; simp at hn; clear h1; omega
  have h2 := neat_pos (nd b) (nd_neat b) hb2
  rw [nv_nd, hn] at h2
  have h3 := nd_lt_pow a
  rw [hla] at h3
  refine ⟨h0.1, h0.2, ?_, h1, Nat.le_trans h2 (Nat.le_mul_of_pos_left b h0.1)⟩
  rw [pow_succ']
  exact Nat.lt_of_le_of_lt (Nat.mul_le_mul_right a h0.2) ((Nat.mul_lt_mul_left (by decide)).2 h3)
theorem own_ne {x y n c : Nat} (h : x ≠ y) : (Value.slice (some ⟨x, 0, none⟩) n c).ownBlock ≠ some y := by
  intro e
  exact h (by simpa [Value.ownBlock] using e)
set_option maxRecDepth 100000 in
set_option maxHeartbeats 6400000 in
theorem div_long (a b : Nat) (u v : Value) (w : World) (hu : NV w u a) (hv : NV w v b) (hla : (nd a).length ≤ 500) (hlb : 2 ≤ (nd b).length) (hab : b ≤ a) :
    Calls Tryz.prog 87 #[u, v] w fun e w' => ∃ q r, e = .returned (.tuple #[q, r]) ∧ Hid (NV w' q (a / b)) ∧ Hid (NV w' r (a % b)) ∧ Hid (Below w.heap.size w w') := by
  have hnla : (nd b).length ≤ (nd a).length := by
    rcases Nat.lt_or_ge (nd a).length (nd b).length with h | h
    · have := nd_len_lt h; omega
    · exact h
  have HC := Lib.hid (cmp_any a b u v w hu hv (by omega) (by omega))
  have hcz : cmpZ (a : Int) (b : Int) = 0 ∨ cmpZ (a : Int) (b : Int) = 1 := by
    unfold cmpZ
    rw [if_neg (by omega)]
    by_cases h : (b : Int) < a
    · exact Or.inr (if_pos h)
    · exact Or.inl (if_neg h)
  obtain ⟨z, hz⟩ : ∃ z, z = cmpZ (a : Int) (b : Int) := ⟨_, rfl⟩
  rw [← hz] at hcz HC
  have HU := Lib.hid hu
  have HV := Lib.hid hv
  obtain ⟨A, c, rfl, -, -, -⟩ := RdU.open hu
  obtain ⟨B, d, rfl, -, -, hB⟩ := RdU.open hv
  obtain ⟨la, hla1⟩ : ∃ la, la = (nd a).length := ⟨_, rfl⟩
  obtain ⟨n, hn1⟩ : ∃ n, n = (nd b).length := ⟨_, rfl⟩
  obtain ⟨nm, hnm⟩ : ∃ nm, nm = n - 1 := ⟨_, rfl⟩
  obtain ⟨f, hf⟩ : ∃ f, f = 1000000000 / (dg (nd b) nm + 1) := ⟨_, rfl⟩
  have HLF := Lib.hid (long_facts (a := a) (f := f) hla1.symm hn1.symm (by omega) (by rw [hf, hnm]))
  obtain ⟨la1, hla2⟩ : ∃ la1, la1 = la + 1 := ⟨_, rfl⟩
  obtain ⟨k0, hk0⟩ : ∃ k0, k0 = la - n := ⟨_, rfl⟩
  obtain ⟨M, hM⟩ : ∃ M, M = k0 + 1 := ⟨_, rfl⟩
  rw [← hla1] at HC HU hla hnla ⊢
  rw [← hn1] at HC HV hlb hnla hB ⊢
  obtain ⟨b1, o, rfl, hbl, hc⟩ := hB nm (by omega)
  have HBT := Lib.hid (fun wx (hb : Below w.heap.size w wx) => show wx.cell? ⟨b1, o + nm, none⟩ = some (.int .u32 (dg (nd b) nm : Nat)) by rw [hb.cell (p := ⟨b1, o + nm, none⟩) hbl]; exact hc)
  have hx := nd_dg_lt b nm
  have HSA := Lib.hid (fun wx (hb : Below w.heap.size w wx) => scaled_any a f la1 _ wx (HU.out.below hb) (by omega) (by omega) HLF.out.2.1 (by rw [hla2]; exact HLF.out.2.2.1))
  have HSB := Lib.hid (fun wx (hb : Below w.heap.size w wx) => scaled_any b f n _ wx (HV.out.below hb) (by omega) (by omega) HLF.out.2.1 HLF.out.2.2.2.1)
  generalize dg (nd b) nm = x at *
  have s1 : (n : Int) - 1 = (nm : Int) := by omega
  obtain ⟨x1, hx1⟩ : ∃ x1, x1 = x + 1 := ⟨_, rfl⟩
  have s2 : (x : Int) + 1 = (x1 : Int) := by omega
  have u1 : IntKind.u64.wrap (x : Int) = x := u64_in (by omega)
  have u2 : IntKind.u64.wrap (x1 : Int) = x1 := u64_in (by omega)
  have t1 : Int.tdiv 1000000000 (x1 : Int) = (f : Int) := by rw [hf, ← hx1]; exact tdiv_nat 1000000000 x1
  have t2 : (1000000000 : Int) / (x1 : Int) = (f : Int) := by rw [hf, ← hx1]; rfl
  have u3 : IntKind.u64.wrap (f : Int) = f := u64_in (by have := HLF.out.2.1; omega)
  have d0 : ((x1 : Int) == 0) = false := by simp; omega
  have d1 : (x1 : Int) ≠ 0 := by omega
  have s3 : (la : Int) + 1 = (la1 : Int) := by omega
  have s4 : (la : Int) - (n : Int) = (k0 : Int) := by omega
  have s5 : (k0 : Int) + 1 = (M : Int) := by omega
  have d2 : ((n : Int) == 1) = false := by simp; omega
  have HNUM := Lib.hid (show la ≤ 500 ∧ 2 ≤ n ∧ n ≤ la ∧ la1 = la + 1 ∧ k0 = la - n ∧ M = k0 + 1 ∧ nm = n - 1 from ⟨hla, hlb, hnla, hla2, hk0, hM, hnm⟩)
  have bn : nm < n := by omega
  have bnm : nm ≤ 500 := by omega
  have bM : M ≤ 501 := by omega
  have bla1 : la1 ≤ 501 := by omega
  have bn5 : n ≤ 500 := by omega
  have HLA := Lib.hid hla1
  have HLN := Lib.hid hn1
  clear hu hv hB hc hf hx hx1 hla hlb hnla hla2 hk0 hM hnm hla1 hn1 hz hab hbl
  rcases hcz with rfl | rfl
  all_goals
    go_enter Tryz.func87, Tryz.ntmps87
    go_wp2_with (first | (go_at_call 116; refine HC.out.mono ?_; rintro e w1 ⟨rfl, m, rfl⟩; have c1 := HBT.out _ (below_drawn w m)) | (go_at_call 118; refine (HSB.out w1 ((below_drawn w m).trans HB1.out)).mono ?_; rintro e w2 ⟨V, rfl, HKV, HVV, HB2⟩; have hm := makeU M M (Nat.le_refl _) (by omega) w2) | (go_at_call 118; refine (HSA.out _ (below_drawn w m)).mono ?_; rintro e w1 ⟨U, rfl, HKU, HUU, HB1⟩))
    have HNDV := Lib.hid (show V = nd (f * b) from nd_of_block HVV.out.1 HVV.out.2.1 HVV.out.2.2 HLF.out.2.2.2.2 (by have := HNUM.out; omega))
    have HVL := Lib.hid (show (nd (f * b)).length = n by rw [← HNDV.out]; exact HVV.out.1)
    have HNE := Lib.hid (show w.heap.size < w1.heap.size ∧ w1.heap.size < w2.heap.size from ⟨HKU.out.lt, HKV.out.lt⟩)
    have HBW2 := Lib.hid (show Below w.heap.size w w2 from ((below_drawn w m).trans HB1.out).trans (HB2.out.mono ((below_drawn w m).trans HB1.out).size))
    have HLD0 := Lib.hid (show LD f a b n M w.heap.size w2.heap.size (.slice (some ⟨w1.heap.size, 0, none⟩) n n) M (w2.alloc (.cells (us (List.replicate M 0)).toArray 127)) by
      obtain ⟨n1, n2, n3, n4, n5, n6, n7⟩ := HNUM.out
      have e : M = la - n + 1 := by omega
      rw [e]
      refine LD.start HLA.out.symm HLN.out.symm n2 n3 HLF.out.1 ((HKU.out.below HB2.out).alloc _) (news_blk w2 _ _) ?_ HUU.out.2.1 (by rw [HUU.out.1, n4]) (by rw [← n4]; exact HUU.out.2.2)
      have := blk_rdU HKV.out n n (by rw [HVV.out.1]) (Nat.le_refl _) (by unfold maxLen; omega)
      rw [HNDV.out] at this
      exact NV.below this ((Below.refl _ _).alloc (Nat.le_refl _) _))
    have HB3 := Lib.hid (show Below w.heap.size w (w2.alloc (.cells (us (List.replicate M 0)).toArray 127)) from HBW2.out.alloc HBW2.out.size _)
    have HDG := Lib.hid (fun k c U wx h1 h2 h3 h4 h5 h6 h7 h8 => digit_any w.heap.size k n c U (.slice (some ⟨w1.heap.size, 0, none⟩) n n) (f * b) wx h1 h2 h3 h4 h5 h6 h7 h8 (own_ne (by have := HNE.out; omega)) HVL.out)
    clear hm c1 HKU HUU HB1 HKV HVV HB2 HNDV HC HBT HSA HSB HU HV HLA HLN
    generalize w2.alloc (.cells (us (List.replicate M 0)).toArray 127) = w3 at *
    go_loopg [12] M (fun gk s12 wx => s12 = .int .i64 ((gk : Int) - 1) ∧ gk ≤ M ∧ Hid (LD f a b n M w.heap.size w2.heap.size (.slice (some ⟨w1.heap.size, 0, none⟩) n n) gk wx) ∧ Hid (Below w.heap.size w wx))
    case atStart => exact ⟨congrArg (Value.int .i64) (by first | rfl | omega), Nat.le_refl _, HLD0, HB3⟩
    case round =>
      obtain ⟨rfl, hgM, HLD, HBW⟩ := hrel
      cases gk with
      | zero =>
        obtain ⟨U, O, h9, h11, hU, hO, hUl, hOl, hq, hr⟩ := LD.fin HLF.out.1 HVL.out HLD.out
        obtain ⟨n1, n2, n3, n4, n5, n6, n7⟩ := HNUM.out
        have HRU := Lib.hid (show RdU wr (.slice (some ⟨w.heap.size, 0, none⟩) n la1) (U.take n) by
          have := rdu_blk h9 0 n la1 (by omega) (by omega) (by unfold maxLen; omega)
          rwa [List.drop_zero] at this)
        have HRO := Lib.hid (blk_rdU h11 M M (by omega) (Nat.le_refl _) (by unfold maxLen; omega))
        have HUT := Lib.hid (show ∀ x ∈ U.take n, x < 1000000000 from fun x hx => hU x (List.mem_of_mem_take hx))
        have HRL := Lib.hid (show (nd (nv (U.take n))).length ≤ n from nd_len_le _ n (by
          have h := nv_lt (U.take n) HUT.out
          rwa [List.length_take, Nat.min_eq_left (show n ≤ U.length by omega)] at h))
        have HSH := Lib.hid (fun A m c wx h1 h2 => short_any (nd (nv (U.take n))) f A m c wx h1 (nd_lt _) h2 HLF.out.1 HLF.out.2.1)
        rw [nv_nd] at HSH
        have HO := Lib.hid hO
        have HQ := Lib.hid hq
        have HR := Lib.hid hr
        obtain ⟨R, hR⟩ : ∃ R, R = nv (U.take n) := ⟨_, rfl⟩
        have HVR := Lib.hid hR.symm
        rw [← hR] at HSH HRL HR
        clear hR
        have HTU := Lib.hid (show Calls Tryz.prog 88 #[.slice (some ⟨w.heap.size, 0, none⟩) n la1] wr fun e w' => ∃ m, e = .returned (.slice (some ⟨w.heap.size, 0, none⟩) m la1) ∧ Hid (NV wr (.slice (some ⟨w.heap.size, 0, none⟩) m la1) R) ∧ w' = wr from by
          rw [← HVR.out]
          exact trim_any _ n la1 (U.take n) wr HRU.out HUT.out (by omega))
        clear h9 h11 hU hO hUl hOl hq hr n1 n2 n3 n4 n5 n6 n7
        go_wp2_with (first | (go_at_call 88; have _g := HBS; clear _g; refine (trim_any _ M M O w5 (RdU.below HRO.out HBS.out) HO.out (by omega)).mono ?_; rintro e w6 ⟨m2, rfl, HNO, hz⟩; subst w6) | (go_at_call 88; refine HTU.out.mono ?_; rintro e w4 ⟨m1, rfl, HNU, hz⟩; subst w4; have HM1 := Lib.hid (RdU.slice HNU.out).1) | (go_at_call 117; refine (HSH.out _ m1 la1 wr HNU.out (by have := HRL.out; have := HM1.out; omega)).mono ?_; rintro e w5 ⟨r, rfl, HNR, HBS⟩))
        go_ret2
        exact ⟨_, _, rfl, Lib.hid (by rw [← HQ.out]; exact HNO.out), Lib.hid (by rw [← HR.out]; exact HNR.out), Lib.hid (HBW.out.trans (HBS.out.mono HBW.out.size))⟩
      | succ k =>
        obtain ⟨U, O, hk9, hk11, hnv, hU, hO, hUl, hOl, hA, hs⟩ := HLD.out
        obtain ⟨h, hh⟩ : ∃ h, h = k + n := ⟨_, rfl⟩
        obtain ⟨h1, hh1⟩ : ∃ h1, h1 = h + 1 := ⟨_, rfl⟩
        have s6 : (k : Int) + (n : Int) = (h : Int) := by omega
        have s7 : (h : Int) + 1 = (h1 : Int) := by omega
        rw [show (((k + 1 : Nat) : Int) - 1) = (k : Int) by omega]
        have HH := Lib.hid (show h1 = k + n + 1 ∧ h1 ≤ la1 ∧ k < M by have := HNUM.out; omega)
        have bh1 : h1 ≤ la1 := HH.out.2.1
        have bk : k ≤ h1 := by omega
        have bkM : k < M := by omega
        have HUL := Lib.hid (show k + n + 1 ≤ U.length by omega)
        have c11 := blk_cellU hk11 k (by omega)
        have f11 := hk11.frozen k
        have HW := Lib.hid (ld_window (a := a) hU HVL.out bkM hs)
        have HU := Lib.hid hU
        have HO := Lib.hid hO
        have HK9 := Lib.hid hk9
        have HK11 := Lib.hid hk11
        have HNV := Lib.hid hnv
        have HUO := Lib.hid (And.intro hUl hOl)
        have HA := Lib.hid hA
        have HS := Lib.hid hs
        clear hk9 hk11 hnv hU hO hUl hOl hA hs hh hh1 HLD
        have HHK := Lib.hid (show h1 - k = n + 1 by have := HH.out.1; omega)
        have HCP := Lib.hid (show n + 1 ≤ la1 - k by have := HH.out; omega)
        have hdg := HDG.out k (la1 - k) U wr HK9.out HU.out HUL.out HCP.out (by omega) (by have := HNUM.out; omega) (by omega) HNV.out HW.out.1
        obtain ⟨q, hqe⟩ : ∃ q, q = sv (fun j => dg U (k + j)) (n + 1) / (f * b) := ⟨_, rfl⟩
        have hq := HW.out.2
        rw [← hqe] at hdg hq
        have HDD := Lib.hid hdg
        have HQE := Lib.hid hqe
        have v1 : (q : Int) % 4294967296 = q := by omega
        have v2 : IntKind.u32.wrap (q : Int) = q := u32_in (by omega)
        clear hdg hqe hq HDG
        go_wp2_with (go_at_call 119; rw [HHK.out]; refine HDD.out.mono ?_; rintro e w4 ⟨U', rfl, HK4, HW4, HR4, HP4⟩; refine Hid.out ?_)
        have HK11b := Lib.hid (HP4.out.blk HK11.out (by have := HNE.out; omega))
        have HNVb := Lib.hid (show NV w4 (.slice (some ⟨w1.heap.size, 0, none⟩) n n) (f * b) from HP4.out.rdU HNV.out (fun _ => own_ne (by have := HNE.out; omega)))
        have HST := Lib.hid (fun wx h9 h11 hv => LD.step (a := a) (f := f) (b := b) (n := n) (M := M) (k := k) (g9 := w.heap.size) (g11 := w2.heap.size) (v := .slice (some ⟨w1.heap.size, 0, none⟩) n n) (wx := wx) (U := U) (U' := U') (O := O) HVL.out HH.out.2.2 h9 h11 hv HU.out HO.out HUO.out.1 HUO.out.2 HA.out HS.out HW4.out HR4.out)
        have c11b := blk_cellU HK11b.out k (by rw [HUO.out.2]; exact HH.out.2.2)
        have f11b := HK11b.out.frozen k
        clear c11 f11
        refine Lib.hid ?_
        go_wp2
        go_roundg k
        case measure => omega
        case rel =>
          have hne := HNE.out
          refine ⟨congrArg (Value.int .i64) (by first | rfl | omega), by omega, Lib.hid (HST.out _ (HK4.out.far (show w.heap.size ≠ w2.heap.size by omega) _) (by rw [← HQE.out]; exact blk_setU HK11b.out k q) ?_), Lib.hid ((HP4.out.below HBW.out (Nat.le_refl _)).setCell (p := ⟨w2.heap.size, k, none⟩) (show w.heap.size ≤ w2.heap.size by omega) _)⟩
          exact RdV.far HNVb.out (own_ne (by omega)) k _
end Go.Proofs.YtdbhlkejfecffaaGreatDoor
