/-
  frac: Of and Rat.
  num: Check of the texts of a number.
  num: two, and Add.
  frac: Quotient; num: Make.
  The sizes of sums, products and quotients; the rules of arithmetic; texts of numbers with many digits.
  weftmake: Reduced.
  The stream: a number with many digits.
  The stream: Long.
  The stream: Rat.
-/
import Derived.Test.YtdbhlkejfecffaaGreatDoorSa7
import Derived.Test.YtdbhlkejfecffaaGreatDoorSa8
import Derived.Test.YtdbhlkejfecffaaGreatDoorSa25
import Derived.Test.YtdbhlkejfecffaaGreatDoorSa26
/-
  frac: Of and Rat.
-/
namespace Go.Proofs.YtdbhlkejfecffaaGreatDoor
open Go.RowKit KeepPlain

/-- A rational number as two texts. -/
def RT (q : Rat) : Value := .agg #[.string ⟨(Lib.itoa q.num).toArray⟩, .string ⟨(Lib.decDigits q.den).toArray⟩]
theorem dec_len_nd {x k : Nat} (h : (nd x).length ≤ k) : (Lib.decDigits x).length ≤ 9 * k + 1 := by
  rcases Nat.eq_zero_or_pos k with e | e
  · subst e
    have : x = 0 := (nd_nil_iff x).1 (List.length_eq_zero_iff.1 (by omega))
    rw [this, dec_small (by omega)]; simp
  · have h1 := nd_lt_pow x
    have h2 : 1000000000 ^ (nd x).length ≤ 1000000000 ^ k := Nat.pow_le_pow_right (by decide) h
    have h3 : (1000000000 : Nat) ^ k = 10 ^ (9 * k) := by rw [show (1000000000 : Nat) = 10 ^ 9 from rfl, ← Nat.pow_mul]
    have := dec_len_le x (9 * k) (by omega) (by rw [← h3]; exact Nat.lt_of_lt_of_le h1 h2)
    omega
theorem results_rat {fn : Func} {a : Tmp} (hf : fn.results = #[.cell a 51]) (tmps : Array Value) (w : World) (r : Nat) (x y : Value) (hr : tmps.getD a undef = .pointer (some ⟨r, 0, none⟩)) (h : Blk w r [x, y] 51) :
    (results fn tmps).run Tryz.prog w = .ok (.agg #[x, y]) w :=
  results_cell_row (P := Tryz.prog) hf tmps w r 51 #[x, y] (0, 0) _ hr h Tryz.underlying51 rfl (by kernel_rfl)
theorem run_load_rat {w : World} {r : Nat} {x y : Value} (h : Blk w r [x, y] 51) : (loadVar 51 ⟨r, 0, none⟩).run Tryz.prog w = .ok (.agg #[x, y]) w :=
  run_loadVar_row (P := Tryz.prog) w r 51 51 #[x, y] (0, 0) _ h Tryz.underlying51 rfl (by kernel_rfl)
theorem results_rat2 {fn : Func} {a u : Tmp} (hf : fn.results = #[.cell a 51, .tmp u]) (tmps : Array Value) (w : World) (r : Nat) (x y : Value) (hr : tmps.getD a undef = .pointer (some ⟨r, 0, none⟩)) (h : Blk w r [x, y] 51) :
    (results fn tmps).run Tryz.prog w = .ok (.tuple #[.agg #[x, y], tmps.getD u undef]) w := by
  rw [results_cell_tmp hf, hr]
  simp only [asAddr, Sem.run_pure, Result.andThen_ok]
  rw [run_load_rat h]
  rfl
def setR (w : World) (r : Nat) (x y : Value) : World := (w.setCell ⟨r, 0, none⟩ x).setCell ⟨r, 1, none⟩ y
theorem belowR (w : World) (r : Nat) (x y : Value) : Below r w (setR w r x y) :=
  ((Below.refl r w).setCell (p := ⟨r, 0, none⟩) (Nat.le_refl r) x).setCell (p := ⟨r, 1, none⟩) (Nat.le_refl r) y
theorem blkR (w : World) (x y x' y' : Value) (r : Nat) (h : Blk w r [x, y] 51) : Blk (setR w r x' y') r [x', y'] 51 := (h.set 0 _).set 1 _
set_option maxRecDepth 100000 in
set_option maxHeartbeats 3200000 in
theorem rat_any (q : Rat) (hs : Sz q 500) (v : Value) (w : World) (h : FV w v q) (ht : Pow10 w) : Calls Tryz.prog 42 #[v] w fun e w' => e = .returned (RT q) ∧ Hid (Below w.heap.size w w') := by
  obtain ⟨u, d, rfl, hu, hd⟩ := h
  obtain ⟨w0, hw0, hb0, hk0, hk1⟩ : ∃ w0, (w.alloc (.cells #[.bool (decide (q.num < 0)), u, d] 85)).alloc (.cells #[.string ⟨#[]⟩, .string ⟨#[]⟩] 51) = w0 ∧ Below w.heap.size w w0 ∧ Blk w0 w.heap.size [.bool (decide (q.num < 0)), u, d] 85 ∧ Blk w0 (w.heap.size + 1) [.string ⟨#[]⟩, .string ⟨#[]⟩] 51 := by
    refine ⟨_, rfl, ((Below.refl _ _).alloc (Nat.le_refl _) _).alloc (by simp only [World.size_alloc]; omega) _, (news_blk w [.bool (decide (q.num < 0)), u, d] 85).alloc _, ?_⟩
    have := news_blk (w.alloc (.cells #[.bool (decide (q.num < 0)), u, d] 85)) [.string ⟨#[]⟩, .string ⟨#[]⟩] 51
    simp only [World.size_alloc] at this
    exact this
  have HB0 := Lib.hid hb0
  have HK1 := Lib.hid hk1
  have HQ := Lib.hid (fun (wx : World) (hb : Below w0.heap.size w0 wx) => (hk0.below hb).cell)
  have q0 := hk0.cell
  have HS := Lib.hid (string_any q.num.natAbs u w0 (hu.below hb0) hs.1 (ht.below hb0))
  have HT := Lib.hid (fun wx (hb : Below w0.heap.size w0 wx) => string_any q.den d wx ((hd.below hb0).below hb) hs.2 ((ht.below hb0).below hb))
  have hlen := dec_len_nd hs.1
  obtain ⟨A1, c1, rfl⟩ := hu.shape
  obtain ⟨A2, c2, rfl⟩ := hd.shape
  clear hb0 hk0 hk1 hu hd hs ht
  unfold RT
  generalize (nd q.num.natAbs).length = l1 at *
  generalize (nd q.den).length = l2 at *
  by_cases hn : q.num < 0
  · have HI := Lib.hid (show (⟨(Lib.itoa q.num).toArray⟩ : ByteArray) = ⟨#[45]⟩ ++ ⟨(Lib.decDigits q.num.natAbs).toArray⟩ by
      rw [itoa_neg' hn]
      apply ByteArray.ext
      simp [ByteArray.data_append])
    have hadd : ∀ W, (Op.stringOp .add ⟨#[45]⟩ ⟨(Lib.decDigits q.num.natAbs).toArray⟩).run Tryz.prog W = .ok (.string (⟨#[45]⟩ ++ ⟨(Lib.decDigits q.num.natAbs).toArray⟩)) W := fun W => run_string_add_sum W _ _ (by
      have e1 : ((⟨#[45]⟩ : ByteArray)).size = 1 := rfl
      have e2 := ba_size (Lib.decDigits q.num.natAbs)
      omega)
    rw [HI.out]
    rw [decide_eq_true hn] at HQ q0
    simp only [decide_eq_true hn] at hw0 ⊢
    generalize (⟨(Lib.decDigits q.num.natAbs).toArray⟩ : ByteArray) = NS at *
    generalize (⟨(Lib.decDigits q.den).toArray⟩ : ByteArray) = DS at *
    clear hn hlen HI
    go_enter Tryz.func42, Tryz.ntmps42
    go_wp2_with (first | (go_at_call 54; have _g := HB1; clear _g; refine (HT.out w1 HB1.out).mono ?_; rintro e w2 ⟨rfl, HB2⟩; have HK2 := Lib.hid ((HK1.out.below HB1.out).below HB2.out); have q2 := HK2.out.cell; have r2 := HK2.out.frozen) | (go_at_call 54; refine HS.out.mono ?_; rintro e w1 ⟨rfl, HB1⟩; have q1 := HQ.out w1 HB1.out))
    refine bodyPost_ret (results_rat rfl _ _ (w.heap.size + 1) _ _ rfl (blkR w2 _ _ _ _ _ HK2.out)) rfl ?_
    exact ⟨rfl, Lib.hid (((HB0.out.trans (HB1.out.mono HB0.out.size)).trans (HB2.out.mono (Nat.le_trans HB0.out.size HB1.out.size))).trans ((belowR _ _ _ _).mono (by omega)))⟩
  · have HI := itoa_pos' hn
    rw [HI]
    clear HI
    rw [decide_eq_false hn] at HQ q0
    simp only [decide_eq_false hn] at hw0 ⊢
    generalize (⟨(Lib.decDigits q.num.natAbs).toArray⟩ : ByteArray) = NS at *
    generalize (⟨(Lib.decDigits q.den).toArray⟩ : ByteArray) = DS at *
    clear hn hlen
    go_enter Tryz.func42, Tryz.ntmps42
    go_wp2_with (first | (go_at_call 54; have _g := HB1; clear _g; refine (HT.out w1 HB1.out).mono ?_; rintro e w2 ⟨rfl, HB2⟩; have HK2 := Lib.hid ((HK1.out.below HB1.out).below HB2.out); have q2 := HK2.out.cell; have r2 := HK2.out.frozen) | (go_at_call 54; refine HS.out.mono ?_; rintro e w1 ⟨rfl, HB1⟩; have q1 := HQ.out w1 HB1.out))
    refine bodyPost_ret (results_rat rfl _ _ (w.heap.size + 1) _ _ rfl (blkR w2 _ _ _ _ _ HK2.out)) rfl ?_
    exact ⟨rfl, Lib.hid (((HB0.out.trans (HB1.out.mono HB0.out.size)).trans (HB2.out.mono (Nat.le_trans HB0.out.size HB1.out.size))).trans ((belowR _ _ _ _).mono (by omega)))⟩
end Go.Proofs.YtdbhlkejfecffaaGreatDoor
/-
  num: Check of the texts of a number.
-/
namespace Go.Proofs.YtdbhlkejfecffaaGreatDoor
open Go.RowKit KeepPlain

theorem dec_is (u k : Nat) (hk : k < 10) : ((⟨(Lib.decDigits u).toArray⟩ : ByteArray).toList == [UInt8.ofNat (48 + k)]) = decide (u = k) := by
  have e : (⟨(Lib.decDigits u).toArray⟩ : ByteArray).toList = Lib.decDigits u := by rw [ByteArray.toList_eq]
  rw [e, ← dec_small hk]
  by_cases h : u = k
  · subst h; simp
  · rw [decide_eq_false h]
    exact beq_eq_false_iff_ne.2 (fun h2 => h (dec_inj h2))
theorem rat_den_one {q : Rat} (h : q.num = 0) : q.den = 1 := by
  have := q.reduced
  rw [h] at this
  simpa using this
end Go.Proofs.YtdbhlkejfecffaaGreatDoor
/-
  num: two, and Add.
-/
namespace Go.Proofs.YtdbhlkejfecffaaGreatDoor
open Go.RowKit KeepPlain

theorem results_rat3 {fn : Func} {a u : Tmp} (hf : fn.results = #[.cell a 51, .tmp u]) (tmps : Array Value) (w : World) (r : Nat) (x y z : Value) (hr : tmps.getD a undef = .pointer (some ⟨r, 0, none⟩)) (hu : tmps.getD u undef = z) (h : Blk w r [x, y] 51) :
    (results fn tmps).run Tryz.prog w = .ok (.tuple #[.agg #[x, y], z]) w := by rw [← hu]; exact results_rat2 hf tmps w r x y hr h
/-- What a function of two numbers answers. -/
def Two (F : Nat) (qa qb qc : Rat) : Prop := ∀ (a b : Value) (w : World), FV w a qa → FV w b qb → Calls Tryz.prog F #[a, b] w fun e w' => ∃ v, e = .returned v ∧ Hid (FV w' v qc) ∧ Hid (Below w.heap.size w w')
end Go.Proofs.YtdbhlkejfecffaaGreatDoor
/-
  frac: Quotient; num: Make.
-/
namespace Go.Proofs.YtdbhlkejfecffaaGreatDoor
open Go.RowKit KeepPlain

theorem sz_nat (x : Nat) (h : x < 9223372036854775808) : Sz (x : Rat) 200 := by
  have h1 : (nd x).length ≤ 200 := Nat.le_trans (nd_len_le x 3 (Nat.lt_of_lt_of_le h (by decide))) (by decide)
  exact ⟨by simpa using h1, by simpa using (Nat.le_trans (nd_len_le 1 3 (by decide)) (by decide) : (nd 1).length ≤ 200)⟩
set_option maxRecDepth 100000 in
set_option maxHeartbeats 1600000 in
theorem quotient_any (x y : Nat) (hx : x < 9223372036854775808) (hy : y < 9223372036854775808) (h0 : y ≠ 0) (w : World) : Calls Tryz.prog 41 #[.int .i64 x, .int .i64 y] w fun e w' => ∃ v, e = .returned v ∧ Hid (FV w' v ((x : Rat) / (y : Rat))) ∧ Hid (Below w.heap.size w w') := by
  obtain ⟨w0, hw0, hb0, hk0⟩ := newF w
  have HB0 := Lib.hid hb0
  have HK0 := Lib.hid hk0
  have HI := Lib.hid (int_any x hx w0)
  have HJ := Lib.hid (fun wx => int_any y hy wx)
  have hq : (y : Rat) ≠ 0 := fun h => h0 (by exact_mod_cast h)
  have HD := Lib.hid (fun a b wx (ha : FV wx a (x : Rat)) (hb : FV wx b (y : Rat)) => fdiv_any _ _ a b wx ha hb (sz_nat x hx) (sz_nat y hy) hq)
  clear hb0 hk0 hx hy h0 hq
  generalize (x : Rat) / (y : Rat) = q at *
  generalize (x : Rat) = qx at *
  generalize (y : Rat) = qy at *
  go_enter Tryz.func41, Tryz.ntmps41
  go_wp2_with (first | (go_at_call 52; have _g := HB2; clear _g; refine (HD.out _ _ w2 (HF1.out.below HB2.out) HF2.out).mono ?_; rintro e w3 ⟨r3, rfl, HF3, HB3⟩; obtain ⟨u3, d3, rfl, n7, n8⟩ := HF3.out; obtain ⟨g7, c7, rfl⟩ := n7.shape; obtain ⟨g8, c8, rfl⟩ := n8.shape; have HN7 := Lib.hid n7; have HN8 := Lib.hid n8; clear n7 n8; have HK3 := Lib.hid (((HK0.out.below HB1.out).below HB2.out).below HB3.out); have q3 := Blk.cell HK3.out; have r3 := Blk.frozen HK3.out) | (go_at_call 53; have _g := HB1; clear _g; refine (HJ.out w1).mono ?_; rintro e w2 ⟨r2, rfl, HF2, HB2⟩) | (go_at_call 53; refine HI.out.mono ?_; rintro e w1 ⟨r1, rfl, HF1, HB1⟩))
  refine bodyPost_ret (results_frac rfl _ _ w.heap.size _ _ _ rfl (blk3 w3 _ _ _ _ _ _ _ HK3.out)) rfl ?_
  exact ⟨_, rfl, Lib.hid ⟨_, _, rfl, nvF HN7.out HK3.out _ _ _, nvF HN8.out HK3.out _ _ _⟩, Lib.hid ((((HB0.out.trans (HB1.out.mono HB0.out.size)).trans (HB2.out.mono (Nat.le_trans HB0.out.size HB1.out.size))).trans (HB3.out.mono (Nat.le_trans (Nat.le_trans HB0.out.size HB1.out.size) HB2.out.size))).trans (belowF _ _ _ _ _))⟩
set_option maxRecDepth 100000 in
set_option maxHeartbeats 1600000 in
theorem make_any (x y : Nat) (hx : x < 9223372036854775808) (hy : y < 9223372036854775808) (h0 : y ≠ 0) (hs : Sz ((x : Rat) / (y : Rat)) 500) (w : World) (ht : Pow10 w) : Calls Tryz.prog 23 #[.int .i64 x, .int .i64 y] w fun e w' => e = .returned (.tuple #[RT ((x : Rat) / (y : Rat)), .int .i64 0]) ∧ Hid (Below w.heap.size w w') := by
  obtain ⟨w0, hw0, hb0, hk0⟩ : ∃ w0, w.alloc (.cells #[.string ⟨#[]⟩, .string ⟨#[]⟩] 51) = w0 ∧ Below w.heap.size w w0 ∧ Blk w0 w.heap.size [.string ⟨#[]⟩, .string ⟨#[]⟩] 51 := ⟨_, rfl, (Below.refl _ _).alloc (Nat.le_refl _) _, heap_alloc_new w _⟩
  have HB0 := Lib.hid hb0
  have HK0 := Lib.hid hk0
  have HQ := Lib.hid (quotient_any x y hx hy h0 w0)
  have HP := Lib.hid (fun (wx : World) (hb : Below w0.heap.size w0 wx) => (ht.below hb0).below hb)
  have HR := Lib.hid (fun v wx (h : FV wx v ((x : Rat) / (y : Rat))) (hp : Pow10 wx) => rat_any _ hs v wx h hp)
  generalize (x : Rat) / (y : Rat) = q at *
  unfold RT at HR ⊢
  generalize (⟨(Lib.itoa q.num).toArray⟩ : ByteArray) = NC at *
  generalize (⟨(Lib.decDigits q.den).toArray⟩ : ByteArray) = DC at *
  have hy0 : ¬ ((y : Int) = 0) := by omega
  clear hb0 hk0 ht hs
  go_enter Tryz.func23, Tryz.ntmps23
  go_wp2_with (first | (go_at_call 41; refine HQ.out.mono ?_; rintro e w1 ⟨v1, rfl, HF1, HB1⟩) | (go_at_call 42; refine (HR.out _ w1 HF1.out (HP.out _ HB1.out)).mono ?_; rintro e w2 ⟨rfl, HB2⟩; have HK2 := Lib.hid ((HK0.out.below HB1.out).below HB2.out); have q2 := HK2.out.cell; have r2 := HK2.out.frozen))
  refine bodyPost_ret (results_rat2 rfl _ _ w.heap.size _ _ rfl (blkR w2 _ _ _ _ _ HK2.out)) rfl ?_
  exact ⟨rfl, Lib.hid (((HB0.out.trans (HB1.out.mono HB0.out.size)).trans (HB2.out.mono (Nat.le_trans HB0.out.size HB1.out.size))).trans (belowR _ _ _ _))⟩
end Go.Proofs.YtdbhlkejfecffaaGreatDoor
/-
  The sizes of sums, products and quotients; the rules of arithmetic; texts of numbers with many digits.
-/
namespace Go.Proofs.YtdbhlkejfecffaaGreatDoor
open Go.RowKit KeepPlain

theorem sz_mk (x : Int) (d : Nat) (k : Nat) (hd : d ≠ 0) (h1 : (nd x.natAbs).length ≤ k) (h2 : (nd d).length ≤ k) : Sz (mkRat x d) k := by
  refine ⟨?_, ?_⟩
  · refine Nat.le_trans (nd_len_mono ?_) h1
    rw [Rat.num_mkRat, if_neg hd]
    exact Int.natAbs_ediv_le_natAbs _ _
  · refine Nat.le_trans (nd_len_mono ?_) h2
    rw [Rat.den_mkRat, if_neg hd]
    exact Nat.div_le_self _ _
theorem sg_len (neg : Bool) (n k : Nat) (h : (nd n).length ≤ k) : (nd (sg neg n).natAbs).length ≤ k := by rw [sg_abs]; exact h
theorem sz_mul {a b : Rat} {i j : Nat} (ha : Sz a i) (hb : Sz b j) : Sz (a * b) (i + j) := by
  rw [rat_mul]
  exact sz_mk _ _ _ (Nat.mul_ne_zero a.den_nz b.den_nz) (sg_len _ _ _ (nd_mul_len ha.1 hb.1)) (nd_mul_len ha.2 hb.2)
theorem sz_div {a b : Rat} {i j : Nat} (ha : Sz a i) (hb : Sz b j) (h0 : b ≠ 0) : Sz (a / b) (i + j) := by
  rw [rat_div a b h0]
  have hnb : b.num.natAbs ≠ 0 := fun e => h0 (Rat.num_eq_zero.1 (by omega))
  exact sz_mk _ _ _ (Nat.mul_ne_zero a.den_nz hnb) (sg_len _ _ _ (nd_mul_len ha.1 hb.2)) (nd_mul_len ha.2 hb.1)
theorem sz_mono {a : Rat} {i j : Nat} (h : Sz a i) (hj : i ≤ j) : Sz a j := ⟨Nat.le_trans h.1 hj, Nat.le_trans h.2 hj⟩
theorem sz_add {a b : Rat} {i j : Nat} (ha : Sz a i) (hb : Sz b j) : Sz (a + b) (i + j + 1) := by
  rw [rat_add]
  refine sz_mk _ _ _ (Nat.mul_ne_zero a.den_nz b.den_nz) ?_ (Nat.le_trans (nd_mul_len ha.2 hb.2) (by omega))
  refine Nat.le_trans (nd_len_mono (Int.natAbs_add_le _ _)) ?_
  rw [sg_abs, sg_abs]
  refine nd_add_len (nd_mul_len ha.1 hb.2) ?_
  have := nd_mul_len hb.1 ha.2
  omega
theorem sz_neg {a : Rat} {i : Nat} (ha : Sz a i) : Sz (-a) i := ⟨by rw [Rat.neg_num, Int.natAbs_neg]; exact ha.1, by rw [Rat.neg_den]; exact ha.2⟩
theorem sz_sub {a b : Rat} {i j : Nat} (ha : Sz a i) (hb : Sz b j) : Sz (a - b) (i + j + 1) := by
  rw [Rat.sub_eq_add_neg]; exact sz_add ha (sz_neg hb)
theorem field_1 (a b c : Rat) : (a + b) * c = a * c + b * c := Rat.add_mul a b c
theorem field_2 (a b : Rat) : a + b - b = a := by
  rw [Rat.sub_eq_add_neg, Rat.add_assoc, Rat.add_neg_cancel, Rat.add_zero]
theorem field_3 (a c : Rat) (h : c ≠ 0) : a * c / c = a := Rat.mul_div_cancel h
/-- The digits of a power of ten. -/
theorem dec_ten : ∀ k : Nat, Lib.decDigits (10 ^ k) = 49 :: List.replicate k 48
  | 0 => by rw [Nat.pow_zero, dec_small (by omega)]; rfl
  | k + 1 => by
    have h0 : 0 < 10 ^ k := Nat.pow_pos (by omega)
    rw [Nat.pow_succ, dec_big (by omega), show 10 ^ k * 10 / 10 = 10 ^ k by omega, show 10 ^ k * 10 % 10 = 0 by omega, dec_ten k, List.replicate_succ']
    rfl
theorem dec_long (k : Nat) : Lib.decDigits (10 ^ (k + 1) + 1) = 49 :: (List.replicate k 48 ++ [49]) := by
  have h0 : 0 < 10 ^ k := Nat.pow_pos (by omega)
  rw [Nat.pow_succ, dec_big (by omega), show (10 ^ k * 10 + 1) / 10 = 10 ^ k by omega, show (10 ^ k * 10 + 1) % 10 = 1 by omega, dec_ten k]
  rfl
/-- A number with many digits is odd. -/
theorem long_cop (k s : Nat) : Nat.Coprime (10 ^ (k + 1) + 1) (2 ^ s) := by
  refine Nat.Coprime.pow_right s (Nat.Coprime.symm ?_)
  have h : (10 ^ (k + 1) + 1) % 2 = 1 := by rw [Nat.pow_succ]; omega
  show Nat.gcd 2 _ = 1
  rw [Nat.gcd_rec, h]; exact Nat.gcd_one_left 2
end Go.Proofs.YtdbhlkejfecffaaGreatDoor
/-
  weftmake: Reduced.
-/
namespace Go.Proofs.YtdbhlkejfecffaaGreatDoor
open Go.RowKit KeepPlain

theorem below_grow (w : World) (k : Nat) (os : Array Obj) : Below w.heap.size w (Sort.grow (w.drewN k) os) :=
  ⟨rfl, rfl, rfl, by simp [Sort.grow, World.drewN], fun b hb => by simp [Sort.grow, World.drewN, Array.getElem?_append_left hb]⟩
theorem itoa_nat (n : Nat) : Lib.itoa (n : Int) = Lib.decDigits n := by rw [itoa_pos' (by omega)]; rfl
theorem red_num (n : Int) (d : Nat) (hd : d ≠ 0) : (mkRat n d).num = n.tdiv ((Nat.gcd n.natAbs d : Nat) : Int) ∧ (((mkRat n d).den : Nat) : Int) = (d : Int).tdiv ((Nat.gcd n.natAbs d : Nat) : Int) := by
  rw [Rat.num_mkRat, if_neg hd, Rat.den_mkRat, if_neg hd, Nat.gcd_comm d]
  refine ⟨?_, ?_⟩
  · rw [Int.tdiv_eq_ediv_of_dvd]
    exact Int.ofNat_dvd_left.2 (Nat.gcd_dvd_left _ _)
  · rw [Int.tdiv_eq_ediv_of_nonneg (Int.natCast_nonneg _)]; rfl
theorem tdiv_range (n : Int) (g : Nat) (B : Int) (h : -B ≤ n ∧ n ≤ B) (hB : 0 ≤ B) : -B ≤ n.tdiv g ∧ n.tdiv g ≤ B := by
  have h1 : (n.tdiv g).natAbs ≤ n.natAbs := by rw [Int.natAbs_tdiv]; exact Nat.div_le_self _ _
  omega
end Go.Proofs.YtdbhlkejfecffaaGreatDoor
/-
  The stream: a number with many digits.
-/
namespace Go.Proofs.YtdbhlkejfecffaaGreatDoor
open Go.RowKit KeepPlain

/-- One byte is appended to a row of bytes. -/
theorem wpList_appB {w : World} {ops : Array Oper} {rest : List Oper} {o : Oper} {a : Act} {Q : Exit → Act → World → Prop} (hgd : o.guard = none) (s x : Operand)
    (ho : o.op = .call { callee := .builtin .append, args := #[s, x], argTypes := #[119, 119] })
    (base : Nat) (v : Value) (n : Nat) (l : List UInt8) (hs : a.eval s = v) (hown : w.ownsRow base 5 1 v n (Lib.byteCells l))
    (u : UInt8) (b : Nat) (hx : a.eval x = .slice (some ⟨b, 0, none⟩) 1 1) (hc : w.cell? ⟨b, 0, none⟩ = some (.int .u8 u.toNat)) (hlen : n ≤ 1000) (hbase : base ≤ w.heap.size)
    (h : ∀ g cap w', w'.ownsRow base 5 1 (.slice (some ⟨g, 0, none⟩) (n + 1) cap) (n + 1) (Lib.byteCells (l ++ [u])) → Below base w w' → wpList Tryz.prog ops Q rest (a.put o.dst (.slice (some ⟨g, 0, none⟩) (n + 1) cap)) w') : wpList Tryz.prog ops Q (o :: rest) a w := by
  obtain ⟨i0, hi, hz0, hz1, hz2⟩ := info_parts info5
  exact wpList_append_lies w hgd s x 119 ho base 5 i0 (.int .u8 0) 1 1 Tryz.underlying119 hi hz0 hz1 hz2 rfl (by decide) v n _ hs hown ⟨b, 0, none⟩ 1 1 [.int .u8 u.toNat] hx rfl (fun j y hj => by
    have : j = 0 := by
      have := (List.getElem?_eq_some_iff.1 hj).1
      simp at this; exact this
    subst this
    have e : y = .int .u8 u.toNat := by simpa using hj.symm
    rw [e]; exact hc) (one_int _ _) Nat.one_pos (by unfold maxLen; omega) (by omega) hbase _ rfl (fun g cap w' h2 h3 _ _ => h g cap w' (by simpa [Lib.byteCells] using h2) (Below.ofGrown h3 hbase (ownsRow_base hown)))
/-- The number that is made. -/
def longQ (neg : Bool) (k s : Nat) : Rat := mkRat (sg neg (10 ^ (k + 1) + 1)) (2 ^ s)
theorem longQ_parts (neg : Bool) (k s : Nat) : (longQ neg k s).num = sg neg (10 ^ (k + 1) + 1) ∧ (longQ neg k s).den = 2 ^ s := by
  have hd : (2 : Nat) ^ s ≠ 0 := Nat.ne_of_gt (Nat.pow_pos (by omega))
  have hg : Nat.gcd (2 ^ s) (sg neg (10 ^ (k + 1) + 1)).natAbs = 1 := by rw [sg_abs, Nat.gcd_comm]; exact long_cop k s
  unfold longQ
  rw [Rat.num_mkRat, if_neg hd, Rat.den_mkRat, if_neg hd, hg]
  exact ⟨Int.ediv_one _, Nat.div_one _⟩
theorem longQ_sz (neg : Bool) (k s : Nat) (hk : k ≤ 60) (hs : s ≤ 20) : Sz (longQ neg k s) 8 := by
  obtain ⟨h1, h2⟩ := longQ_parts neg k s
  unfold Sz
  rw [h1, h2, sg_abs]
  refine ⟨nd_len_le _ 8 ?_, nd_len_le _ 8 ?_⟩
  · have h3 : (10 : Nat) ^ (k + 1) ≤ 10 ^ 61 := Nat.pow_le_pow_right (by decide) (by omega)
    exact Nat.lt_of_le_of_lt (Nat.add_le_add_right h3 1) (by decide)
  · have h3 : (2 : Nat) ^ s ≤ 2 ^ 20 := Nat.pow_le_pow_right (by decide) hs
    exact Nat.lt_of_le_of_lt h3 (by decide)
theorem longQ_rt (neg : Bool) (k s : Nat) : RT (longQ neg k s) = .agg #[.string ⟨((if neg then [45] else []) ++ Lib.decDigits (10 ^ (k + 1) + 1)).toArray⟩, .string ⟨(Lib.decDigits (2 ^ s)).toArray⟩] := by
  obtain ⟨h1, h2⟩ := longQ_parts neg k s
  unfold RT
  rw [h1, h2]
  cases neg
  · rw [show sg false (10 ^ (k + 1) + 1) = ((10 ^ (k + 1) + 1 : Nat) : Int) from rfl, itoa_nat]; rfl
  · rw [itoa_neg' (show sg true (10 ^ (k + 1) + 1) < 0 from Int.neg_neg_of_pos (Int.natCast_pos.2 (Nat.succ_pos _))), sg_abs]; rfl
end Go.Proofs.YtdbhlkejfecffaaGreatDoor
/-
  The stream: Long.
-/
namespace Go.Proofs.YtdbhlkejfecffaaGreatDoor
open Go.RowKit KeepPlain

theorem neg_bytes (l : List UInt8) : (⟨([45] ++ l).toArray⟩ : ByteArray) = ⟨#[45]⟩ ++ ⟨l.toArray⟩ := by
  apply ByteArray.ext
  simp [ByteArray.data_append]
theorem shl_one (s : Nat) (hs : s ≤ 20) : wrap64 ((2 : Int) ^ min s 64) = ((2 ^ s : Nat) : Int) := by
  rw [Nat.min_eq_left (by omega), show (2 : Int) ^ s = ((2 ^ s : Nat) : Int) by rw [Int.natCast_pow]; rfl]
  exact wrap64_in ⟨Int.le_trans (by decide) (Int.natCast_nonneg _), Int.le_trans (Int.ofNat_le.2 (show (2 : Nat) ^ s ≤ 2 ^ 20 from Nat.pow_le_pow_right (by decide) hs)) (by decide)⟩
end Go.Proofs.YtdbhlkejfecffaaGreatDoor
/-
  The stream: Rat.
-/
namespace Go.Proofs.YtdbhlkejfecffaaGreatDoor
open Go.RowKit KeepPlain

theorem mk_sz (n : Int) (d : Nat) (hn : -2147483648 ≤ n ∧ n ≤ 2147483647) (hd : 1 ≤ d ∧ d ≤ 1000) : Sz (mkRat n d) 8 := by
  refine sz_mk n d 8 (by omega) (nd_len_le _ 8 ?_) (nd_len_le _ 8 ?_)
  · exact Nat.lt_of_le_of_lt (show n.natAbs ≤ 2147483648 by omega) (by decide)
  · exact Nat.lt_of_le_of_lt hd.2 (by decide)
end Go.Proofs.YtdbhlkejfecffaaGreatDoor
