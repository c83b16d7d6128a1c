/-
  weftmake: Reduced.
  The stream: a number with many digits.
  The stream: Long.
-/
import Derived.Test.YtgennilhbedmoaaGreatDoorSa16
import Derived.Test.YtgennilhbedmoaaGreatDoorSa19
/-
  weftmake: Reduced.
-/
namespace Go.Proofs.YtgennilhbedmoaaGreatDoor
open Go.RowKit KeepPlain

theorem below_grow (w : World) (k : Nat) (os : Array Obj) : Below w.heap.size w (Sort.grow (w.drewN k) os) :=
  ⟨rfl, rfl, rfl, by simp [Sort.grow, World.drewN], fun b hb => by simp [Sort.grow, World.drewN, Array.getElem?_append_left hb]⟩
theorem itoa_any (n : Int) (h0 : -9223372036854775808 ≤ n) (h1 : n ≤ 9223372036854775807) (w : World) (ht : Pow10 w) :
    Calls Tryz.prog 26 #[.int .i64 n] w fun e w' => e = .returned (.string ⟨(Lib.itoa n).toArray⟩) ∧ Hid (Below w.heap.size w w') := by
  refine (Tryz.strconv_Itoa n h0 h1 w ht).mono ?_
  rintro e w' ⟨rfl, k, os, rfl⟩
  exact ⟨rfl, Lib.hid (below_grow _ _ _)⟩
theorem itoa_nat (n : Nat) : Lib.itoa (n : Int) = Lib.decDigits n := by rw [itoa_pos' (by omega)]; rfl
theorem red_num (n : Int) (d : Nat) (hd : d ≠ 0) : (mkRat n d).num = n.tdiv ((Nat.gcd n.natAbs d : Nat) : Int) ∧ (((mkRat n d).den : Nat) : Int) = (d : Int).tdiv ((Nat.gcd n.natAbs d : Nat) : Int) := by
  rw [Rat.num_mkRat, if_neg hd, Rat.den_mkRat, if_neg hd, Nat.gcd_comm d]
  refine ⟨?_, ?_⟩
  · rw [Int.tdiv_eq_ediv_of_dvd]
    exact Int.ofNat_dvd_left.2 (Nat.gcd_dvd_left _ _)
  · rw [Int.tdiv_eq_ediv_of_nonneg (Int.natCast_nonneg _)]; rfl
theorem tdiv_range (n : Int) (g : Nat) (B : Int) (h : -B ≤ n ∧ n ≤ B) (hB : 0 ≤ B) : -B ≤ n.tdiv g ∧ n.tdiv g ≤ B := by
  have h1 : (n.tdiv g).natAbs ≤ n.natAbs := by rw [Int.natAbs_tdiv]; exact Nat.div_le_self _ _
  omega
set_option maxRecDepth 100000 in
set_option maxHeartbeats 1600000 in
theorem reduced_st (n : Int) (d : Nat) (hn : -2147483648 ≤ n ∧ n ≤ 2147483647) (hd : 1 ≤ d ∧ d ≤ 1000) (w : World) (ht : Pow10 w) :
    Calls Tryz.prog 15 #[.int .i64 n, .int .i64 d] w fun e w' => e = .returned (RT (mkRat n d)) ∧ Hid (Below w.heap.size w w') := by
  obtain ⟨w0, hw0, hb0, hk0⟩ : ∃ w0, w.alloc (.cells #[.string ⟨#[]⟩, .string ⟨#[]⟩] 27) = w0 ∧ Below w.heap.size w w0 ∧ Blk w0 w.heap.size [.string ⟨#[]⟩, .string ⟨#[]⟩] 27 := ⟨_, rfl, (Below.refl _ _).alloc (Nat.le_refl _) _, heap_alloc_new w _⟩
  have HQ := Lib.hid (red_num n d (by omega))
  unfold RT
  rw [show Lib.decDigits (mkRat n d).den = Lib.itoa ((mkRat n d).den : Nat) from (itoa_nat _).symm]
  generalize (mkRat n d).num = nn at *
  generalize (((mkRat n d).den : Nat) : Int) = dd at *
  have HB0 := Lib.hid hb0
  have HK0 := Lib.hid hk0
  have HP := Lib.hid (fun (wx : World) (hb : Below w0.heap.size w0 wx) => (ht.below hb0).below hb)
  have HI := Lib.hid (fun (x : Int) (h : -2147483648 ≤ x ∧ x ≤ 2147483648) wx (hp : Pow10 wx) => itoa_any x (by omega) (by omega) wx hp)
  have hN : max n (-n) = ((n.natAbs : Nat) : Int) := by omega
  have e1 : IntKind.i64.wrap (-n) = -n := IntWalk.i64_in _ (by omega)
  have HN := Lib.hid hn
  have HD := Lib.hid hd
  have hN2 : n.natAbs ≤ 2147483648 := by omega
  have HG := Lib.hid (show 0 < Nat.gcd n.natAbs d from Nat.gcd_pos_of_pos_right _ (by omega))
  generalize hNN : n.natAbs = N at *
  clear hb0 hk0 ht hd hNN
  go_enter Tryz.func15, Tryz.ntmps15
  go_upto_region 2 with fail
  go_loopg [5, 6] d (fun gk s5 s6 wx => ∃ x : Nat, s5 = .int .i64 x ∧ s6 = .int .i64 gk ∧ Hid (Nat.gcd x gk = Nat.gcd N d) ∧ Hid (Below w0.heap.size w0 wx))
  case atStart => exact ⟨N, by first | rfl | rw [hN], rfl, Lib.hid rfl, Lib.hid (Below.refl _ _)⟩
  case round =>
    obtain ⟨x, rfl, rfl, HX, HB⟩ := hrel
    by_cases hy : gk = 0
    · subst hy
      have hx : x = Nat.gcd N d := by have := HX.out; rwa [Nat.gcd_zero_right] at this
      have hx0 : ¬ (x : Int) = 0 := by have := HG.out; omega
      have hxm : ¬ (x : Int) = -1 := by omega
      have hq1 := HQ.out.1
      have hq2 := HQ.out.2
      rw [← hx] at hq1 hq2
      obtain ⟨a1, a2⟩ := tdiv_range n x 2147483648 (by have := HN.out; omega) (by omega)
      obtain ⟨b1, b2⟩ := tdiv_range d x 2147483648 (by have := HD.out; omega) (by omega)
      rw [← hq1] at a1 a2
      rw [← hq2] at b1 b2
      have e2 : IntKind.i64.wrap (n.tdiv (x : Int)) = nn := by rw [← hq1]; exact IntWalk.i64_in _ (by omega)
      have e3 : IntKind.i64.wrap ((d : Int).tdiv (x : Int)) = dd := by rw [← hq2]; exact IntWalk.i64_in _ (by omega)
      have e4 : IntKind.i64.wrap ((d : Int) / (x : Int)) = dd := by rw [← e3, Int.tdiv_eq_ediv_of_nonneg (Int.natCast_nonneg _)]
      have HR1 := Lib.hid (And.intro a1 a2)
      have HR2 := Lib.hid (And.intro b1 b2)
      have k0 := (HK0.out.below HB.out).cell
      have f0 := (HK0.out.below HB.out).frozen
      clear HX hx hq1 hq2 a1 a2 b1 b2
      go_upto_region 4 with fail
      clear k0 f0
      go_region_with (first | (go_at_call 26; have _g := HB1; clear _g; refine (HI.out dd (by have := HR2.out; omega) w1 (HP.out w1 HB1.out)).mono ?_; rintro e w2 ⟨rfl, HB2'⟩; have HB2 := Lib.hid (HB1.out.trans (HB2'.out.mono HB1.out.size)); have q6 := (HK0.out.below HB2.out).cell; have r6 := (HK0.out.below HB2.out).frozen; dsimp only) | (go_at_call 26; refine (HI.out nn (by have := HR1.out; omega) wr.drew (HP.out _ HB.out.drew)).mono ?_; rintro e w1 ⟨rfl, HB1'⟩; have HB1 : Hid (Below w0.heap.size w0 w1) := Lib.hid (HB.out.trans ((below_undrew HB1'.out).mono HB.out.size)); dsimp only))
      all_goals
        go_wp2
        refine bodyPost_ret (results_rat rfl _ _ w.heap.size _ _ rfl (blkR w2 _ _ _ _ _ (HK0.out.below HB2.out))) rfl ?_
        exact ⟨rfl, Lib.hid ((HB0.out.trans (HB2.out.mono HB0.out.size)).trans (belowR _ _ _ _))⟩
    · have hz : ¬ (gk : Int) = 0 := by omega
      have e2 : (x : Int).tmod (gk : Int) = ((x % gk : Nat) : Int) := by rw [Int.tmod_eq_emod_of_nonneg (Int.natCast_nonneg x)]; rfl
      have hlt := Nat.mod_lt x (Nat.pos_of_ne_zero hy)
      have HX2 := Lib.hid (show Nat.gcd gk (x % gk) = Nat.gcd N d by rw [← HX.out, Nat.gcd_comm gk, ← Nat.gcd_rec, Nat.gcd_comm])
      have HL := Lib.hid hlt
      clear hlt
      go_wp2
      go_quiet (fail)
      go_wp2
      go_roundg (x % gk)
      case measure => exact HL.out
      case rel => exact ⟨gk, rfl, by first | rfl | (congr 1), HX2, Lib.hid (below_drewN HB.out _)⟩
end Go.Proofs.YtgennilhbedmoaaGreatDoor
/-
  The stream: a number with many digits.
-/
namespace Go.Proofs.YtgennilhbedmoaaGreatDoor
open Go.RowKit KeepPlain

/-- One byte is appended to a row of bytes. -/
theorem wpList_appB {w : World} {ops : Array Oper} {rest : List Oper} {o : Oper} {a : Act} {Q : Exit → Act → World → Prop} (hgd : o.guard = none) (s x : Operand)
    (ho : o.op = .call { callee := .builtin .append, args := #[s, x], argTypes := #[58, 58] })
    (base : Nat) (v : Value) (n : Nat) (l : List UInt8) (hs : a.eval s = v) (hown : w.ownsRow base 5 1 v n (Lib.byteCells l))
    (u : UInt8) (b : Nat) (hx : a.eval x = .slice (some ⟨b, 0, none⟩) 1 1) (hc : w.cell? ⟨b, 0, none⟩ = some (.int .u8 u.toNat)) (hlen : n ≤ 1000) (hbase : base ≤ w.heap.size)
    (h : ∀ g cap w', w'.ownsRow base 5 1 (.slice (some ⟨g, 0, none⟩) (n + 1) cap) (n + 1) (Lib.byteCells (l ++ [u])) → Below base w w' → wpList Tryz.prog ops Q rest (a.put o.dst (.slice (some ⟨g, 0, none⟩) (n + 1) cap)) w') : wpList Tryz.prog ops Q (o :: rest) a w := by
  obtain ⟨i0, hi, hz0, hz1, hz2⟩ := info_parts info5
  exact wpList_append_lies w hgd s x 58 ho base 5 i0 (.int .u8 0) 1 1 Tryz.underlying58 hi hz0 hz1 hz2 rfl (by decide) v n _ hs hown ⟨b, 0, none⟩ 1 1 [.int .u8 u.toNat] hx rfl (fun j y hj => by
    have : j = 0 := by
      have := (List.getElem?_eq_some_iff.1 hj).1
      simp at this; exact this
    subst this
    have e : y = .int .u8 u.toNat := by simpa using hj.symm
    rw [e]; exact hc) (one_int _ _) Nat.one_pos (by unfold maxLen; omega) (by omega) hbase _ rfl (fun g cap w' h2 h3 _ _ => h g cap w' (by simpa [Lib.byteCells] using h2) (Below.ofGrown h3 hbase (ownsRow_base hown)))
theorem Pow10.asks {xb : Nat} {V : Value} {L : List Int} {K : Nat} {w w' : World} (h : Pow10 w) (hs : St w xb V L K) (k : KeepX xb w w') : Pow10 w' := by
  obtain ⟨a, ha, hb, hr, hv⟩ := hs
  exact h.keep k hb
theorem Asks.refl {w : World} {xb : Nat} {V : Value} {L : List Int} {K : Nat} (h : St w xb V L K) : Asks xb V L K w w := ⟨KeepX.of_below (Below.refl _ _), h⟩
theorem Asks.below {xb : Nat} {V : Value} {L : List Int} {K : Nat} {a b c : World} (h : Asks xb V L K a b) (hb : Below b.heap.size b c) : Asks xb V L K a c := ⟨h.1.trans (KeepX.of_below hb), h.2.below hb⟩
theorem Asks.up {xb : Nat} {V : Value} {L : List Int} {K K' : Nat} {a b : World} (h : Asks xb V L K a b) (hk : K ≤ K') : Asks xb V L K' a b := ⟨h.1, h.2.mono hk⟩
theorem KeepX.own {xb : Nat} {w w' : World} (h : KeepX xb w w') {base : Nat} {e : TypeId} {size : Nat} {v : Value} {n : Nat} {xs : List Value} (ho : w.ownsRow base e size v n xs) (hb : xb < base) : w'.ownsRow base e size v n xs :=
  ownsRow_block ho fun b hlt hv => h.block b hlt (by have := ownsRow_base ho b hv; omega)
theorem KeepX.app {xb : Nat} {a b c : World} (h : KeepX xb a b) (k : Below a.heap.size b c) : KeepX xb a c :=
  ⟨k.os.trans h.os, k.tape.trans h.tape, k.output.trans h.output, Nat.le_trans h.size k.size, fun x hx hn => (k.block x hx).trans (h.block x hx hn)⟩
/-- The stream lies below a bound. -/
def Far (xb : Nat) (V : Value) (L : List Int) (B : Nat) : Prop := xb < B ∧ (0 < L.length → ∀ k, V.ownBlock = some k → k < B)
theorem St.far {w : World} {xb : Nat} {V : Value} {L : List Int} {K : Nat} (h : St w xb V L K) : Far xb V L w.heap.size := by
  obtain ⟨a, ha, hb, hr, hv⟩ := h
  exact ⟨hb.lt, fun h0 k hk => hr.lt h0 k hk⟩
theorem Far.mono {xb : Nat} {V : Value} {L : List Int} {B B' : Nat} (h : Far xb V L B) (hb : B ≤ B') : Far xb V L B' := ⟨by have := h.1; omega, fun h0 k hk => by have := h.2 h0 k hk; omega⟩
theorem St.base {xb : Nat} {V : Value} {L : List Int} {K B : Nat} {w w' : World} (h : St w xb V L K) (hf : Far xb V L B) (hb : Below B w w') : St w' xb V L K := by
  obtain ⟨a, ha, hk, hr, hv⟩ := h
  refine ⟨a, ha, ?_, hr.block fun b hlt hvb h0 => hb.block b (hf.2 h0 b hvb), hv⟩
  unfold Blk at hk ⊢; rw [hb.block xb hf.1]; exact hk
theorem Asks.base {xb : Nat} {V : Value} {L : List Int} {K : Nat} {a b c : World} (h : Asks xb V L K a b) (hf : Far xb V L a.heap.size) (hb : Below a.heap.size b c) : Asks xb V L K a c := ⟨h.1.app hb, h.2.base hf hb⟩
/-- The number that is made. -/
def longQ (neg : Bool) (k s : Nat) : Rat := mkRat (sg neg (10 ^ (k + 1) + 1)) (2 ^ s)
theorem longQ_parts (neg : Bool) (k s : Nat) : (longQ neg k s).num = sg neg (10 ^ (k + 1) + 1) ∧ (longQ neg k s).den = 2 ^ s := by
  have hd : (2 : Nat) ^ s ≠ 0 := Nat.ne_of_gt (Nat.pow_pos (by omega))
  have hg : Nat.gcd (2 ^ s) (sg neg (10 ^ (k + 1) + 1)).natAbs = 1 := by rw [sg_abs, Nat.gcd_comm]; exact long_cop k s
  unfold longQ
  rw [Rat.num_mkRat, if_neg hd, Rat.den_mkRat, if_neg hd, hg]
  exact ⟨Int.ediv_one _, Nat.div_one _⟩
theorem longQ_sz (neg : Bool) (k s : Nat) (hk : k ≤ 60) (hs : s ≤ 20) : Sz (longQ neg k s) 8 := by
  obtain ⟨h1, h2⟩ := longQ_parts neg k s
  unfold Sz
  rw [h1, h2, sg_abs]
  refine ⟨nd_len_le _ 8 ?_, nd_len_le _ 8 ?_⟩
  · have h3 : (10 : Nat) ^ (k + 1) ≤ 10 ^ 61 := Nat.pow_le_pow_right (by decide) (by omega)
    exact Nat.lt_of_le_of_lt (Nat.add_le_add_right h3 1) (by decide)
  · have h3 : (2 : Nat) ^ s ≤ 2 ^ 20 := Nat.pow_le_pow_right (by decide) hs
    exact Nat.lt_of_le_of_lt h3 (by decide)
theorem longQ_rt (neg : Bool) (k s : Nat) : RT (longQ neg k s) = .agg #[.string ⟨((if neg then [45] else []) ++ Lib.decDigits (10 ^ (k + 1) + 1)).toArray⟩, .string ⟨(Lib.decDigits (2 ^ s)).toArray⟩] := by
  obtain ⟨h1, h2⟩ := longQ_parts neg k s
  unfold RT
  rw [h1, h2]
  cases neg
  · rw [show sg false (10 ^ (k + 1) + 1) = ((10 ^ (k + 1) + 1 : Nat) : Int) from rfl, itoa_nat]; rfl
  · rw [itoa_neg' (show sg true (10 ^ (k + 1) + 1) < 0 from Int.neg_neg_of_pos (Int.natCast_pos.2 (Nat.succ_pos _))), sg_abs]; rfl
end Go.Proofs.YtgennilhbedmoaaGreatDoor
/-
  The stream: Long.
-/
namespace Go.Proofs.YtgennilhbedmoaaGreatDoor
open Go.RowKit KeepPlain

theorem neg_bytes (l : List UInt8) : (⟨([45] ++ l).toArray⟩ : ByteArray) = ⟨#[45]⟩ ++ ⟨l.toArray⟩ := by
  apply ByteArray.ext
  simp [ByteArray.data_append]
theorem shl_one (s : Nat) (hs : s ≤ 20) : wrap64 ((2 : Int) ^ min s 64) = ((2 ^ s : Nat) : Int) := by
  rw [Nat.min_eq_left (by omega), show (2 : Int) ^ s = ((2 ^ s : Nat) : Int) by rw [Int.natCast_pow]; rfl]
  exact wrap64_in ⟨Int.le_trans (by decide) (Int.natCast_nonneg _), Int.le_trans (Int.ofNat_le.2 (show (2 : Nat) ^ s ≤ 2 ^ 20 from Nat.pow_le_pow_right (by decide) hs)) (by decide)⟩
set_option maxRecDepth 100000 in
set_option maxHeartbeats 3200000 in
theorem Long_st (xb : Nat) (V : Value) (L : List Int) (K : Nat) (hK : K ≤ 900000) (w : World) (h : St w xb V L K) (ht : Pow10 w) :
    Calls Tryz.prog 14 #[.pointer (some ⟨xb, 0, none⟩)] w fun e w' => ∃ q, e = .returned (RT q) ∧ Hid (Sz q 8) ∧ Hid (Asks xb V L (K + 5) w w') := by
  obtain ⟨w0, hw0, hb0, hk0⟩ : ∃ w0, w.alloc (.cells #[.string ⟨#[]⟩, .string ⟨#[]⟩] 27) = w0 ∧ Below w.heap.size w w0 ∧ Blk w0 w.heap.size [.string ⟨#[]⟩, .string ⟨#[]⟩] 27 := ⟨_, rfl, (Below.refl _ _).alloc (Nat.le_refl _) _, heap_alloc_new w _⟩
  have hw0s : w0.heap.size = w.heap.size + 1 := by rw [← hw0, World.size_alloc]
  obtain ⟨w1, hw1, hb1, ho1⟩ : ∃ w1, w0.alloc (.cells #[.int .u8 49] 5) = w1 ∧ Below w0.heap.size w0 w1 ∧ w1.ownsRow w0.heap.size 5 1 (.slice (some ⟨w0.heap.size, 0, none⟩) 1 1) 1 (Lib.byteCells [49]) := ⟨_, rfl, (Below.refl _ _).alloc (Nat.le_refl _) _, World.ownsRow_lit w0 #[.int .u8 49] 1 (Nat.le_refl _) (by unfold maxLen; omega) rfl⟩
  have HXB := Lib.hid h.lt
  rw [hw0s] at ho1
  have HF := Lib.hid h.far
  have HA1 := Lib.hid ((Asks.refl h).below (hb0.trans (hb1.mono hb0.size)))
  have HK1 := Lib.hid (hk0.below hb1)
  have HO1 := Lib.hid ho1
  have HT := Lib.hid (fun wx (k : KeepX xb w wx) => ht.asks h k)
  have HSZ := Lib.hid hw0s
  have HSZ1 := Lib.hid hb1.size
  have HRG := Lib.hid (Range_st xb V L K (by omega) 1 60 (by omega) w1 HA1.out.2)
  clear hb0 hk0 hb1 ho1 h ht
  go_enter Tryz.func14, Tryz.ntmps14
  go_upto_region 3 with (go_at_call 10; refine HRG.out.mono ?_; rintro e w2 ⟨r, rfl, HR, HA2⟩)
  obtain ⟨n, hn, hn1⟩ : ∃ n : Nat, r = (n : Int) ∧ 1 ≤ n ∧ n ≤ 60 := ⟨r.toNat, by have := HR.out; omega, by have := HR.out; omega⟩
  subst hn
  have HN := Lib.hid hn1
  have HA2' := Lib.hid (HA1.out.trans HA2.out)
  have HK2 := Lib.hid (HA2.out.1.blk HK1.out (by have := HXB.out; omega))
  have HO2 := Lib.hid (HA2.out.1.own HO1.out (by have := HXB.out; omega))
  have HS2 := Lib.hid (show w.heap.size + 1 ≤ w2.heap.size from Nat.le_trans (show w.heap.size + 1 ≤ w1.heap.size by have := HSZ1.out; have := HSZ.out; omega) HA2.out.1.size)
  clear HA2 HK1 HO1 HA1 hn1 hw1 hw0
  go_loopg [3, 8] n (fun gk s3 s8 wx => ∃ i : Nat, s8 = .int .i64 i ∧ i ≤ n ∧ gk = n - i ∧ Hid (wx.ownsRow (w.heap.size + 1) 5 1 s3 (i + 1) (Lib.byteCells (49 :: List.replicate i 48))) ∧ Hid (Asks xb V L (K + 1) w wx) ∧ Hid (Blk wx w.heap.size [.string ⟨#[]⟩, .string ⟨#[]⟩] 27) ∧ Hid (w.heap.size + 1 ≤ wx.heap.size))
  case atStart => exact ⟨0, rfl, Nat.zero_le _, rfl, HO2, HA2', HK2, HS2⟩
  case round =>
    obtain ⟨i, rfl, hil, rfl, HO, HA, HK, HBS⟩ := hrel
    obtain ⟨A3, c3, hv3⟩ := ownsRow_shape HO.out
    subst hv3
    by_cases hlt : i < n
    · go_wp2_with (at_builtin; refine wpList_appB rfl _ _ rfl (w.heap.size + 1) _ (i + 1) (49 :: List.replicate i 48) rfl (ownsRow_below HO.out ((Below.refl _ _).alloc (Nat.le_refl _) _)) 48 wr.heap.size rfl ((news_blk wr [_] _).cell 0) (by have := HN.out; omega) (Nat.le_trans HBS.out (alloc_le _ _)) ?_; intro g cap w3 hown hb; have HO3 := Lib.hid hown; have HB3 := Lib.hid hb; clear hown hb)
      go_roundg (n - (i + 1))
      case measure => omega
      case rel =>
        have hb3 : Below (w.heap.size + 1) wr w3 := ((Below.refl _ _).alloc HBS.out _).trans HB3.out
        exact ⟨i + 1, congrArg (Value.int .i64) (show wrap64 ((i : Int) + 1) = ((i + 1 : Nat) : Int) by rw [wrap64_in (by have := HN.out; omega)]; rfl), by omega, rfl, Lib.hid (by have := HO3.out; rwa [List.cons_append, ← List.replicate_succ'] at this), Lib.hid (HA.out.base HF.out (hb3.mono (by omega))), Lib.hid (by have := HK.out; unfold Blk at this ⊢; rw [hb3.block _ (by omega)]; exact this), Lib.hid (Nat.le_trans HBS.out hb3.size)⟩
    · obtain rfl : i = n := by omega
      go_upto_region 7 with (at_builtin; refine wpList_appB rfl _ _ rfl (w.heap.size + 1) _ (i + 1) (49 :: List.replicate i 48) rfl (ownsRow_below HO.out ((Below.refl _ _).alloc (Nat.le_refl _) _)) 49 wr.heap.size rfl ((news_blk wr [_] _).cell 0) (by have := HN.out; omega) (Nat.le_trans HBS.out (alloc_le _ _)) ?_; intro g cap w3 hown hb; have HO3 := Lib.hid hown; have HB3 := Lib.hid hb; clear hown hb)
      have hb3 : Below (w.heap.size + 1) wr w3 := ((Below.refl _ _).alloc HBS.out _).trans HB3.out
      have HA3 := Lib.hid (HA.out.base HF.out (hb3.mono (by omega)))
      have HK3 := Lib.hid (show Blk w3 w.heap.size [.string ⟨#[]⟩, .string ⟨#[]⟩] 27 by have := HK.out; unfold Blk at this ⊢; rw [hb3.block _ (by omega)]; exact this)
      have HNS := Lib.hid (dec_long i)
      have hcv : (convert 58 9 (.slice (some ⟨g, 0, none⟩) (i + 1 + 1) cap)).run Tryz.prog w3 = .ok (.string ⟨(Lib.decDigits (10 ^ (i + 1) + 1)).toArray⟩) w3 := by
        have h := run_convert_bytes_back (P := Tryz.prog) w3 58 9 5 ⟨g, 0, none⟩ cap (Lib.decDigits (10 ^ (i + 1) + 1)) Tryz.underlying58 Tryz.underlying5 Tryz.underlying9 (fun j hj => by
          refine HO3.out.cells rfl j _ ?_
          rw [List.cons_append, ← HNS.out]
          simp [Lib.byteCells, hj])
        rw [show (Lib.decDigits (10 ^ (i + 1) + 1)).length = i + 1 + 1 by rw [HNS.out]; simp] at h
        exact h
      have HHS := Lib.hid (show w.heap.size + 1 ≤ w3.heap.size from Nat.le_trans HBS.out hb3.size)
      have HSIZE : (⟨(Lib.decDigits (10 ^ (i + 1) + 1)).toArray⟩ : ByteArray).size ≤ 1000 := by
        rw [ba_len, HNS.out]; have := HN.out; simp; omega
      have HNF := Lib.hid (show ∀ s : Nat, RT (longQ false i s) = .agg #[.string ⟨(Lib.decDigits (10 ^ (i + 1) + 1)).toArray⟩, .string ⟨(Lib.decDigits (2 ^ s)).toArray⟩] from fun s => longQ_rt false i s)
      have HNT := Lib.hid (show ∀ s : Nat, RT (longQ true i s) = .agg #[.string (⟨#[45]⟩ ++ ⟨(Lib.decDigits (10 ^ (i + 1) + 1)).toArray⟩), .string ⟨(Lib.decDigits (2 ^ s)).toArray⟩] from fun s => by
        have h := longQ_rt true i s
        rw [if_pos rfl, neg_bytes] at h
        exact h)
      clear hb3 HO3 HO HNS HA HK HB3 HBS hlt hil
      generalize (⟨(Lib.decDigits (10 ^ (i + 1) + 1)).toArray⟩ : ByteArray) = NS at *
      have hadd : ∀ W, (Op.stringOp .add ⟨#[45]⟩ NS).run Tryz.prog W = .ok (.string (⟨#[45]⟩ ++ NS)) W := fun W => run_string_add_sum W _ _ (by
        have e1 : ((⟨#[45]⟩ : ByteArray)).size = 1 := rfl
        omega)
      have HADD := Lib.hid hadd
      clear hadd HSIZE
      go_upto_region 8 with fail
      obtain ⟨w4, hw4, hb4, hk4⟩ : ∃ w4, w4 = w3.alloc (.cells #[.string NS, .string ⟨#[49]⟩] 27) ∧ Below w3.heap.size w3 w4 ∧ Blk w4 w3.heap.size [.string NS, .string ⟨#[49]⟩] 27 := ⟨_, rfl, (Below.refl _ _).alloc (Nat.le_refl _) _, heap_alloc_new w3 _⟩
      rw [← hw4]
      have HA4 := Lib.hid (HA3.out.below hb4)
      have HK4 := Lib.hid (HK3.out.below hb4)
      have HQ4 := Lib.hid hk4
      have HL := Lib.hid (show w.heap.size < w3.heap.size ∧ xb < w3.heap.size ∧ xb ≠ w.heap.size by have := HHS.out; have := HXB.out; omega)
      generalize w3.heap.size = p at *
      clear hw4 hb4 hk4 HA3 HK3 hcv HHS
      have HFL := Lib.hid (fun (wx : World) (k : Nat) (hk : k ≤ 900010) (hx : St wx xb V L k) => Flip_st xb V L k (by omega) 2 (by omega) wx hx)
      have HRG2 := Lib.hid (fun (wx : World) (hx : St wx xb V L (K + 2)) => Range_st xb V L (K + 2) (by omega) 0 20 (by omega) wx hx)
      have HIT := Lib.hid (fun (s : Nat) (hs : s ≤ 20) (wx : World) (k : KeepX xb w wx) => itoa_any ((2 ^ s : Nat) : Int) (Int.le_trans (by decide) (Int.natCast_nonneg _)) (Int.le_trans (Int.ofNat_le.2 (show (2 : Nat) ^ s ≤ 2 ^ 20 from Nat.pow_le_pow_right (by decide) hs)) (by decide)) wx (HT.out wx k))
      have HI7 := Lib.hid (itoa_nat)
      go_upto_region 10 with (first | (go_at_call 26; rw [shl_one s HS.out]; refine (HIT.out s HS.out w6 ((HA4.out.trans HA5.out).trans HA6.out).1).mono ?_; rintro e w7 ⟨rfl, HB7⟩; rw [HI7.out]; have HA7 := Lib.hid (((HA4.out.trans HA5.out).trans HA6.out).below HB7.out); have HQ7 := Lib.hid (((HA6.out.1.blk (HA5.out.1.blk HQ4.out (by have := HL.out; omega)) (by have := HL.out; omega)).below HB7.out)); have HK7 := Lib.hid (((HA6.out.1.blk (HA5.out.1.blk HK4.out (by have := HL.out; omega)) (by have := HL.out; omega)).below HB7.out)); have q7 := Blk.cell HQ7.out; have r7 := Blk.frozen HQ7.out) | (go_at_call 25; refine (HFL.out w4 (K + 1) (by omega) HA4.out.2).mono ?_; rintro e w5 ⟨b, rfl, HA5⟩; cases b) | (go_at_call 10; refine (HRG2.out w5 HA5.out.2).mono ?_; rintro e w6 ⟨r2, rfl, HR2, HA6⟩; obtain ⟨s, hs, hs1⟩ : ∃ s : Nat, r2 = (s : Int) ∧ s ≤ 20 := ⟨r2.toNat, by have := HR2.out; omega, by have := HR2.out; omega⟩; subst hs; have HS := Lib.hid hs1; clear hs1))
      · obtain ⟨s, HS, D, HD⟩ : ∃ s : Nat, Hid (s ≤ 20) ∧ ∃ D : ByteArray, Hid (D = ⟨(Lib.decDigits (2 ^ s)).toArray⟩ ∧ D = ⟨#[49]⟩) := ⟨0, Lib.hid (by omega), ⟨#[49]⟩, Lib.hid ⟨by rw [Nat.pow_zero, dec_small (by omega)]; rfl, rfl⟩⟩
        have HAA := Lib.hid ((HA4.out.trans HA5.out).up (show K + 1 + 1 ≤ K + 3 by omega))
        have HQA := Lib.hid (HA5.out.1.blk HQ4.out (by have := HL.out; omega))
        have HKA := Lib.hid (HA5.out.1.blk HK4.out (by have := HL.out; omega))
        clear HA5
        have HDD := Lib.hid HD.out.1
        generalize w5 = wA at *
        rw [← HD.out.2] at HQA
        clear HA4 HQ4 HK4
        have hadd := HADD.out
        go_wp2_with (go_at_call 25; refine (HFL.out wA (K + 3) (by omega) HAA.out.2).mono ?_; rintro e w8 ⟨b, rfl, HA8⟩; have HQ8 := Lib.hid (HA8.out.1.blk HQA.out (by have := HL.out; omega)); have HK8 := Lib.hid (HA8.out.1.blk HKA.out (by have := HL.out; omega)); have q8 := Blk.cell HQ8.out; have r8 := Blk.frozen HQ8.out; have q9 := Blk.cell HK8.out; have r9 := Blk.frozen HK8.out; have q10 := (HQ8.out.set 0 (.string (⟨#[45]⟩ ++ NS))).cell; have q11 := (Blk.far HK8.out (p := ⟨p, 0, none⟩) (by have := HL.out; simp; omega) (.string (⟨#[45]⟩ ++ NS))).cell; have r11 := (Blk.far HK8.out (p := ⟨p, 0, none⟩) (by have := HL.out; simp; omega) (.string (⟨#[45]⟩ ++ NS))).frozen; cases b)
        · refine bodyPost_ret (results_rat rfl _ _ w.heap.size _ _ rfl (blkR w8 _ _ _ _ _ HK8.out)) rfl ?_
          refine ⟨longQ false i s, ?_, Lib.hid (longQ_sz _ _ _ HN.out.2 HS.out), Lib.hid (((HAA.out.trans HA8.out).up (by omega)).base HF.out (belowR _ _ _ _))⟩
          rw [HNF.out, HDD.out]
        · have HK9 := Blk.far HK8.out (p := ⟨p, 0, none⟩) (by have := HL.out; simp; omega) (.string (⟨#[45]⟩ ++ NS))
          refine bodyPost_ret (results_rat rfl _ _ w.heap.size _ _ rfl (blkR _ _ _ _ _ _ HK9)) rfl ?_
          refine ⟨longQ true i s, ?_, Lib.hid (longQ_sz _ _ _ HN.out.2 HS.out), Lib.hid ((((HAA.out.trans HA8.out).up (by omega)).base HF.out (((Below.refl _ w8).setCell (by have := HL.out; simp; omega) _).trans (belowR _ _ _ _))))⟩
          rw [HNT.out, HDD.out]
      · obtain ⟨D, HDD⟩ : ∃ D : ByteArray, Hid (D = ⟨(Lib.decDigits (2 ^ s)).toArray⟩) := ⟨_, Lib.hid rfl⟩
        have HQB := Lib.hid (show Blk (w7.setCell ⟨p, 1, none⟩ (.string ⟨(Lib.decDigits (2 ^ s)).toArray⟩)) p [.string NS, .string D] 27 by rw [HDD.out]; exact Blk.set HQ7.out 1 _)
        obtain ⟨wA, hwA⟩ : ∃ wA, wA = w7.setCell ⟨p, 1, none⟩ (.string ⟨(Lib.decDigits (2 ^ s)).toArray⟩) := ⟨_, rfl⟩
        have HAA := Lib.hid (show Asks xb V L (K + 3) w wA by rw [hwA]; exact (HA7.out.up (by omega)).base HF.out ((Below.refl _ w7).setCell (by have := HL.out; simp; omega) _))
        rw [← hwA] at HQB
        have HQA := HQB
        have HKA := Lib.hid (show Blk wA w.heap.size [.string ⟨#[]⟩, .string ⟨#[]⟩] 27 by rw [hwA]; exact Blk.far HK7.out (by have := HL.out; simp; omega) _)
        rw [← hwA]
        clear HA7 HA6 HA5 HA4 HQ4 HK4 HQ7 HK7 q7 r7 hwA HQB
        have hadd := HADD.out
        go_wp2_with (go_at_call 25; refine (HFL.out wA (K + 3) (by omega) HAA.out.2).mono ?_; rintro e w8 ⟨b, rfl, HA8⟩; have HQ8 := Lib.hid (HA8.out.1.blk HQA.out (by have := HL.out; omega)); have HK8 := Lib.hid (HA8.out.1.blk HKA.out (by have := HL.out; omega)); have q8 := Blk.cell HQ8.out; have r8 := Blk.frozen HQ8.out; have q9 := Blk.cell HK8.out; have r9 := Blk.frozen HK8.out; have q10 := (HQ8.out.set 0 (.string (⟨#[45]⟩ ++ NS))).cell; have q11 := (Blk.far HK8.out (p := ⟨p, 0, none⟩) (by have := HL.out; simp; omega) (.string (⟨#[45]⟩ ++ NS))).cell; have r11 := (Blk.far HK8.out (p := ⟨p, 0, none⟩) (by have := HL.out; simp; omega) (.string (⟨#[45]⟩ ++ NS))).frozen; cases b)
        · refine bodyPost_ret (results_rat rfl _ _ w.heap.size _ _ rfl (blkR w8 _ _ _ _ _ HK8.out)) rfl ?_
          refine ⟨longQ false i s, ?_, Lib.hid (longQ_sz _ _ _ HN.out.2 HS.out), Lib.hid (((HAA.out.trans HA8.out).up (by omega)).base HF.out (belowR _ _ _ _))⟩
          rw [HNF.out, HDD.out]
        · have HK9 := Blk.far HK8.out (p := ⟨p, 0, none⟩) (by have := HL.out; simp; omega) (.string (⟨#[45]⟩ ++ NS))
          refine bodyPost_ret (results_rat rfl _ _ w.heap.size _ _ rfl (blkR _ _ _ _ _ _ HK9)) rfl ?_
          refine ⟨longQ true i s, ?_, Lib.hid (longQ_sz _ _ _ HN.out.2 HS.out), Lib.hid ((((HAA.out.trans HA8.out).up (by omega)).base HF.out (((Below.refl _ w8).setCell (by have := HL.out; simp; omega) _).trans (belowR _ _ _ _))))⟩
          rw [HNT.out, HDD.out]
end Go.Proofs.YtgennilhbedmoaaGreatDoor
