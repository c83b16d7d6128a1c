/-
  weftkeep1: ModelSteady: the walk of the law.
-/
import Derived.Outline
import Derived.Test.YtdbhlkejfecffaaGreatDoorSa9
import Derived.Test.YtdbhlkejfecffaaGreatDoorSa18
import Derived.Test.YtdbhlkejfecffaaGreatDoorSa37
/-
  weftkeep1: ModelSteady: the walk of the law.
-/
namespace Go.Proofs.YtdbhlkejfecffaaGreatDoor
open Go.RowKit SteadyPlain KeepPlain

/-- Nothing that was there is changed but for two blocks. -/
structure Keep2 (d r : Nat) (w w' : World) : Prop where
  os : w'.os = w.os
  tape : w'.tape = w.tape
  output : w'.output = w.output
  size : w.heap.size ≤ w'.heap.size
  block : ∀ b, b < w.heap.size → b ≠ d → b ≠ r → w'.heap[b]? = w.heap[b]?
section
variable {d r : Nat} {a b c : World}
theorem Keep2.refl (d r : Nat) (w : World) : Keep2 d r w w := ⟨rfl, rfl, rfl, Nat.le_refl _, fun _ _ _ _ => rfl⟩
theorem Keep2.keep (h : Keep2 d r a b) (k : KeepX d b c) : Keep2 d r a c :=
  ⟨k.os.trans h.os, k.tape.trans h.tape, k.output.trans h.output, Nat.le_trans h.size k.size, fun x hx hd hr => (k.block x (Nat.lt_of_lt_of_le hx h.size) hd).trans (h.block x hx hd hr)⟩
theorem Keep2.app (h : Keep2 d r a b) (k : Below a.heap.size b c) : Keep2 d r a c :=
  ⟨k.os.trans h.os, k.tape.trans h.tape, k.output.trans h.output, Nat.le_trans h.size k.size, fun x hx hd hr => (k.block x hx).trans (h.block x hx hd hr)⟩
theorem Keep2.set (h : Keep2 d r a b) (o : Nat) (v : Value) : Keep2 d r a (b.setCell ⟨r, o, none⟩ v) :=
  ⟨h.os, h.tape, h.output, Nat.le_trans h.size (by simp [World.setCell]), fun x hx hd hr => by rw [Below.heap_setCell _ _ _ _ hr]; exact h.block x hx hd hr⟩
theorem Keep2.drew (h : Keep2 d r a b) : Keep2 d r a b.drew := ⟨h.os, h.tape, h.output, h.size, h.block⟩
theorem Keep2.below {w : World} {B : Nat} (h : Keep2 d r a b) (hb : Below B w a) (hd : B ≤ d) (hr : B ≤ r) (hB : B ≤ a.heap.size) : Below B w b :=
  ⟨h.os.trans hb.os, h.tape.trans hb.tape, h.output.trans hb.output, Nat.le_trans hb.size h.size, fun x hx => by rw [h.block x (by omega) (by omega) (by omega)]; exact hb.block x hx⟩
theorem RdAt.keep2 {x o cc : Nat} {l : List Int} (h : RdAt a x o cc l) (h0 : 0 < l.length) (k : Keep2 d r a b) (hd : x ≠ d) (hr : x ≠ r) : RdAt b x o cc l :=
  ⟨h.1, h.2.1, fun i hi => by rw [World.cell?_of_block (a := ⟨x, o + i, none⟩) (w := a) (k.block x (h.lt h0) hd hr)]; exact h.2.2 i hi⟩
theorem Blk.keep2 {x : Nat} {l : List Value} {t : TypeId} (h : Blk a x l t) (k : Keep2 d r a b) (hd : x ≠ d) (hr : x ≠ r) : Blk b x l t := by
  have := h.lt; unfold Blk at h ⊢; rw [k.block x this hd hr]; exact h
end
theorem blk_base {w w' : World} {B b : Nat} {l : List Value} {t : TypeId} (h : Blk w b l t) (hb : Below B w w') (hlt : b < B) : Blk w' b l t := by
  unfold Blk at h ⊢; rw [hb.block b hlt]; exact h
theorem next_drawn (xb : Nat) (V : Value) (L : List Int) (K : Nat) (hK : K ≤ 1000000) (n : Int) (hn : 1 ≤ n ∧ n ≤ 1099511627776) (w : World) (h : St w xb V L K) (d : Nat) :
    Calls Tryz.prog 7 #[.pointer (some ⟨xb, 0, none⟩), .int .i64 n] (w.drewN d) fun e w' => ∃ r : Int, e = .returned (.int .i64 r) ∧ Hid (0 ≤ r ∧ r < n) ∧ Hid (Asks xb V L (K + 1) w w') := by
  have h' : St (w.drewN d) xb V L K := h
  refine (Next_st xb V L K hK n hn (w.drewN d) h').mono ?_
  rintro e w1 ⟨r, rfl, hr, ha⟩
  exact ⟨r, rfl, hr, Lib.hid ⟨⟨ha.out.1.os, ha.out.1.tape, ha.out.1.output, ha.out.1.size, ha.out.1.block⟩, ha.out.2⟩⟩
theorem KeepX.k2 {d r : Nat} {w a b : World} (h : KeepX d w a) (k : Keep2 d r a b) (hr : w.heap.size ≤ r) : KeepX d w b :=
  ⟨k.os.trans h.os, k.tape.trans h.tape, k.output.trans h.output, Nat.le_trans h.size k.size, fun x hx hd => (k.block x (Nat.lt_of_lt_of_le hx h.size) hd (by omega)).trans (h.block x hx hd)⟩
theorem below_x {w a b : World} {B d : Nat} (hb : Below B w a) (k : KeepX d a b) (hd : B ≤ d) (hB : B ≤ a.heap.size) : Below B w b :=
  ⟨k.os.trans hb.os, k.tape.trans hb.tape, k.output.trans hb.output, Nat.le_trans hb.size k.size, fun x hx => by rw [k.block x (by omega) (by omega)]; exact hb.block x hx⟩
theorem toks_len (m : MD) (W V : Nat) (pr : List Int) (seed : Int) (most : Nat) (h : 1 ≤ most) : 1 ≤ (toksOf m W V pr seed most).length ∧ (toksOf m W V pr seed most).length ≤ most := by
  obtain ⟨n, rfl⟩ : ∃ n, most = n + 1 := ⟨most - 1, by omega⟩
  exact ⟨gen_pos _ _ _, gen_len _ _ _⟩
theorem own_place {w : World} {base : Nat} {v : Value} {n : Nat} {xs : List Value} {e : TypeId} {sz : Nat} (h : w.ownsRow base e sz v n xs) (h0 : 1 ≤ n) : ∃ g c, v = .slice (some ⟨g, 0, none⟩) n c := by
  rcases h.2 with ⟨hv, hn⟩ | ⟨g, cap, cur, hv, -⟩
  · omega
  · exact ⟨g, cap, hv⟩
/-- All lists of a model lie between two bounds. -/
def MBet (p : MPl) (lo hi : Nat) : Prop := (lo ≤ p.cuts.b ∧ p.cuts.b < hi) ∧ (lo ≤ p.embed.b ∧ p.embed.b < hi) ∧ (lo ≤ p.place.b ∧ p.place.b < hi) ∧ (lo ≤ p.mix.b ∧ p.mix.b < hi) ∧ (lo ≤ p.out.b ∧ p.out.b < hi) ∧ (lo ≤ p.soft.b ∧ p.soft.b < hi) ∧ (lo ≤ p.odds.b ∧ p.odds.b < hi)
theorem ModAt.keep2 {d r : Nat} {a b : World} {m : MD} {p : MPl} (h : ModAt a m p) (hm : m.Ok) {lo hi : Nat} (hb : MBet p lo hi) (k : Keep2 d r a b) (hd : d < lo) (hr : hi ≤ r) : ModAt b m p := by
  obtain ⟨x1, x2, x3, x4, x5, x6, x7⟩ := hb
  exact ⟨h.cuts.keep2 (hm.len 0 (by omega)).1 k (by omega) (by omega), h.embed.keep2 (hm.len 1 (by omega)).1 k (by omega) (by omega), h.place.keep2 (hm.len 2 (by omega)).1 k (by omega) (by omega), h.mix.keep2 (hm.len 3 (by omega)).1 k (by omega) (by omega), h.out.keep2 (hm.len 4 (by omega)).1 k (by omega) (by omega), h.soft.keep2 (hm.len 5 (by omega)).1 k (by omega) (by omega), h.odds.keep2 (hm.len 6 (by omega)).1 k (by omega) (by omega)⟩
/-- A model that was just made lies above what was there before. -/
theorem made_bet {w w' : World} {m : MD} {q : MPl} (hm : m.Ok) (h : ModAt w' m q) (hn : MNew w.heap.size m q.mp) : MBet q w.heap.size w'.heap.size :=
  ⟨⟨hn 0 (by omega) _ rfl, h.cuts.lt (hm.len 0 (by omega)).1⟩, ⟨hn 1 (by omega) _ rfl, h.embed.lt (hm.len 1 (by omega)).1⟩, ⟨hn 2 (by omega) _ rfl, h.place.lt (hm.len 2 (by omega)).1⟩, ⟨hn 3 (by omega) _ rfl, h.mix.lt (hm.len 3 (by omega)).1⟩, ⟨hn 4 (by omega) _ rfl, h.out.lt (hm.len 4 (by omega)).1⟩, ⟨hn 5 (by omega) _ rfl, h.soft.lt (hm.len 5 (by omega)).1⟩, ⟨hn 6 (by omega) _ rfl, h.odds.lt (hm.len 6 (by omega)).1⟩⟩

set_option maxRecDepth 100000 in
set_option maxHeartbeats 6400000 in
theorem law_steady (A0 : Option Addr) (len c0 : Nat) (Ls : List Int) (w : World) (ho : Rd w (.slice A0 len c0) Ls) (ht : Pow10 w) :
    Calls Tryz.prog 3 #[.slice A0 len c0] w fun e w' => e = .returned (.bool true) ∧ Hid (Below w.heap.size w w') := by
  obtain ⟨w0, hw0, hb0, hk0⟩ : ∃ w0, w.alloc (.cells #[.slice A0 len c0, .int .i64 0] 25) = w0 ∧ Below w.heap.size w w0 ∧ Blk w0 w.heap.size [.slice A0 len c0, .int .i64 0] 25 := ⟨_, rfl, (Below.refl _ _).alloc (Nat.le_refl _) _, heap_alloc_new w _⟩
  have hst : St w0 w.heap.size (.slice A0 len c0) Ls 0 := ⟨0, Nat.le_refl _, hk0, ho.below hb0, fun h0 e => by have := ho.lt h0 _ e; omega⟩
  have HB0 := Lib.hid hb0
  have ht0 := ht.below hb0
  have HP := Lib.hid (fun wx (k : KeepX w.heap.size w0 wx) => ht0.asks hst k)
  have HMS := Lib.hid (model_st w.heap.size (.slice A0 len c0) Ls w0 hst)
  have HST := Lib.hid hst
  clear hb0 hk0 hst ho ht ht0
  go_enter Tryz.func3, Tryz.ntmps3
  go_upto_region 3 with (go_at_call 4; refine HMS.out.mono ?_; rintro e w1 ⟨m, p', rfl, HOK, HAT, HA1⟩; obtain ⟨p, rfl, hq⟩ := HAT.out.1.places HOK.out; obtain ⟨W, V, T, Q, hd⟩ := HOK.out.dim; rw [modC_mp, modC_V hd]; have HQ1 := Lib.hid hq; have HDM := Lib.hid hd; have hvv := hd.vocab; have hmv : modV m p W = [Value.int .i64 m.kind, .int .i64 V, .int .i64 W, .int .i64 m.top, .slice (some ⟨p.cuts.b, p.cuts.o, none⟩) 4 p.cuts.c, .slice (some ⟨p.embed.b, p.embed.o, none⟩) m.embed.length p.embed.c, .slice (some ⟨p.place.b, p.place.o, none⟩) m.place.length p.place.c, .slice (some ⟨p.mix.b, p.mix.o, none⟩) m.mix.length p.mix.c, .slice (some ⟨p.out.b, p.out.o, none⟩) m.out.length p.out.c, .slice (some ⟨p.soft.b, p.soft.o, none⟩) m.soft.length p.soft.c, .slice (some ⟨p.odds.b, p.odds.o, none⟩) m.odds.length p.odds.c] := (by simp only [modV, hvv]); rw [hmv]; have HMV := Lib.hid hmv; clear hq hd hvv hmv)
  obtain ⟨w2, hw2, hb2, hk2⟩ : ∃ w2, w1.alloc (.cells ([Value.int .i64 m.kind, .int .i64 V, .int .i64 W, .int .i64 m.top, .slice (some ⟨p.cuts.b, p.cuts.o, none⟩) 4 p.cuts.c, .slice (some ⟨p.embed.b, p.embed.o, none⟩) m.embed.length p.embed.c, .slice (some ⟨p.place.b, p.place.o, none⟩) m.place.length p.place.c, .slice (some ⟨p.mix.b, p.mix.o, none⟩) m.mix.length p.mix.c, .slice (some ⟨p.out.b, p.out.o, none⟩) m.out.length p.out.c, .slice (some ⟨p.soft.b, p.soft.o, none⟩) m.soft.length p.soft.c, .slice (some ⟨p.odds.b, p.odds.o, none⟩) m.odds.length p.odds.c] : List Value).toArray 27) = w2 ∧ Below w1.heap.size w1 w2 ∧ Blk w2 w1.heap.size [Value.int .i64 m.kind, .int .i64 V, .int .i64 W, .int .i64 m.top, .slice (some ⟨p.cuts.b, p.cuts.o, none⟩) 4 p.cuts.c, .slice (some ⟨p.embed.b, p.embed.o, none⟩) m.embed.length p.embed.c, .slice (some ⟨p.place.b, p.place.o, none⟩) m.place.length p.place.c, .slice (some ⟨p.mix.b, p.mix.o, none⟩) m.mix.length p.mix.c, .slice (some ⟨p.out.b, p.out.o, none⟩) m.out.length p.out.c, .slice (some ⟨p.soft.b, p.soft.o, none⟩) m.soft.length p.soft.c, .slice (some ⟨p.odds.b, p.odds.o, none⟩) m.odds.length p.odds.c] 27 := ⟨_, rfl, (Below.refl _ _).alloc (Nat.le_refl _) _, heap_alloc_new w1 _⟩
  rw [hw2]
  have HA2 := Lib.hid (HA1.out.below hb2)
  have HK2 := Lib.hid hk2
  have HM2 := Lib.hid (HQ1.out.below hb2)
  have HXB := Lib.hid (show w.heap.size < w0.heap.size from HST.out.lt)
  have HBET := Lib.hid (show MBet p w0.heap.size w1.heap.size from made_bet HOK.out HQ1.out HAT.out.2)
  have HSZ1 := Lib.hid HA1.out.1.size
  generalize hmb : w1.heap.size = mb at *
  generalize hxb : w.heap.size = xb at *
  have HXE := Lib.hid hxb
  have HV1 := Lib.hid HDM.out.v1
  have HFAR := Lib.hid HST.out.far
  clear hw2 hb2 hk2 hmb hxb hw0 HMS HAT HQ1 HA1
  go_upto_region 4 with (first
    | (go_at_call 6; refine (Word_st xb _ Ls 1001 (by omega) w3 HA3.out.2).mono ?_; rintro e w4 ⟨seed, rfl, HSE, HA4⟩)
    | (go_at_call 5; refine (Range_st xb _ Ls 1000 (by omega) 1 8 (by decide) w2 HA2.out.2).mono ?_; rintro e w3 ⟨mo, rfl, HMO, HA3⟩; obtain ⟨most, rfl⟩ : ∃ most : Nat, mo = (most : Int) := ⟨mo.toNat, by have := HMO.out; omega⟩))
  obtain ⟨w5, hw5, hb5, hk5⟩ : ∃ w5, w4.alloc (.cells #[.int .i64 1, .int .i64 2, .slice none 0 0, .int .i64 most, .int .i64 seed] 32) = w5 ∧ Below w4.heap.size w4 w5 ∧ Blk w5 w4.heap.size [.int .i64 1, .int .i64 2, .slice none 0 0, .int .i64 most, .int .i64 seed] 32 := ⟨_, rfl, (Below.refl _ _).alloc (Nat.le_refl _) _, heap_alloc_new w4 _⟩
  rw [hw5]
  have hrb : mb < w4.heap.size := Nat.lt_of_lt_of_le HK2.out.lt (HA3.out.trans HA4.out).1.size
  have hmx : mb ≠ xb := by have := HSZ1.out; have := HXB.out; omega
  have HA5 := Lib.hid (((HA2.out.trans HA3.out).trans HA4.out).below hb5)
  have HK5 := Lib.hid ((((HA3.out.trans HA4.out).1).blk HK2.out hmx).below hb5)
  have HM5 := Lib.hid (show ModAt w5 m p from (HM2.out.keep2 HOK.out (d := xb) (r := w5.heap.size) (hi := mb) HBET.out ((Keep2.refl xb _ w2).keep (((HA3.out.trans HA4.out).below hb5).1)) HXB.out (by have := hb5.size; omega)))
  have HR5 := Lib.hid hk5
  have HRB5 := Lib.hid (show w4.heap.size < w5.heap.size from hk5.lt)
  have HSS := Lib.hid (show 1 ≤ most ∧ most ≤ 8 by have := HMO.out; omega)
  generalize hrbe : w4.heap.size = rb at *
  have HMB := Lib.hid hrb
  have HMX := Lib.hid hmx
  clear hw5 hb5 hk5 hrb hmx hrbe HA2 HK2 HM2 HA3 HA4 HMO
  go_upto_region 5 with (go_at_call 5; refine (Range_st xb _ Ls 1004 (by omega) 1 6 (by decide) w5 HA5.out.2).mono ?_; rintro e w6 ⟨nn, rfl, HNN, HA6⟩; obtain ⟨N, rfl⟩ : ∃ N : Nat, nn = (N : Int) := ⟨nn.toNat, by have := HNN.out; omega⟩)
  have hN : 1 ≤ N ∧ N ≤ 6 := by have := HNN.out; omega
  have HR6 := Lib.hid (HA6.out.1.blk HR5.out (by have := HMB.out; have := HSZ1.out; have := HXB.out; omega))
  have HKP6 := Lib.hid ((Keep2.refl xb rb w5).keep HA6.out.1)
  have hxr : xb < w5.heap.size ∧ rb < w5.heap.size := ⟨by have := HRB5.out; have := HMB.out; have := HSZ1.out; have := HXB.out; omega, HRB5.out⟩
  have HXR := Lib.hid hxr
  have HFX := Lib.hid (show w0.heap.size ≤ rb by have := HMB.out; have := HSZ1.out; omega)
  clear hxr
  go_wp2
  go_loopg [22] N (fun gk s22 wx => ∃ (i : Nat) (A : Option Addr) (c : Nat) (l : List Int), s22 = .int .i64 i ∧ i ≤ N ∧ Hid (l.length = i ∧ ∀ x, x ∈ l → 0 ≤ x ∧ x < (V : Int)) ∧ Hid (wx.ownsRow w5.heap.size 3 1 (.slice A i c) i (ints l)) ∧ Hid (Keep2 xb rb w5 wx) ∧ Hid (St wx xb (.slice A0 len c0) Ls (1005 + i)) ∧ Hid (Blk wx rb [.int .i64 1, .int .i64 2, .slice A i c, .int .i64 most, .int .i64 seed] 32) ∧ gk = N - i)
  case atStart => exact ⟨0, none, 0, [], rfl, Nat.zero_le _, Lib.hid ⟨rfl, fun x hx => absurd hx (by simp)⟩, Lib.hid (World.ownsRow_nil _ _ _ _), HKP6, Lib.hid HA6.out.2, HR6, rfl⟩
  case round =>
    obtain ⟨i, A1, c1, l, rfl, hiN, HL, HO, HK, HS, HR, rfl⟩ := hrel
    by_cases hlt : i < N
    · have cr := HR.out.cell
      have fr := HR.out.frozen
      have cm := (HK5.out.keep2 HK.out HMX.out (by have := HMB.out; omega)).cell
      have HNX := Lib.hid (fun d => next_drawn xb _ Ls (1005 + i) (by omega) (V : Int) (by have := HV1.out; omega) wr HS.out d)
      have HI := Lib.hid (show i ≤ 1000 by omega)
      have HRX := Lib.hid (show rb ≠ xb by have := HMB.out; have := HSZ1.out; have := HXB.out; omega)
      go_upto_block 1 with fail
      go_cut [] (fun wx => ∃ (A' : Option Addr) (c' : Nat) (l' : List Int), Hid (l'.length = i + 1 ∧ ∀ x, x ∈ l' → 0 ≤ x ∧ x < (V : Int)) ∧ Hid (wx.ownsRow w5.heap.size 3 1 (.slice A' (i + 1) c') (i + 1) (ints l')) ∧ Hid (Keep2 xb rb w5 wx) ∧ Hid (St wx xb (.slice A0 len c0) Ls (1005 + (i + 1))) ∧ Hid (Blk wx rb [.int .i64 1, .int .i64 2, .slice A' (i + 1) c', .int .i64 most, .int .i64 seed] 32))
      case first =>
        go_upto_region 6 with fail
        go_region_law (first
          | (go_simp; go_at_call 7; refine (HNX.out _).mono ?_; rintro e wn ⟨r2, rfl, HR2, HA2⟩; have HO2 := Lib.hid (HA2.out.1.own HO.out HXR.out.1); have HRN := Lib.hid (HA2.out.1.blk HR.out HRX.out); have c2 := HRN.out.cell; have qa2 := fun (o : Obj) => (HRN.out.alloc o).cell; dsimp only)
          | (refine step_app1 (by rfl) _ _ (by rfl) w5.heap.size (.slice A1 i c1) i l (by rfl) (ownsRow_below HO2.out ((Below.refl _ _).alloc (Nat.le_refl _) _)) r2 wn.heap.size (by rfl) ((news_blk wn [_] _).cell 0) HI.out (Nat.le_trans HK.out.size (Nat.le_trans HA2.out.1.size (alloc_le _ _))) ?_; intro g cap w3 hown hb; have HO3 := Lib.hid hown; have HB3 := Lib.hid (((Below.refl w5.heap.size wn).alloc (Nat.le_trans HK.out.size HA2.out.1.size) _).trans hb); have HR3 := Lib.hid (blk_base HRN.out HB3.out HXR.out.2); have c3 := HR3.out.cell 2; have f3 := HR3.out.frozen 2; clear hown hb))
        all_goals
          go_wp2_with fail
          go_meet
          exact ⟨some ⟨g, 0, none⟩, cap, l ++ [r2], Lib.hid ⟨by rw [List.length_append, HL.out.1]; rfl, fun x hx => by
            rcases List.mem_append.1 hx with h1 | h1
            · exact HL.out.2 x h1
            · rw [List.mem_singleton.1 h1]; exact HR2.out⟩, Lib.hid (own_set HO3.out HXR.out.2 _), Lib.hid (((HK.out.keep HA2.out.1).app HB3.out).set _ _), Lib.hid ((HA2.out.2.base HFAR.out (HB3.out.mono (Nat.le_trans HFX.out (Nat.le_of_lt HXR.out.2)))).base HFAR.out ((Below.refl _ _).setCell HFX.out _)), Lib.hid (HR3.out.set 2 _)⟩
      case rest =>
        obtain ⟨A', c', l', HL2, HO2, HK2, HS2, HR2⟩ := hcut
        go_wp2
        go_roundg (N - (i + 1))
        case measure => omega
        case rel => exact ⟨i + 1, A', c', l', by first | rfl | exact congrArg (Value.int .i64) (show wrap64 ((i : Int) + 1) = ((i + 1 : Nat) : Int) by rw [wrap64_in (by omega)]; rfl), by omega, HL2, HO2, HK2, HS2, HR2, rfl⟩
    · obtain rfl : N = i := by omega
      obtain ⟨g1, c1', hA1⟩ := own_place HO.out hN.1
      injection hA1 with e1 e2 e3
      subst e1 e3
      have HRP := Lib.hid (rdat_own HO.out)
      have HRX := Lib.hid (show rb ≠ xb by have := HMB.out; have := HSZ1.out; have := HXB.out; omega)
      have HKM := Lib.hid (HK5.out.keep2 HK.out HMX.out (show mb ≠ rb by have := HMB.out; omega))
      have HMM := Lib.hid (HM5.out.keep2 HOK.out HBET.out HK.out HXB.out (Nat.le_of_lt HMB.out))
      have HKX := Lib.hid (HA5.out.1.k2 HK.out HFX.out)
      have HAL := Lib.hid (fun (id dl : Int) (mo : Nat) (hmo : 1 ≤ mo ∧ mo ≤ 8) (wx : World) (hM : ModAt wx m p) (hR : RdAt wx g1 0 c1 l) => (by
        have := alone_any m p W V T Q HOK.out HDM.out id dl seed mo l g1 0 c1 N HL.out.1.symm hN.1 (by omega) (by omega) HSE.out HL.out.2 wx hM hR
        rw [HMV.out] at this
        exact this : Calls Tryz.prog 8 #[.agg ([Value.int .i64 m.kind, .int .i64 V, .int .i64 W, .int .i64 m.top, .slice (some ⟨p.cuts.b, p.cuts.o, none⟩) 4 p.cuts.c, .slice (some ⟨p.embed.b, p.embed.o, none⟩) m.embed.length p.embed.c, .slice (some ⟨p.place.b, p.place.o, none⟩) m.place.length p.place.c, .slice (some ⟨p.mix.b, p.mix.o, none⟩) m.mix.length p.mix.c, .slice (some ⟨p.out.b, p.out.o, none⟩) m.out.length p.out.c, .slice (some ⟨p.soft.b, p.soft.o, none⟩) m.soft.length p.soft.c, .slice (some ⟨p.odds.b, p.odds.o, none⟩) m.odds.length p.odds.c] : List Value).toArray, .agg (reqC id dl g1 0 N c1 mo seed).toArray] wx fun e w' => ∃ v, e = .returned (.tuple #[v, .int .i64 0]) ∧ Hid (Below wx.heap.size wx w') ∧ Hid (w'.ownsRow wx.heap.size 3 1 v (toksOf m W V l seed mo).length (ints (toksOf m W V l seed mo)))))
      have HAL1 := Lib.hid (HAL.out 1 2 most HSS.out wr HMM.out HRP.out)
      have htl := toks_len m W V l seed most HSS.out.1
      simp only [reqC] at HAL1
      generalize htk : toksOf m W V l seed most = tk at *
      have HTK := Lib.hid htk
      clear htk
      have cm := HKM.out.cell
      have cr := HR.out.cell
      go_upto_region 9 with (go_at_call 8; refine HAL1.out.mono ?_; rintro e w7 ⟨v, rfl, HB7, HO7⟩; obtain ⟨ga, ca, hv⟩ := own_place HO7.out htl.1; subst hv)
      have HRA := Lib.hid (rdat_own HO7.out)
      generalize htle : tk.length = tl at *
      have HTL := Lib.hid htle
      have HSTD := Lib.hid (stands_any w7 (HP.out w7 (HKX.out.app (HB7.out.mono HKX.out.size))))
      clear htle cm cr
      have t1 : ((tl : Int) == 0) = false := by simp; omega
      have t2 : decide ((most : Int) < (tl : Int)) = false := decide_eq_false (by omega)
      have cr7 := (HR.out.below HB7.out).cell
      go_upto_region 11 with (go_at_call 9; refine HSTD.out.mono ?_; rintro e w8 ⟨rfl, HB8⟩; have cr8 := ((HR.out.below HB7.out).below HB8.out).cell)
      obtain ⟨w9, hw9, hb9, hk9⟩ : ∃ w9, w8.alloc (.cells #[.int .i64 1, .int .i64 2, .slice (some ⟨g1, 0, none⟩) N c1, .int .i64 most, .int .i64 seed] 32) = w9 ∧ Below w8.heap.size w8 w9 ∧ Blk w9 w8.heap.size [.int .i64 1, .int .i64 2, .slice (some ⟨g1, 0, none⟩) N c1, .int .i64 most, .int .i64 seed] 32 := ⟨_, rfl, (Below.refl _ _).alloc (Nat.le_refl _) _, heap_alloc_new w8 _⟩
      have HB79 := Lib.hid (HB8.out.trans (hb9.mono HB8.out.size))
      have HB9 := Lib.hid (HB7.out.trans (HB79.out.mono HB7.out.size))
      have HK9 := Lib.hid hk9
      have HQS := Lib.hid (show w7.heap.size ≤ w8.heap.size ∧ wr.heap.size ≤ w8.heap.size from ⟨HB8.out.size, Nat.le_trans HB7.out.size HB8.out.size⟩)
      have HR9 := Lib.hid (HR.out.below HB9.out)
      have HS9 := Lib.hid (HS.out.below HB9.out)
      go_upto_region 12 with fail
      generalize hqb : w8.heap.size = qb at *
      have HRG := Lib.hid (Range_st xb _ Ls (1005 + N) (by omega) 1 most (by have := HSS.out; omega) w9 HS9.out)
      have cr9 := HR9.out.cell
      have HXQ := Lib.hid (show qb ≠ xb ∧ xb < wr.heap.size by have := HQS.out; have := HXR.out; have := HK.out.size; omega)
      clear hw9 hb9 hk9 hqb cr7 cr8
      go_upto_region 13 with (go_at_call 5; refine HRG.out.mono ?_; rintro e w10 ⟨mo, rfl, HMO, HA10⟩; obtain ⟨mo2, rfl⟩ : ∃ mo2 : Nat, mo = (mo2 : Int) := ⟨mo.toNat, by have := HMO.out; omega⟩; have HK10 := Lib.hid (HA10.out.1.blk HK9.out HXQ.out.1); have c10 := HK10.out.cell; have f10 := HK10.out.frozen)
      obtain ⟨w11, hw11⟩ : ∃ w11, ((w10.setCell ⟨qb, 0, none⟩ (.int .i64 77)).setCell ⟨qb, 1, none⟩ (.int .i64 5)).setCell ⟨qb, 3, none⟩ (.int .i64 (mo2 : Int)) = w11 := ⟨_, rfl⟩
      have HK11 := Lib.hid (show Blk w11 qb [.int .i64 77, .int .i64 5, .slice (some ⟨g1, 0, none⟩) N c1, .int .i64 mo2, .int .i64 seed] 32 by rw [← hw11]; exact ((HK10.out.set 0 _).set 1 _).set 3 _)
      have HC11 := Lib.hid (show Keep2 xb qb wr w11 by rw [← hw11]; exact (((((Keep2.refl xb qb wr).app HB9.out).keep HA10.out.1).set 0 _).set 1 _).set 3 _)
      have HC71 := Lib.hid (show Keep2 xb qb w7 w11 by rw [← hw11]; exact (((((Keep2.refl xb qb w7).app HB79.out).keep HA10.out.1).set 0 _).set 1 _).set 3 _)
      have HMO2 := Lib.hid (show 1 ≤ mo2 ∧ mo2 ≤ most ∧ mo2 ≤ 8 by have := HMO.out; have := HSS.out; omega)
      rw [hw11]
      clear hw11 c10 f10 cr9
      have HG1 := Lib.hid (show w5.heap.size ≤ g1 ∧ g1 < wr.heap.size from ⟨ownsRow_base HO.out g1 rfl, (HO.out.lt g1 rfl).2⟩)
      have HGA := Lib.hid (show wr.heap.size ≤ ga ∧ ga < w7.heap.size from ⟨ownsRow_base HO7.out ga rfl, (HO7.out.lt ga rfl).2⟩)
      have HM11 := Lib.hid (HMM.out.keep2 HOK.out HBET.out HC11.out HXB.out (by have := HQS.out; have := HMB.out; have := HRB5.out; have := HK.out.size; omega))
      have HR11 := Lib.hid (HRP.out.keep2 (by rw [HL.out.1]; omega) HC11.out (by have := HG1.out; have := HXR.out; omega) (by have := HG1.out; have := HQS.out; omega))
      have HT11 := Lib.hid (HRA.out.keep2 (by rw [HTL.out]; exact htl.1) HC71.out (by have := HGA.out; have := HXQ.out; omega) (by have := HGA.out; have := HQS.out; omega))
      have HAL2 := Lib.hid (HAL.out 77 5 mo2 (by have := HMO2.out; omega) w11 HM11.out HR11.out)
      have htl2 := toks_len m W V l seed mo2 HMO2.out.1
      have HPT := Lib.hid (show toksOf m W V l seed mo2 = tk.take (min tk.length mo2) by rw [← HTK.out]; exact gen_part _ _ _ _ HMO2.out.2.1)
      have HIN := Lib.hid (show ∀ i, i + 1 < tk.length → tk.getD i 0 ≠ 0 by rw [← HTK.out]; exact gen_inner _ _ _)
      have HEN := Lib.hid (show tk.length = most ∨ tk.getLast? = some 0 by rw [← HTK.out]; exact gen_end _ _ _)
      simp only [reqC] at HAL2
      generalize toksOf m W V l seed mo2 = tk2 at *
      have cm := (HKM.out.keep2 HC11.out HMX.out (by have := HQS.out; have := HMB.out; have := HRB5.out; have := HK.out.size; omega)).cell
      have cq := HK11.out.cell
      go_upto_region 14 with (go_at_call 8; refine HAL2.out.mono ?_; rintro e w12 ⟨v, rfl, HB12, HO12⟩; obtain ⟨gb, cb, hv⟩ := own_place HO12.out htl2.1; subst hv)
      have HRB := Lib.hid (rdat_own HO12.out)
      have HRA12 := Lib.hid (HT11.out.below HB12.out)
      have cq12 := (HK11.out.below HB12.out).cell
      have cr12 := ((HR.out.keep2 HC11.out HRX.out (by have := HQS.out; have := HRB5.out; have := HK.out.size; omega)).below HB12.out).cell
      clear cm cq
      generalize htl2e : tk2.length = tl2 at *
      have HTL2 := Lib.hid htl2e
      obtain ⟨mm, hmm⟩ : ∃ mm, mm = min tl mo2 := ⟨_, rfl⟩
      obtain ⟨tl1, htl1⟩ : ∃ tl1, tl = tl1 + 1 := ⟨tl - 1, by omega⟩
      have em : min (tl : Int) (mo2 : Int) = (mm : Int) := by omega
      have hm1 : mm ≤ tl := by omega
      have hm0 : 1 ≤ mm := by have := HMO2.out; omega
      have hmi : (mm : Int) ≤ (tl : Int) := by omega
      have HEQ := Lib.hid (show (tk2.take tl2 == tk.take mm) = true by rw [← HTL2.out, List.take_length, HPT.out, HTL.out, hmm]; exact beq_self_eq_true _)
      have HEQC := Lib.hid (fun (wx : World) (h1 : RdAt wx gb 0 cb tk2) (h2 : RdAt wx ga 0 ca tk) => Tryz.slices_Equal_int gb 0 tl2 cb ga 0 mm ca tk2 tk wx (by rw [HTL2.out]; exact Nat.le_refl _) (by rw [HTL.out]; exact hm1) (by have := HSS.out; have := HMO2.out; omega) (by have := HSS.out; omega) h1.2.2 h2.2.2)
      have HCON := Lib.hid (show (tk.take tl1).contains 0 = false by
        rw [List.contains_eq_mem, decide_eq_false_iff_not]
        intro hmem
        obtain ⟨q, hq, e⟩ := List.getElem_of_mem hmem
        have hq2 : q < tl1 := by rw [List.length_take] at hq; omega
        have := HIN.out q (by rw [HTL.out, htl1]; omega)
        rw [List.getElem_take] at e
        apply this
        rw [← e]; simp [List.getD, show q < tk.length by rw [HTL.out]; omega])
      have HCC := Lib.hid (fun (wx : World) (h2 : RdAt wx ga 0 ca tk) => Tryz.slices_Contains_int ga 0 tl1 ca tk 0 wx (by rw [HTL.out]; omega) (by have := HSS.out; omega) h2.2.2)
      have e1 : IntKind.i64.wrap ((tl : Int) - 1) = (tl1 : Int) := by rw [IntWalk.i64_in _ (by have := HSS.out; omega)]; omega
      have e2 : wrap64 ((tl : Int) - 1) = (tl1 : Int) := by rw [wrap64_in (by have := HSS.out; omega)]; omega
      have hca := HRA12.out.1
      rw [HTL.out] at hca
      have hmc : (mm : Int) ≤ (ca : Int) := by omega
      have h1c : (tl1 : Int) ≤ (ca : Int) := by omega
      have h1t : tl1 ≤ ca := by omega
      have hmt : mm ≤ ca := by omega
      have hti : (tl1 : Int) < (tl : Int) := by omega
      have HFIN := Lib.hid (show Below w.heap.size w w12 from by
        rw [HXE.out]
        have a1 : Below xb w w0 := HB0.out
        have a2 := below_x a1 HKX.out (Nat.le_refl _) (Nat.le_of_lt HXB.out)
        have a3 := HC11.out.below a2 (Nat.le_refl _) (by have := HQS.out; have := HXQ.out; omega) (by have := HXQ.out; omega)
        exact a3.trans (HB12.out.mono (Nat.le_trans (Nat.le_of_lt HXQ.out.2) HC11.out.size)))
      have hlast := HRA12.out.2.2 tl1 (by rw [HTL.out]; omega)
      rw [Nat.zero_add] at hlast
      have HLZ := Lib.hid (show tl ≠ most → tk.getD tl1 0 = 0 from fun h => by
        rcases HEN.out with h1 | h1
        · exact absurd (HTL.out.symm.trans h1) h
        · rw [List.getLast?_eq_getElem?, HTL.out, show tl - 1 = tl1 by omega] at h1
          simp [List.getD, h1])
      clear htl2e hmm htl1 htl htl2
      by_cases hlm : tl = most
      · have b1 : ((tl : Int) == (most : Int)) = true := by simp [hlm]
        clear hlm hlast
        go_wp2_with (first
          | (go_at_call 10; refine (HEQC.out _ HRB.out HRA12.out).mono ?_; rintro e w13 ⟨rfl, kq, hw13⟩; rw [HEQ.out]; have HRA13 := Lib.hid (show RdAt w13 ga 0 ca tk by rw [hw13]; exact HRA12.out.drewN _); have cr13 := (show ∀ o, w13.cell? ⟨rb, o, none⟩ = ([Value.int .i64 1, .int .i64 2, .slice (some ⟨g1, 0, none⟩) N c1, .int .i64 most, .int .i64 seed] : List Value)[o]? by rw [hw13]; exact cr12); have HW13 := Lib.hid hw13; clear hw13)
          | (go_at_call 11; refine (HCC.out _ HRA13.out).mono ?_; rintro e wz ⟨rfl, hz⟩; subst wz; rw [HCON.out]))
        go_ret
        exact ⟨rfl, Lib.hid (by rw [HW13.out]; exact below_drewN HFIN.out _)⟩
      · have b1 : ((tl : Int) == (most : Int)) = false := by simp; omega
        have hz := HLZ.out hlm
        rw [hz] at hlast
        clear hlm hz
        go_wp2_with (first
          | (go_at_call 10; refine (HEQC.out _ HRB.out HRA12.out).mono ?_; rintro e w13 ⟨rfl, kq, hw13⟩; rw [HEQ.out]; have HRA13 := Lib.hid (show RdAt w13 ga 0 ca tk by rw [hw13]; exact HRA12.out.drewN _); have cr13 := (show ∀ o, w13.cell? ⟨rb, o, none⟩ = ([Value.int .i64 1, .int .i64 2, .slice (some ⟨g1, 0, none⟩) N c1, .int .i64 most, .int .i64 seed] : List Value)[o]? by rw [hw13]; exact cr12); have hl13 := (show w13.cell? ⟨ga, tl1, none⟩ = some (.int .i64 0) by rw [hw13]; exact hlast); have HW13 := Lib.hid hw13; clear hw13)
          | (go_at_call 11; refine (HCC.out _ HRA13.out).mono ?_; rintro e wz ⟨rfl, hz⟩; subst wz; rw [HCON.out]))
        go_ret
        exact ⟨rfl, Lib.hid (by rw [HW13.out]; exact below_drewN HFIN.out _)⟩
end Go.Proofs.YtdbhlkejfecffaaGreatDoor
