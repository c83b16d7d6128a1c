/-
  Models: small functions; what can be read of a model.
  Models: sized, rows, formed, Max.
-/
import Derived.Test.YtllpoaoboieijaaGreatSa2
import Derived.Test.YtllpoaoboieijaaGreatSa4
/-
  Models: small functions; what can be read of a model.
-/
namespace Go.Proofs.YtllpoaoboieijaaGreat
open Go.RowKit

/-- Whole numbers that can be read, at a place. -/
def RdAt (w : World) (b o c : Nat) (l : List Int) : Prop := l.length ≤ c ∧ c ≤ maxLen ∧ ∀ i, i < l.length → w.cell? ⟨b, o + i, none⟩ = some (.int .i64 (l.getD i 0))
theorem RdAt.lt {w : World} {b o c : Nat} {l : List Int} (h : RdAt w b o c l) (h0 : 0 < l.length) : b < w.heap.size := World.block_lt_of_cell? w _ (h.2.2 0 h0)
theorem RdAt.below {w w' : World} {b o c : Nat} {l : List Int} (h : RdAt w b o c l) (hb : Below w.heap.size w w') : RdAt w' b o c l := by
  refine ⟨h.1, h.2.1, fun i hi => ?_⟩
  rw [World.cell?_of_block (a := ⟨b, o + i, none⟩) (hb.block b (h.lt (by omega)))]
  exact h.2.2 i hi
theorem RdAt.drewN {w : World} {b o c : Nat} {l : List Int} (h : RdAt w b o c l) (n : Nat) : RdAt (w.drewN n) b o c l := h
theorem RdAt.part {w : World} {b o c : Nat} {l : List Int} (h : RdAt w b o c l) (i n : Nat) (hn : i + n ≤ l.length) : RdAt w b (o + i) (c - i) ((l.drop i).take n) := by
  have hl : ((l.drop i).take n).length = n := by simp; omega
  refine ⟨by rw [hl]; have := h.1; omega, by have := h.2.1; omega, fun j hj => ?_⟩
  rw [hl] at hj
  rw [Nat.add_assoc, h.2.2 (i + j) (by omega)]
  simp [List.getD, List.getElem?_drop, hj]
/-- The places of a model's lists. -/
structure Pl where
  b : Nat
  o : Nat
  c : Nat
structure MPl where
  cuts : Pl
  embed : Pl
  place : Pl
  mix : Pl
  out : Pl
  soft : Pl
  odds : Pl
/-- The model that Demo makes, as a value. -/
def demoCells (p : MPl) : List Value := [.int .i64 1, .int .i64 8, .int .i64 4, .int .i64 8, .slice (some ⟨p.cuts.b, p.cuts.o, none⟩) 4 p.cuts.c, .slice (some ⟨p.embed.b, p.embed.o, none⟩) 32 p.embed.c, .slice (some ⟨p.place.b, p.place.o, none⟩) 16 p.place.c,
  .slice (some ⟨p.mix.b, p.mix.o, none⟩) 48 p.mix.c, .slice (some ⟨p.out.b, p.out.o, none⟩) 32 p.out.c, .slice (some ⟨p.soft.b, p.soft.o, none⟩) 7 p.soft.c, .slice (some ⟨p.odds.b, p.odds.o, none⟩) 6 p.odds.c]
structure DemoAt (w : World) (p : MPl) : Prop where
  cuts : RdAt w p.cuts.b p.cuts.o p.cuts.c demoM.cuts
  embed : RdAt w p.embed.b p.embed.o p.embed.c demoM.embed
  place : RdAt w p.place.b p.place.o p.place.c demoM.place
  mix : RdAt w p.mix.b p.mix.o p.mix.c demoM.mix
  out : RdAt w p.out.b p.out.o p.out.c demoM.out
  soft : RdAt w p.soft.b p.soft.o p.soft.c demoM.soft
  odds : RdAt w p.odds.b p.odds.o p.odds.c demoM.odds
theorem DemoAt.below {w w' : World} {p : MPl} (h : DemoAt w p) (hb : Below w.heap.size w w') : DemoAt w' p :=
  ⟨h.cuts.below hb, h.embed.below hb, h.place.below hb, h.mix.below hb, h.out.below hb, h.soft.below hb, h.odds.below hb⟩
theorem DemoAt.drewN {w : World} {p : MPl} (h : DemoAt w p) (n : Nat) : DemoAt (w.drewN n) p := ⟨h.cuts, h.embed, h.place, h.mix, h.out, h.soft, h.odds⟩

def inB (x lo hi : Int) : Bool := decide (lo ≤ x) && decide (x ≤ hi)
theorem inB_true {x lo hi : Int} (h : lo ≤ x ∧ x ≤ hi) : inB x lo hi = true := by simp [inB, h.1, h.2]
set_option maxRecDepth 100000 in
set_option maxHeartbeats 400000 in
theorem mwithin_yes (x lo hi : Int) (h : lo ≤ x ∧ x ≤ hi) (w : World) : Calls Tryz.prog 41 #[.int .i64 x, .int .i64 lo, .int .i64 hi] w fun e w' => e = .returned (.bool true) ∧ w' = w := by
  have h1 := h.1
  have t1 : decide (x ≤ hi) = true := decide_eq_true h.2
  have h2 := h.2
  clear h
  go_enter Tryz.func41, Tryz.ntmps41
  go_wp2
  go_ret
  exact ⟨by first | rfl | (congr 2), rfl⟩

def w32 (n : Int) : Int := wrap64 (RowKit.wrap32 n)
theorem w32_in (n : Int) : -2147483648 ≤ w32 n ∧ w32 n ≤ 2147483647 := by
  unfold w32 wrap64 RowKit.wrap32
  omega
set_option maxRecDepth 100000 in
set_option maxHeartbeats 400000 in
theorem wrap_any (n : Int) (w : World) : Calls Tryz.prog 78 #[.int .i64 n] w fun e w' => e = .returned (.int .i64 (w32 n)) ∧ w' = w := by
  go_enter Tryz.func78, Tryz.ntmps78
  go_wp2
  go_ret
  exact ⟨rfl, rfl⟩
def shiftI (n k : Int) : Int := wrap64 (n + k) / (2 * k)
set_option maxRecDepth 100000 in
set_option maxHeartbeats 400000 in
theorem shift_4 (n : Int) (w : World) : Calls Tryz.prog 79 #[.int .i64 n, .int .i64 4] w fun e w' => e = .returned (.int .i64 (shiftI n 8)) ∧ w' = w := by
  go_enter Tryz.func79, Tryz.ntmps79
  go_wp2
  go_ret
  exact ⟨rfl, rfl⟩
set_option maxRecDepth 100000 in
set_option maxHeartbeats 400000 in
theorem shift_6 (n : Int) (w : World) : Calls Tryz.prog 79 #[.int .i64 n, .int .i64 6] w fun e w' => e = .returned (.int .i64 (shiftI n 32)) ∧ w' = w := by
  go_enter Tryz.func79, Tryz.ntmps79
  go_wp2
  go_ret
  exact ⟨rfl, rfl⟩
set_option maxRecDepth 100000 in
set_option maxHeartbeats 400000 in
theorem shift_8 (n : Int) (w : World) : Calls Tryz.prog 79 #[.int .i64 n, .int .i64 8] w fun e w' => e = .returned (.int .i64 (shiftI n 128)) ∧ w' = w := by
  go_enter Tryz.func79, Tryz.ntmps79
  go_wp2
  go_ret
  exact ⟨rfl, rfl⟩
set_option maxRecDepth 100000 in
set_option maxHeartbeats 400000 in
theorem row_4 (b o c n k : Nat) (hk : 4 * (k + 1) ≤ n) (hn : n ≤ c) (hc : n ≤ 1000) (w : World) : Calls Tryz.prog 76 #[.slice (some ⟨b, o, none⟩) n c, .int .i64 k, .int .i64 4] w fun e w' => e = .returned (.slice (some ⟨b, o + 4 * k, none⟩) 4 (c - 4 * k)) ∧ w' = w := by
  have e1 : IntKind.i64.wrap ((k : Int) * 4) = ((4 * k : Nat) : Int) := by rw [IntWalk.i64_in _ (by omega)]; omega
  have e2 : IntKind.i64.wrap ((k : Int) + 1) = ((k + 1 : Nat) : Int) := by rw [IntWalk.i64_in _ (by omega)]; omega
  have e3 : IntKind.i64.wrap (((k + 1 : Nat) : Int) * 4) = ((4 * k + 4 : Nat) : Int) := by rw [IntWalk.i64_in _ (by omega)]; omega
  have h1 : ¬ c = 4 * k := by omega
  have he : (k + 1) * 4 - 4 * k = 4 := by omega
  have HE := Lib.hid he
  clear he
  go_enter Tryz.func76, Tryz.ntmps76
  go_wp2
  go_ret
  exact ⟨by show Ending.returned (.slice _ ((k + 1) * 4 - 4 * k) _) = _; rw [HE.out], rfl⟩
set_option maxRecDepth 100000 in
set_option maxHeartbeats 400000 in
theorem row_16 (b o c n k : Nat) (hk : 16 * (k + 1) ≤ n) (hn : n ≤ c) (hc : n ≤ 1000) (w : World) : Calls Tryz.prog 76 #[.slice (some ⟨b, o, none⟩) n c, .int .i64 k, .int .i64 16] w fun e w' => e = .returned (.slice (some ⟨b, o + 16 * k, none⟩) 16 (c - 16 * k)) ∧ w' = w := by
  have e1 : IntKind.i64.wrap ((k : Int) * 16) = ((16 * k : Nat) : Int) := by rw [IntWalk.i64_in _ (by omega)]; omega
  have e2 : IntKind.i64.wrap ((k : Int) + 1) = ((k + 1 : Nat) : Int) := by rw [IntWalk.i64_in _ (by omega)]; omega
  have e3 : IntKind.i64.wrap (((k + 1 : Nat) : Int) * 16) = ((16 * k + 16 : Nat) : Int) := by rw [IntWalk.i64_in _ (by omega)]; omega
  have h1 : ¬ c = 16 * k := by omega
  have he : (k + 1) * 16 - 16 * k = 16 := by omega
  have HE := Lib.hid he
  clear he
  go_enter Tryz.func76, Tryz.ntmps76
  go_wp2
  go_ret
  exact ⟨by show Ending.returned (.slice _ ((k + 1) * 16 - 16 * k) _) = _; rw [HE.out], rfl⟩
def dotTo (a b : List Int) : Nat → Int
  | 0 => 0
  | i + 1 => w32 (wrap64 (dotTo a b i + w32 (wrap64 (a.getD i 0 * b.getD i 0))))
def dotI (a b : List Int) : Int := dotTo a b a.length
set_option maxRecDepth 100000 in
set_option maxHeartbeats 800000 in
theorem dot_any (l m : List Int) (b o c b2 o2 c2 n2 : Nat) (w : World) (ha : RdAt w b o c l) (hb : RdAt w b2 o2 c2 m) (hlm : l.length ≤ m.length) (hl : l.length ≤ 1000) (hn2 : n2 = m.length) :
    Calls Tryz.prog 80 #[.slice (some ⟨b, o, none⟩) l.length c, .slice (some ⟨b2, o2, none⟩) n2 c2] w fun e w' => e = .returned (.int .i64 (dotI l m)) ∧ ∃ k, w' = w.drewN k := by
  subst hn2
  have HA := Lib.hid ha
  have HB := Lib.hid hb
  clear ha hb
  go_enter Tryz.func80, Tryz.ntmps80
  go_wp2
  go_loopg [5, 9] l.length (fun gk s5 s9 wx => ∃ i nq : Nat, s9 = .int .i64 i ∧ i ≤ l.length ∧ s5 = .int .i64 (dotTo l m i) ∧ wx = w.drewN nq ∧ gk = l.length - i)
  case atStart => exact ⟨0, 0, rfl, Nat.zero_le _, rfl, rfl, rfl⟩
  case round =>
    obtain ⟨i, nq, rfl, hil, rfl, hwx, rfl⟩ := hrel
    have HA1 := Lib.hid (show RdAt wr b o c l by rw [hwx]; exact HA.out.drewN nq)
    have HB1 := Lib.hid (show RdAt wr b2 o2 c2 m by rw [hwx]; exact HB.out.drewN nq)
    have HWX := Lib.hid hwx
    clear hwx
    by_cases hlt : i < l.length
    · have c1 := HA1.out.2.2 i hlt
      have c2 := HB1.out.2.2 i (by omega)
      have t1 : ((i : Nat) : Int) < (m.length : Int) := by omega
      have hd : dotTo l m (i + 1) = w32 (wrap64 (dotTo l m i + w32 (wrap64 (l.getD i 0 * m.getD i 0)))) := rfl
      have HD := Lib.hid hd
      clear hd
      generalize l.getD i 0 = x at c1 HD
      generalize m.getD i 0 = y at c2 HD
      generalize dotTo l m i = z at HD ⊢
      go_upto_region 5 with fail
      go_quiet ((go_at_call 78; exact Calls.quiet_of_same (wrap_any _ _)))
      go_wp2
      go_roundg (l.length - (i + 1))
      case measure => omega
      case rel => exact ⟨i + 1, _, by go_num, by omega, by rw [HD.out], by rw [HWX.out, World.drewN_drewN], rfl⟩
    · have : i = l.length := by omega
      subst this
      go_wp2
      go_ret
      exact ⟨rfl, _, HWX.out⟩

set_option maxRecDepth 100000 in
set_option maxHeartbeats 400000 in
theorem matrix_any (p : MPl) (k : Nat) (hk : k < 3) (h48 : 48 ≤ p.mix.c) (w : World) : Calls Tryz.prog 81 #[.agg (demoCells p).toArray, .int .i64 k] w fun e w' => e = .returned (.slice (some ⟨p.mix.b, p.mix.o + 16 * k, none⟩) 16 (p.mix.c - 16 * k)) ∧ Below w.heap.size w w' := by
  have hb : ∀ o, Below w.heap.size w (w.alloc o) := fun o => (Below.refl _ _).alloc (Nat.le_refl _) o
  have HB := Lib.hid hb
  clear hb
  unfold demoCells
  go_enter Tryz.func81, Tryz.ntmps81
  go_wp2_with (go_at_call 76; refine (row_16 _ _ _ _ _ (by omega) h48 (by omega) _).mono ?_; rintro e w1 ⟨rfl, rfl⟩)
  go_ret
  exact ⟨rfl, HB.out _⟩
set_option maxRecDepth 100000 in
set_option maxHeartbeats 400000 in
theorem length_any (p : MPl) (w : World) : Calls Tryz.prog 126 #[.agg (demoCells p).toArray] w fun e w' => e = .returned (.int .i64 12) ∧ Below w.heap.size w w' := by
  have hb : ∀ o, Below w.heap.size w (w.alloc o) := fun o => (Below.refl _ _).alloc (Nat.le_refl _) o
  have HB := Lib.hid hb
  clear hb
  unfold demoCells
  go_enter Tryz.func126, Tryz.ntmps126
  go_wp2
  go_ret
  exact ⟨rfl, HB.out _⟩
set_option maxRecDepth 100000 in
set_option maxHeartbeats 400000 in
theorem drawOK_yes (x : Int) (h : 0 ≤ x ∧ x ≤ 4294967295) (w : World) : Calls Tryz.prog 117 #[.int .i64 x] w fun e w' => e = .returned (.bool true) ∧ w' = w := by
  go_enter Tryz.func117, Tryz.ntmps117
  go_wp2_with (go_at_call 41; refine (mwithin_yes _ _ _ h _).mono ?_; rintro e w1 ⟨rfl, rfl⟩)
  go_ret
  exact ⟨rfl, rfl⟩
set_option maxRecDepth 100000 in
set_option maxHeartbeats 400000 in
theorem mword_yes (x : Int) (h : -2147483648 ≤ x ∧ x ≤ 2147483647) (w : World) : Calls Tryz.prog 42 #[.int .i64 x] w fun e w' => e = .returned (.bool true) ∧ w' = w := by
  go_enter Tryz.func42, Tryz.ntmps42
  go_wp2_with (go_at_call 41; refine (mwithin_yes _ _ _ h _).mono ?_; rintro e w1 ⟨rfl, rfl⟩)
  go_ret
  exact ⟨rfl, rfl⟩
set_option maxRecDepth 100000 in
set_option maxHeartbeats 400000 in
theorem entW_any (x : Int) (h : -2147483648 ≤ x ∧ x ≤ 2147483647) (w : World) : Calls Tryz.prog 127 #[.int .i64 x] w fun e w' => e = .returned (.bool false) ∧ w' = w := by
  go_enter Tryz.func127, Tryz.ntmps127
  go_wp2_with (go_at_call 42; refine (mword_yes _ h _).mono ?_; rintro e w1 ⟨rfl, rfl⟩)
  go_ret
  exact ⟨rfl, rfl⟩
set_option maxRecDepth 100000 in
set_option maxHeartbeats 400000 in
theorem allW_any (x lo hi : Int) (h : lo ≤ x ∧ x ≤ hi) (b1 b2 : Nat) (w : World) (h1 : w.cell? ⟨b1, 0, none⟩ = some (.int .i64 lo)) (h2 : w.cell? ⟨b2, 0, none⟩ = some (.int .i64 hi)) : Calls Tryz.prog 75 #[.int .i64 x, .pointer (some ⟨b1, 0, none⟩), .pointer (some ⟨b2, 0, none⟩)] w fun e w' => e = .returned (.bool false) ∧ w' = w := by
  go_enter Tryz.func75, Tryz.ntmps75
  go_wp2_with (go_at_call 41; refine (mwithin_yes _ _ _ h _).mono ?_; rintro e w1 ⟨rfl, rfl⟩)
  go_ret
  exact ⟨rfl, rfl⟩
set_option maxRecDepth 100000 in
set_option maxHeartbeats 400000 in
theorem ent_idx (l : List Int) (lo hi : Int) (hall : ∀ x, x ∈ l → lo ≤ x ∧ x ≤ hi) (hw : -2147483648 ≤ lo ∧ hi ≤ 2147483647) (b o c : Nat) (hl : l.length ≤ 1000) (w : World) (hr : RdAt w b o c l) :
    Calls Tryz.prog 87 #[.slice (some ⟨b, o, none⟩) l.length c, .func (.func 127) #[] #[]] w fun e w' => e = .returned (.int .i64 (-1)) ∧ w' = w := by
  have HT := Lib.hid (fun x (hx : x ∈ l) => entW_any x (by have := hall x hx; omega) w)
  have H := Lib.hid hr
  clear hall hr hw
  go_enter Tryz.func87, Tryz.ntmps87
  go_wp2
  go_loopg [8] l.length (fun gk s8 wx => ∃ i : Nat, s8 = .int .i64 i ∧ i ≤ l.length ∧ wx = w ∧ gk = l.length - i)
  case atStart => exact ⟨0, rfl, Nat.zero_le _, rfl, rfl⟩
  case round =>
    obtain ⟨i, rfl, hil, rfl, rfl⟩ := hrel
    by_cases hlt : i < l.length
    · have c1 := H.out.2.2 i hlt
      have hm : l.getD i 0 ∈ l := by rw [show l.getD i 0 = l[i] by simp [List.getD, hlt]]; exact List.getElem_mem hlt
      have HM := Lib.hid hm
      clear hm
      generalize l.getD i 0 = x at c1 HM
      go_wp2_with (go_at_call 127; refine (HT.out x HM.out).mono ?_; rintro e w1 ⟨rfl, rfl⟩)
      go_roundg (l.length - (i + 1))
      case measure => omega
      case rel => exact ⟨i + 1, by go_num, by omega, rfl, rfl⟩
    · go_wp2
      go_ret
      exact ⟨rfl, rfl⟩
set_option maxRecDepth 100000 in
set_option maxHeartbeats 400000 in
theorem ent_has (l : List Int) (lo hi : Int) (hall : ∀ x, x ∈ l → lo ≤ x ∧ x ≤ hi) (hw : -2147483648 ≤ lo ∧ hi ≤ 2147483647) (b o c : Nat) (hl : l.length ≤ 1000) (w : World) (hr : RdAt w b o c l) :
    Calls Tryz.prog 62 #[.slice (some ⟨b, o, none⟩) l.length c, .func (.func 127) #[] #[]] w fun e w' => e = .returned (.bool false) ∧ w' = w := by
  have HI := Lib.hid (ent_idx l lo hi hall hw b o c hl w hr )
  clear hall hr hw hl
  go_enter Tryz.func62, Tryz.ntmps62
  go_wp2_with (go_at_call 87; refine HI.out.mono ?_; rintro e w1 ⟨rfl, rfl⟩)
  go_ret
  exact ⟨rfl, rfl⟩
set_option maxRecDepth 100000 in
set_option maxHeartbeats 400000 in
theorem all_idx (l : List Int) (lo hi : Int) (hall : ∀ x, x ∈ l → lo ≤ x ∧ x ≤ hi) (b1 b2 : Nat) (b o c : Nat) (hl : l.length ≤ 1000) (w : World) (hr : RdAt w b o c l) (h1 : w.cell? ⟨b1, 0, none⟩ = some (.int .i64 lo)) (h2 : w.cell? ⟨b2, 0, none⟩ = some (.int .i64 hi)) :
    Calls Tryz.prog 87 #[.slice (some ⟨b, o, none⟩) l.length c, .func (.func 75) #[] #[.pointer (some ⟨b1, 0, none⟩), .pointer (some ⟨b2, 0, none⟩)]] w fun e w' => e = .returned (.int .i64 (-1)) ∧ w' = w := by
  have HT := Lib.hid (fun x (hx : x ∈ l) => allW_any x lo hi (hall x hx) b1 b2 w h1 h2)
  have H := Lib.hid hr
  clear hall hr h1 h2
  go_enter Tryz.func87, Tryz.ntmps87
  go_wp2
  go_loopg [8] l.length (fun gk s8 wx => ∃ i : Nat, s8 = .int .i64 i ∧ i ≤ l.length ∧ wx = w ∧ gk = l.length - i)
  case atStart => exact ⟨0, rfl, Nat.zero_le _, rfl, rfl⟩
  case round =>
    obtain ⟨i, rfl, hil, rfl, rfl⟩ := hrel
    by_cases hlt : i < l.length
    · have c1 := H.out.2.2 i hlt
      have hm : l.getD i 0 ∈ l := by rw [show l.getD i 0 = l[i] by simp [List.getD, hlt]]; exact List.getElem_mem hlt
      have HM := Lib.hid hm
      clear hm
      generalize l.getD i 0 = x at c1 HM
      go_wp2_with (go_at_call 75; refine (HT.out x HM.out).mono ?_; rintro e w1 ⟨rfl, rfl⟩)
      go_roundg (l.length - (i + 1))
      case measure => omega
      case rel => exact ⟨i + 1, by go_num, by omega, rfl, rfl⟩
    · go_wp2
      go_ret
      exact ⟨rfl, rfl⟩
set_option maxRecDepth 100000 in
set_option maxHeartbeats 400000 in
theorem all_has (l : List Int) (lo hi : Int) (hall : ∀ x, x ∈ l → lo ≤ x ∧ x ≤ hi) (b1 b2 : Nat) (b o c : Nat) (hl : l.length ≤ 1000) (w : World) (hr : RdAt w b o c l) (h1 : w.cell? ⟨b1, 0, none⟩ = some (.int .i64 lo)) (h2 : w.cell? ⟨b2, 0, none⟩ = some (.int .i64 hi)) :
    Calls Tryz.prog 62 #[.slice (some ⟨b, o, none⟩) l.length c, .func (.func 75) #[] #[.pointer (some ⟨b1, 0, none⟩), .pointer (some ⟨b2, 0, none⟩)]] w fun e w' => e = .returned (.bool false) ∧ w' = w := by
  have HI := Lib.hid (all_idx l lo hi hall b1 b2 b o c hl w hr h1 h2)
  clear hall hr h1 h2 hl
  go_enter Tryz.func62, Tryz.ntmps62
  go_wp2_with (go_at_call 87; refine HI.out.mono ?_; rintro e w1 ⟨rfl, rfl⟩)
  go_ret
  exact ⟨rfl, rfl⟩
set_option maxRecDepth 100000 in
set_option maxHeartbeats 400000 in
theorem all_yes (l : List Int) (lo hi : Int) (hall : ∀ x, x ∈ l → lo ≤ x ∧ x ≤ hi) (b o c n : Nat) (hn : n = l.length) (hl : l.length ≤ 1000) (w : World) (hr : RdAt w b o c l) :
    Calls Tryz.prog 43 #[.slice (some ⟨b, o, none⟩) n c, .int .i64 lo, .int .i64 hi] w fun e w' => e = .returned (.bool true) ∧ Below w.heap.size w w' := by
  subst hn
  have hb : ∀ o o', Below w.heap.size w ((w.alloc o).alloc o') := fun o o' => ((Below.refl _ _).alloc (Nat.le_refl _) o).alloc (by simp [World.size_alloc]) o'
  have HB := Lib.hid hb
  have HR := Lib.hid hr
  have HALL := Lib.hid hall
  clear hb hr hall
  go_enter Tryz.func43, Tryz.ntmps43
  go_wp2_with (go_at_call 62; refine (all_has l lo hi HALL.out _ _ b o c hl _ (HR.out.below (HB.out _ _)) (by simp [go_sem]) (by simp [go_sem])).mono ?_; rintro e w1 ⟨rfl, rfl⟩)
  go_ret
  exact ⟨rfl, HB.out _ _⟩
end Go.Proofs.YtllpoaoboieijaaGreat
/-
  Models: sized, rows, formed, Max.
-/
namespace Go.Proofs.YtllpoaoboieijaaGreat
open Go.RowKit

set_option maxRecDepth 100000 in
set_option maxHeartbeats 400000 in
theorem rows_16 (A : Option Addr) (c : Nat) (w : World) : Calls Tryz.prog 77 #[.slice A 16 c, .int .i64 4] w fun e w' => e = .returned (.int .i64 4) ∧ w' = w := by
  go_enter Tryz.func77, Tryz.ntmps77
  go_wp2
  go_ret
  exact ⟨rfl, rfl⟩
set_option maxRecDepth 100000 in
set_option maxHeartbeats 400000 in
theorem sized_demo (w : World) : Calls Tryz.prog 54 #[.int .i64 1, .int .i64 8, .int .i64 4] w fun e w' => e = .returned (.int .i64 0) ∧ w' = w := by
  go_enter Tryz.func54, Tryz.ntmps54
  go_wp2_with (go_at_call 41; refine (mwithin_yes _ _ _ (by omega) _).mono ?_; rintro e w1 ⟨rfl, rfl⟩)
  go_ret
  exact ⟨rfl, rfl⟩
set_option maxRecDepth 100000 in
set_option maxHeartbeats 800000 in
theorem formed_demo (p : MPl) (w : World) : Calls Tryz.prog 73 #[.agg (demoCells p).toArray] w fun e w' => e = .returned (.bool true) ∧ Below w.heap.size w w' := by
  have hb : ∀ o, Below w.heap.size w (w.alloc o) := fun o => (Below.refl _ _).alloc (Nat.le_refl _) o
  have HB := Lib.hid hb
  clear hb
  unfold demoCells
  go_enter Tryz.func73, Tryz.ntmps73
  go_wp2_with (first | (go_at_call 41; refine (mwithin_yes _ _ _ (by omega) _).mono ?_; rintro e w1 ⟨rfl, rfl⟩) | (go_at_call 77; refine (rows_16 _ _ _).mono ?_; rintro e w1 ⟨rfl, rfl⟩))
  go_ret
  exact ⟨rfl, HB.out _⟩
/-- The greatest of the first numbers. -/
def maxTo (l : List Int) : Nat → Int
  | 0 => l.getD 0 0
  | i + 1 => max (maxTo l i) (l.getD (i + 1) 0)
def maxI (l : List Int) : Int := maxTo l (l.length - 1)
theorem maxTo_ge (l : List Int) (n : Nat) : ∀ i, i ≤ n → l.getD i 0 ≤ maxTo l n := by
  induction n with
  | zero => intro i hi; rw [show i = 0 by omega]; exact Int.le_refl _
  | succ n ih =>
    intro i hi
    unfold maxTo
    by_cases h : i = n + 1
    · subst h; omega
    · have := ih i (by omega); omega
theorem maxTo_mem (l : List Int) (n : Nat) (hn : n < l.length) : ∃ i, i ≤ n ∧ maxTo l n = l.getD i 0 := by
  induction n with
  | zero => exact ⟨0, Nat.le_refl _, rfl⟩
  | succ n ih =>
    obtain ⟨i, hi, e⟩ := ih (by omega)
    unfold maxTo
    by_cases h : maxTo l n ≤ l.getD (n + 1) 0
    · exact ⟨n + 1, Nat.le_refl _, by omega⟩
    · exact ⟨i, by omega, by rw [← e]; omega⟩
set_option maxRecDepth 100000 in
set_option maxHeartbeats 800000 in
theorem max_any (l : List Int) (b o c n : Nat) (hn : n = l.length) (h0 : 0 < n) (hl : n ≤ 1000) (w : World) (hr : RdAt w b o c l) :
    Calls Tryz.prog 97 #[.slice (some ⟨b, o, none⟩) n c] w fun e w' => e = .returned (.int .i64 (maxI l)) ∧ w' = w := by
  subst hn
  have H := Lib.hid hr
  have c0 := hr.2.2 0 h0
  rw [Nat.add_zero] at c0
  have t1 : ¬ ((l.length : Nat) : Int) < 1 := by omega
  have t2 : decide ((l.length : Int) < 1) = false := decide_eq_false (by omega)
  clear hr
  have HM0 := Lib.hid (show l.getD 0 0 = maxTo l 0 from rfl)
  generalize l.getD 0 0 = x0 at c0 HM0
  go_enter Tryz.func97, Tryz.ntmps97
  go_wp2
  go_loopg [3, 4] (l.length - 1) (fun gk s3 s4 wx => ∃ i : Nat, s4 = .int .i64 ((i + 1 : Nat) : Int) ∧ i + 1 ≤ l.length ∧ s3 = .int .i64 (maxTo l i) ∧ wx = w ∧ gk = l.length - (i + 1))
  case atStart => exact ⟨0, rfl, by omega, by rw [HM0.out], rfl, rfl⟩
  case round =>
    obtain ⟨i, rfl, hil, rfl, rfl, rfl⟩ := hrel
    by_cases hlt : i + 1 < l.length
    · have c1 := H.out.2.2 (i + 1) hlt
      have hd : maxTo l (i + 1) = max (maxTo l i) (l.getD (i + 1) 0) := rfl
      have HD := Lib.hid hd
      clear hd c0
      generalize l.getD (i + 1) 0 = x at c1 HD
      generalize maxTo l i = z at HD ⊢
      by_cases hx : x ≤ z
      · have hm : max z x = z := by omega
        have HM := Lib.hid hm
        clear hm
        go_wp2
        go_roundg (l.length - (i + 2))
        case measure => omega
        case rel => exact ⟨i + 1, by go_num, by omega, by rw [HD.out, HM.out], rfl, rfl⟩
      · have hm : max z x = x := by omega
        have HM := Lib.hid hm
        clear hm
        go_wp2
        go_roundg (l.length - (i + 2))
        case measure => omega
        case rel => exact ⟨i + 1, by go_num, by omega, by rw [HD.out, HM.out], rfl, rfl⟩
    · have : i = l.length - 1 := by omega
      subst this
      clear c0
      go_wp2
      go_ret
      exact ⟨rfl, rfl⟩
end Go.Proofs.YtllpoaoboieijaaGreat
