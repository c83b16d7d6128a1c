/-
  nat: less, more: a window of a row of digits, with a multiple of a number taken away.
  nat: more, digit.
-/
import Derived.Test.YtdbhlkejfecffaaGreatDoorSa20
/-
  nat: less, more: a window of a row of digits, with a multiple of a number taken away.
-/
namespace Go.Proofs.YtdbhlkejfecffaaGreatDoor
open Go.RowKit KeepPlain

/-- Nothing old is written but block d. -/
structure Keep (d : Nat) (w w' : World) : Prop where
  os : w'.os = w.os
  tape : w'.tape = w.tape
  output : w'.output = w.output
  size : w.heap.size ≤ w'.heap.size
  block : ∀ b, b < w.heap.size → b ≠ d → w'.heap[b]? = w.heap[b]?
theorem Keep.blk {d : Nat} {w w' : World} (h : Keep d w w') {b : Nat} {l : List Value} {t : TypeId} (hb : Blk w b l t) (hne : b ≠ d) : Blk w' b l t := by
  have := hb.lt; unfold Blk at hb ⊢
  rw [h.block b this hne]; exact hb
theorem Keep.below {d : Nat} {w0 w w' : World} (h : Keep d w w') (hb : Below w0.heap.size w0 w) (hd : w0.heap.size ≤ d) : Below w0.heap.size w0 w' :=
  ⟨h.os.trans hb.os, h.tape.trans hb.tape, h.output.trans hb.output, Nat.le_trans hb.size h.size, fun b hlt => by
    rw [h.block b (Nat.lt_of_lt_of_le hlt hb.size) (by omega)]; exact hb.block b hlt⟩
theorem Keep.of_below {d : Nat} {w w' : World} (h : Below w.heap.size w w') : Keep d w w' := ⟨h.os, h.tape, h.output, h.size, fun b hb _ => h.block b hb⟩
theorem Keep.trans {d : Nat} {a b c : World} (h : Keep d a b) (k : Keep d b c) : Keep d a c :=
  ⟨k.os.trans h.os, k.tape.trans h.tape, k.output.trans h.output, Nat.le_trans h.size k.size, fun x hx hn => (k.block x (Nat.lt_of_lt_of_le hx h.size) hn).trans (h.block x hx hn)⟩
theorem Keep.setNew {d g : Nat} {w w' : World} (h : Keep d w w') (hg : w.heap.size ≤ g) (o : Nat) (v : Value) : Keep d w (w'.setCell ⟨g, o, none⟩ v) :=
  ⟨h.os, h.tape, h.output, Nat.le_trans h.size (by simp [World.setCell]), fun x hx hn => by
    rw [Below.heap_setCell _ _ _ _ (show x ≠ g by omega)]; exact h.block x hx hn⟩
theorem Keep.setD {d : Nat} {w w' : World} (h : Keep d w w') (o : Nat) (v : Value) : Keep d w (w'.setCell ⟨d, o, none⟩ v) :=
  ⟨h.os, h.tape, h.output, Nat.le_trans h.size (by simp [World.setCell]), fun x hx hn => by
    rw [Below.heap_setCell _ _ _ _ hn]; exact h.block x hx hn⟩

theorem Keep.refl (d : Nat) (w : World) : Keep d w w := ⟨rfl, rfl, rfl, Nat.le_refl _, fun _ _ _ => rfl⟩
theorem Keep.cell {d : Nat} {w w' : World} (h : Keep d w w') {p : Addr} (hp : p.block < w.heap.size) (hne : p.block ≠ d) : w'.cell? p = w.cell? p := World.cell?_of_block (h.block p.block hp hne)
theorem Keep.rdU {d : Nat} {w w' : World} (h : Keep d w w') {v : Value} {l : List Nat} (hr : RdU w v l) (hne : 0 < l.length → v.ownBlock ≠ some d) : RdU w' v l := by
  by_cases h0 : 0 < l.length
  · exact RdV.block hr fun b hlt hv => h.block b hlt (fun e => hne h0 (by rw [hv, e]))
  · obtain ⟨A, c, rfl, h1, h2, -⟩ := hr
    exact ⟨A, c, rfl, h1, h2, fun hh => absurd hh (by rw [us_length]; exact h0)⟩
/-- A row of digits in a block, of which a window is changed. -/
def Win (U U' : List Nat) (k n : Nat) : Prop := U'.length = U.length ∧ (∀ x ∈ U', x < 1000000000) ∧ (∀ j, j < k → dg U' j = dg U j) ∧ (∀ j, k + n ≤ j → dg U' j = dg U j)
theorem Win.refl {U : List Nat} (h : ∀ x ∈ U, x < 1000000000) (k n : Nat) : Win U U k n := ⟨rfl, h, fun _ _ => rfl, fun _ _ => rfl⟩
theorem Win.set {U U' : List Nat} {k n : Nat} (h : Win U U' k n) {i z : Nat} (hi : i < n) (hz : z < 1000000000) (hk : k + n ≤ U.length) : Win U (U'.set (k + i) z) k n := by
  obtain ⟨h1, h2, h3, h4⟩ := h
  refine ⟨by simp [h1], set_lt h2 _ z hz, fun j hj => ?_, fun j hj => ?_⟩
  · rw [dg_set U' (k + i) z (by omega), up_ne _ _ _ _ (by omega)]; exact h3 j hj
  · rw [dg_set U' (k + i) z (by omega), up_ne _ _ _ _ (by omega)]; exact h4 j hj
theorem Win.trans {U U' U2 : List Nat} {k n : Nat} (h : Win U U' k n) (h2 : Win U' U2 k n) : Win U U2 k n :=
  ⟨h2.1.trans h.1, h2.2.1, fun j hj => (h2.2.2.1 j hj).trans (h.2.2.1 j hj), fun j hj => (h2.2.2.2 j hj).trans (h.2.2.2 j hj)⟩
set_option maxRecDepth 100000 in
set_option maxHeartbeats 6400000 in
theorem less_any (g k n c : Nat) (U : List Nat) (v : Value) (b q : Nat) (w : World) (hk : Blk w g (us U) 127) (hU : ∀ x ∈ U, x < 1000000000) (hkn : k + n ≤ U.length) (hc : n ≤ c) (hn : n ≤ 2000) (hk2 : k ≤ 2000)
    (hv : NV w v b) (hvg : v.ownBlock ≠ some g) (hlb : (nd b).length ≤ n) (hq : q < 1000000000) :
    Calls Tryz.prog 162 #[.slice (some ⟨g, k, none⟩) n c, v, .int .u64 q] w fun e w' => ∃ U' cy, e = .returned (.bool (decide (0 < cy))) ∧ Hid (Blk w' g (us U') 127) ∧ Hid (Win U U' k n) ∧ Hid (sv (fun j => dg U' (k + j)) n + q * b = sv (fun j => dg U (k + j)) n + cy * 1000000000 ^ n) ∧ Hid (Keep g w w') := by
  obtain ⟨B, d, rfl, -, -, hB⟩ := RdU.open hv
  have HB := Lib.hid (show ∀ i, i < (nd b).length → ∃ b1 o, B = some ⟨b1, o, none⟩ ∧ b1 < w.heap.size ∧ b1 ≠ g ∧ w.cell? ⟨b1, o + i, none⟩ = some (.int .u32 (dg (nd b) i : Nat)) from fun i hi => by
    obtain ⟨b1, o, e, h1, h2⟩ := hB i hi
    exact ⟨b1, o, e, h1, fun e2 => hvg (by rw [e, e2]; rfl), h2⟩)
  have HK0 := Lib.hid hk
  have HU := Lib.hid hU
  have HKN := Lib.hid hkn
  have HN := Lib.hid hn
  have HVB := Lib.hid (nd_sv b n hlb)
  have HDB := Lib.hid (fun i (h : (nd b).length ≤ i) => dg_far (nd b) i h)
  have HQ := Lib.hid hq
  have HK2 := Lib.hid hk2
  have hc' : (n : Int) ≤ c := by omega
  clear hv hB hvg hk hU hkn hlb hq hk2
  generalize (nd b).length = lb at *
  go_enter Tryz.func162, Tryz.ntmps162
  go_wp2
  go_loopg [7, 14] n (fun gk s7 s14 wx => ∃ (i : Nat) (O : List Nat) (cy : Nat), s14 = .int .i64 i ∧ i ≤ n ∧ gk = n - i ∧ s7 = .int .u64 cy ∧ Hid (cy ≤ 1000000000) ∧ Hid (Win U O k n) ∧ Hid (∀ j, i ≤ j → dg O (k + j) = dg U (k + j)) ∧ Hid (sv (fun j => dg O (k + j)) i + q * sv (dg (nd b)) i = sv (fun j => dg U (k + j)) i + cy * 1000000000 ^ i) ∧ Hid (Blk wx g (us O) 127) ∧ Hid (Keep g w wx))
  case atStart => exact ⟨0, U, 0, rfl, Nat.zero_le _, rfl, rfl, Lib.hid (by omega), Lib.hid (Win.refl HU.out k n), Lib.hid (fun _ _ => rfl), Lib.hid (by simp [sv]), HK0, Lib.hid (Keep.refl g w)⟩
  case round =>
    obtain ⟨i, O, cy, rfl, hi, rfl, rfl, HCY, HW, HSM, HS, HK, HKP⟩ := hrel
    by_cases hlt : i < n
    · have HIL := Lib.hid (show i < n from hlt)
      have hoc := blk_cellU HK.out (k + i) (by rw [HW.out.1]; have := HKN.out; omega)
      rw [HSM.out i (Nat.le_refl _)] at hoc
      have hof := HK.out.frozen (k + i)
      have HX := Lib.hid (show dg U (k + i) < 1000000000 from dg_lt U HU.out _)
      have HT := Lib.hid (fun (O' : List Nat) (cy' : Nat) (h1 : ∀ j, j < i → dg O' (k + j) = dg O (k + j)) (h2 : dg O' (k + i) + (cy + q * dg (nd b) i) = dg U (k + i) + cy' * 1000000000) => less_step (o := fun j => dg O' (k + j)) (a := fun j => dg U (k + j)) (b := dg (nd b)) (i := i) (c := cy) (c' := cy') (q := q) (by rw [sv_congr i h1]; exact HS.out) h2)
      have hbd := less_bound HCY.out HQ.out (nd_dg_lt b i)
      have hcy := HCY.out
      have hx := HX.out
      by_cases hib : i < lb
      · obtain ⟨b1, o1, rfl, hb1, hbg, c1'⟩ := HB.out i hib
        have c2' : wr.cell? ⟨b1, o1 + i, none⟩ = some (.int .u32 (dg (nd b) i : Nat)) := by rw [HKP.out.cell (p := ⟨b1, o1 + i, none⟩) hb1 hbg]; exact c1'
        have hy := nd_dg_lt b i
        generalize dg (nd b) i = y at c2' HT hbd hy
        generalize dg U (k + i) = x at hoc HT hx HX
        obtain ⟨p, hp⟩ : ∃ p, p = q * y := ⟨_, rfl⟩
        obtain ⟨t, ht⟩ : ∃ t, t = cy + p := ⟨_, rfl⟩
        rw [← hp, ← ht] at hbd HT
        have s2 : (q : Int) * (y : Int) = (p : Int) := by rw [hp]; push_cast; rfl
        have s3 : (cy : Int) + (p : Int) = (t : Int) := by omega
        have u1 : IntKind.u64.wrap (y : Int) = y := u64_in (by omega)
        have u4 : IntKind.u64.wrap (p : Int) = p := u64_in (by omega)
        have u6 : IntKind.u64.wrap (t : Int) = t := u64_in (by omega)
        have w3 : Int.tdiv (t : Int) 1000000000 = ((t / 1000000000 : Nat) : Int) := tdiv_nat t 1000000000
        have w4 : Int.tmod (t : Int) 1000000000 = ((t % 1000000000 : Nat) : Int) := tmod_nat t 1000000000
        have w5 : (t : Int) / 1000000000 = ((t / 1000000000 : Nat) : Int) := rfl
        have w6 : (t : Int) % 1000000000 = ((t % 1000000000 : Nat) : Int) := rfl
        have hr : t % 1000000000 < 1000000000 := by omega
        have hdm : t / 1000000000 * 1000000000 + t % 1000000000 = t := by omega
        have hq1 : t / 1000000000 + 1 ≤ 1000000000 := by omega
        generalize t / 1000000000 = c1 at *
        generalize t % 1000000000 = y1 at *
        have v1 : IntKind.u64.wrap (c1 : Int) = c1 := u64_in (by omega)
        have v2 : IntKind.u64.wrap (y1 : Int) = y1 := u64_in (by omega)
        have v3 : IntKind.u64.wrap (x : Int) = x := u64_in (by omega)
        by_cases hxy : x < y1
        · obtain ⟨d1, hd1⟩ : ∃ d1, d1 = 1000000000 - y1 := ⟨_, rfl⟩
          obtain ⟨z, hz⟩ : ∃ z, z = x + d1 := ⟨_, rfl⟩
          obtain ⟨c2, hc2⟩ : ∃ c2, c2 = c1 + 1 := ⟨_, rfl⟩
          have s5 : (1000000000 : Int) - (y1 : Int) = (d1 : Int) := by omega
          have s6 : (x : Int) + (d1 : Int) = (z : Int) := by omega
          have s7 : (c1 : Int) + 1 = (c2 : Int) := by omega
          have v4 : IntKind.u64.wrap (d1 : Int) = d1 := u64_in (by omega)
          have v5 : IntKind.u64.wrap (z : Int) = z := u64_in (by omega)
          have v6 : IntKind.u64.wrap (c2 : Int) = c2 := u64_in (by omega)
          have v7 : (z : Int) % 4294967296 = z := by omega
          have v8 : IntKind.u32.wrap (z : Int) = z := u32_in (by omega)
          have hxi : (x : Int) < (y1 : Int) := by omega
          have HE := Lib.hid (show z + t = x + c2 * 1000000000 by omega)
          have HZ := Lib.hid (show z < 1000000000 by omega)
          have HC := Lib.hid (show c2 ≤ 1000000000 by omega)
          clear hd1 hz hc2 hxy hr hdm hq1 hp ht hbd hy hx c1' hcy
          go_wp2
          go_roundg (n - (i + 1))
          case measure => omega
          case rel =>
            have hl := HIL.out
            have hkn := HKN.out
            have hwl := HW.out.1
            exact ⟨i + 1, O.set (k + i) z, c2, congrArg (Value.int .i64) (by omega), by omega, rfl, rfl, HC, Lib.hid (HW.out.set hl HZ.out hkn), Lib.hid (fun j hj => by rw [dg_set O (k + i) z (by omega), up_ne _ _ _ _ (by omega)]; exact HSM.out j (by omega)), Lib.hid (HT.out (O.set (k + i) z) c2 (fun j hj => by rw [dg_set O (k + i) z (by omega), up_ne _ _ _ _ (by omega)]) (by rw [dg_set O (k + i) z (by omega), up_same]; exact HE.out)), Lib.hid (blk_setU HK.out (k + i) z), Lib.hid (HKP.out.setD _ _)⟩
        · obtain ⟨z, hz⟩ : ∃ z, z = x - y1 := ⟨_, rfl⟩
          have s6 : (x : Int) - (y1 : Int) = (z : Int) := by omega
          have v5 : IntKind.u64.wrap (z : Int) = z := u64_in (by omega)
          have v7 : (z : Int) % 4294967296 = z := by omega
          have v8 : IntKind.u32.wrap (z : Int) = z := u32_in (by omega)
          have hxi : ¬ ((x : Int) < (y1 : Int)) := by omega
          have HE := Lib.hid (show z + t = x + c1 * 1000000000 by omega)
          have HZ := Lib.hid (show z < 1000000000 by omega)
          have HC := Lib.hid (show c1 ≤ 1000000000 by omega)
          clear hz hxy hr hdm hq1 hp ht hbd hy hx c1' hcy
          go_wp2
          go_roundg (n - (i + 1))
          case measure => omega
          case rel =>
            have hl := HIL.out
            have hkn := HKN.out
            have hwl := HW.out.1
            exact ⟨i + 1, O.set (k + i) z, c1, congrArg (Value.int .i64) (by omega), by omega, rfl, rfl, HC, Lib.hid (HW.out.set hl HZ.out hkn), Lib.hid (fun j hj => by rw [dg_set O (k + i) z (by omega), up_ne _ _ _ _ (by omega)]; exact HSM.out j (by omega)), Lib.hid (HT.out (O.set (k + i) z) c1 (fun j hj => by rw [dg_set O (k + i) z (by omega), up_ne _ _ _ _ (by omega)]) (by rw [dg_set O (k + i) z (by omega), up_same]; exact HE.out)), Lib.hid (blk_setU HK.out (k + i) z), Lib.hid (HKP.out.setD _ _)⟩
      · rw [HDB.out i (by omega)] at HT
        have hib' : ¬ ((i : Int) < (lb : Int)) := by omega
        generalize dg U (k + i) = x at hoc HT hx HX
        obtain ⟨t, ht⟩ : ∃ t, t = cy := ⟨_, rfl⟩
        rw [show cy + q * 0 = t by rw [ht]; simp] at HT
        rw [← ht]
        rw [← ht] at hcy
        have w3 : Int.tdiv (t : Int) 1000000000 = ((t / 1000000000 : Nat) : Int) := tdiv_nat t 1000000000
        have w4 : Int.tmod (t : Int) 1000000000 = ((t % 1000000000 : Nat) : Int) := tmod_nat t 1000000000
        have w5 : (t : Int) / 1000000000 = ((t / 1000000000 : Nat) : Int) := rfl
        have w6 : (t : Int) % 1000000000 = ((t % 1000000000 : Nat) : Int) := rfl
        have hr : t % 1000000000 < 1000000000 := by omega
        have hdm : t / 1000000000 * 1000000000 + t % 1000000000 = t := by omega
        have hq1 : t / 1000000000 + 1 ≤ 1000000000 := by omega
        generalize t / 1000000000 = c1 at *
        generalize t % 1000000000 = y1 at *
        have v1 : IntKind.u64.wrap (c1 : Int) = c1 := u64_in (by omega)
        have v2 : IntKind.u64.wrap (y1 : Int) = y1 := u64_in (by omega)
        have v3 : IntKind.u64.wrap (x : Int) = x := u64_in (by omega)
        by_cases hxy : x < y1
        · obtain ⟨d1, hd1⟩ : ∃ d1, d1 = 1000000000 - y1 := ⟨_, rfl⟩
          obtain ⟨z, hz⟩ : ∃ z, z = x + d1 := ⟨_, rfl⟩
          obtain ⟨c2, hc2⟩ : ∃ c2, c2 = c1 + 1 := ⟨_, rfl⟩
          have s5 : (1000000000 : Int) - (y1 : Int) = (d1 : Int) := by omega
          have s6 : (x : Int) + (d1 : Int) = (z : Int) := by omega
          have s7 : (c1 : Int) + 1 = (c2 : Int) := by omega
          have v4 : IntKind.u64.wrap (d1 : Int) = d1 := u64_in (by omega)
          have v5 : IntKind.u64.wrap (z : Int) = z := u64_in (by omega)
          have v6 : IntKind.u64.wrap (c2 : Int) = c2 := u64_in (by omega)
          have v7 : (z : Int) % 4294967296 = z := by omega
          have v8 : IntKind.u32.wrap (z : Int) = z := u32_in (by omega)
          have hxi : (x : Int) < (y1 : Int) := by omega
          have HE := Lib.hid (show z + t = x + c2 * 1000000000 by omega)
          have HZ := Lib.hid (show z < 1000000000 by omega)
          have HC := Lib.hid (show c2 ≤ 1000000000 by omega)
          clear hd1 hz hc2 hxy hr hdm hq1 ht hbd hx hcy
          go_wp2
          go_roundg (n - (i + 1))
          case measure => omega
          case rel =>
            have hl := HIL.out
            have hkn := HKN.out
            have hwl := HW.out.1
            exact ⟨i + 1, O.set (k + i) z, c2, congrArg (Value.int .i64) (by omega), by omega, rfl, rfl, HC, Lib.hid (HW.out.set hl HZ.out hkn), Lib.hid (fun j hj => by rw [dg_set O (k + i) z (by omega), up_ne _ _ _ _ (by omega)]; exact HSM.out j (by omega)), Lib.hid (HT.out (O.set (k + i) z) c2 (fun j hj => by rw [dg_set O (k + i) z (by omega), up_ne _ _ _ _ (by omega)]) (by rw [dg_set O (k + i) z (by omega), up_same]; exact HE.out)), Lib.hid (blk_setU HK.out (k + i) z), Lib.hid (HKP.out.setD _ _)⟩
        · obtain ⟨z, hz⟩ : ∃ z, z = x - y1 := ⟨_, rfl⟩
          have s6 : (x : Int) - (y1 : Int) = (z : Int) := by omega
          have v5 : IntKind.u64.wrap (z : Int) = z := u64_in (by omega)
          have v7 : (z : Int) % 4294967296 = z := by omega
          have v8 : IntKind.u32.wrap (z : Int) = z := u32_in (by omega)
          have hxi : ¬ ((x : Int) < (y1 : Int)) := by omega
          have HE := Lib.hid (show z + t = x + c1 * 1000000000 by omega)
          have HZ := Lib.hid (show z < 1000000000 by omega)
          have HC := Lib.hid (show c1 ≤ 1000000000 by omega)
          clear hz hxy hr hdm hq1 ht hbd hx hcy
          go_wp2
          go_roundg (n - (i + 1))
          case measure => omega
          case rel =>
            have hl := HIL.out
            have hkn := HKN.out
            have hwl := HW.out.1
            exact ⟨i + 1, O.set (k + i) z, c1, congrArg (Value.int .i64) (by omega), by omega, rfl, rfl, HC, Lib.hid (HW.out.set hl HZ.out hkn), Lib.hid (fun j hj => by rw [dg_set O (k + i) z (by omega), up_ne _ _ _ _ (by omega)]; exact HSM.out j (by omega)), Lib.hid (HT.out (O.set (k + i) z) c1 (fun j hj => by rw [dg_set O (k + i) z (by omega), up_ne _ _ _ _ (by omega)]) (by rw [dg_set O (k + i) z (by omega), up_same]; exact HE.out)), Lib.hid (blk_setU HK.out (k + i) z), Lib.hid (HKP.out.setD _ _)⟩
    · have : i = n := by omega
      subst this
      have HE := Lib.hid (show sv (fun j => dg O (k + j)) i + q * b = sv (fun j => dg U (k + j)) i + cy * 1000000000 ^ i by
        have := HS.out
        rwa [HVB.out] at this)
      by_cases h0 : 0 < cy
      · have d0 : (0 : Int) < cy := by omega
        have HD := Lib.hid (decide_eq_true h0)
        clear h0
        go_wp2
        go_ret
        exact ⟨O, cy, by rw [HD.out]; rfl, HK, HW, HE, HKP⟩
      · have hz : cy = 0 := by omega
        subst hz
        clear h0
        go_wp2
        go_ret
        exact ⟨O, 0, rfl, HK, HW, HE, HKP⟩
end Go.Proofs.YtdbhlkejfecffaaGreatDoor
/-
  nat: more, digit.
-/
namespace Go.Proofs.YtdbhlkejfecffaaGreatDoor
open Go.RowKit KeepPlain

set_option maxRecDepth 100000 in
set_option maxHeartbeats 6400000 in
theorem more_any (g k n c : Nat) (U : List Nat) (v : Value) (b : Nat) (w : World) (hk : Blk w g (us U) 127) (hU : ∀ x ∈ U, x < 1000000000) (hkn : k + n ≤ U.length) (hc : n ≤ c) (hn : n ≤ 2000) (hk2 : k ≤ 2000)
    (hv : NV w v b) (hvg : v.ownBlock ≠ some g) (hlb : (nd b).length ≤ n) :
    Calls Tryz.prog 163 #[.slice (some ⟨g, k, none⟩) n c, v] w fun e w' => ∃ U' cy, e = .returned (.tuple #[]) ∧ Hid (Blk w' g (us U') 127) ∧ Hid (Win U U' k n) ∧ Hid (sv (fun j => dg U' (k + j)) n + cy * 1000000000 ^ n = sv (fun j => dg U (k + j)) n + b) ∧ Hid (Keep g w w') := by
  obtain ⟨B, d, rfl, -, -, hB⟩ := RdU.open hv
  have HB := Lib.hid (show ∀ i, i < (nd b).length → ∃ b1 o, B = some ⟨b1, o, none⟩ ∧ b1 < w.heap.size ∧ b1 ≠ g ∧ w.cell? ⟨b1, o + i, none⟩ = some (.int .u32 (dg (nd b) i : Nat)) from fun i hi => by
    obtain ⟨b1, o, e, h1, h2⟩ := hB i hi
    exact ⟨b1, o, e, h1, fun e2 => hvg (by rw [e, e2]; rfl), h2⟩)
  have HK0 := Lib.hid hk
  have HU := Lib.hid hU
  have HKN := Lib.hid hkn
  have HN := Lib.hid hn
  have HVB := Lib.hid (nd_sv b n hlb)
  have HDB := Lib.hid (fun i (h : (nd b).length ≤ i) => dg_far (nd b) i h)
  have HK2 := Lib.hid hk2
  have hc' : (n : Int) ≤ c := by omega
  clear hv hB hvg hk hU hkn hlb hk2
  generalize (nd b).length = lb at *
  go_enter Tryz.func163, Tryz.ntmps163
  go_wp2
  go_loopg [4, 9] n (fun gk s4 s9 wx => ∃ (i : Nat) (O : List Nat) (cy : Nat), s9 = .int .i64 i ∧ i ≤ n ∧ gk = n - i ∧ s4 = .int .u32 cy ∧ Hid (cy ≤ 1) ∧ Hid (Win U O k n) ∧ Hid (∀ j, i ≤ j → dg O (k + j) = dg U (k + j)) ∧ Hid (sv (fun j => dg O (k + j)) i + cy * 1000000000 ^ i = sv (fun j => dg U (k + j)) i + sv (dg (nd b)) i) ∧ Hid (Blk wx g (us O) 127) ∧ Hid (Keep g w wx))
  case atStart => exact ⟨0, U, 0, rfl, Nat.zero_le _, rfl, rfl, Lib.hid (by omega), Lib.hid (Win.refl HU.out k n), Lib.hid (fun _ _ => rfl), Lib.hid (by simp [sv]), HK0, Lib.hid (Keep.refl g w)⟩
  case round =>
    obtain ⟨i, O, cy, rfl, hi, rfl, rfl, HCY, HW, HSM, HS, HK, HKP⟩ := hrel
    by_cases hlt : i < n
    · have HIL := Lib.hid (show i < n from hlt)
      have hoc := blk_cellU HK.out (k + i) (by rw [HW.out.1]; have := HKN.out; omega)
      rw [HSM.out i (Nat.le_refl _)] at hoc
      have hof := HK.out.frozen (k + i)
      have hx : dg U (k + i) < 1000000000 := dg_lt U HU.out _
      have HT := Lib.hid (fun (O' : List Nat) (h1 : ∀ j, j < i → dg O' (k + j) = dg O (k + j)) (h2 : dg O' (k + i) = (dg U (k + i) + dg (nd b) i + cy) % 1000000000) => add_step (o := fun j => dg O' (k + j)) (a := fun j => dg U (k + j)) (b := dg (nd b)) (i := i) (c := cy) (by rw [sv_congr i h1]; exact HS.out) h2)
      have hcy := HCY.out
      have HF := Lib.hid (show ∀ t : Nat, t < 4000000000 → Int.tdiv (t : Int) 1000000000 = ((t / 1000000000 : Nat) : Int) ∧ Int.tmod (t : Int) 1000000000 = ((t % 1000000000 : Nat) : Int) ∧ (t : Int) / 1000000000 = ((t / 1000000000 : Nat) : Int) ∧ (t : Int) % 1000000000 = ((t % 1000000000 : Nat) : Int) ∧ IntKind.u32.wrap (t : Int) = t ∧ ((t % 1000000000 : Nat) : Int) % 4294967296 = ((t % 1000000000 : Nat) : Int) ∧ ((t / 1000000000 : Nat) : Int) % 4294967296 = ((t / 1000000000 : Nat) : Int) ∧ t % 1000000000 < 1000000000 from fun t ht => ⟨tdiv_nat t 1000000000, tmod_nat t 1000000000, rfl, rfl, u32_in (by omega), by omega, by omega, by omega⟩)
      by_cases hib : i < lb
      · obtain ⟨b1, o1, rfl, hb1, hbg, c1⟩ := HB.out i hib
        have c2' : wr.cell? ⟨b1, o1 + i, none⟩ = some (.int .u32 (dg (nd b) i : Nat)) := by rw [HKP.out.cell (p := ⟨b1, o1 + i, none⟩) hb1 hbg]; exact c1
        have hy := nd_dg_lt b i
        generalize dg (nd b) i = y at c2' HT hy
        generalize dg U (k + i) = x at hoc HT hx
        obtain ⟨t1, ht1⟩ : ∃ t1, t1 = x + cy := ⟨_, rfl⟩
        obtain ⟨t, ht⟩ : ∃ t, t = t1 + y := ⟨_, rfl⟩
        rw [show x + y + cy = t by omega] at HT
        have s2 : (x : Int) + (cy : Int) = (t1 : Int) := by omega
        have s3 : (t1 : Int) + (y : Int) = (t : Int) := by omega
        have u1 : IntKind.u32.wrap (t1 : Int) = t1 := u32_in (by omega)
        obtain ⟨f1, f2, f3, f4, f5, f6, f7, hr⟩ := HF.out t (by omega)
        have HQ := Lib.hid (show t / 1000000000 ≤ 1 by omega)
        have HR := Lib.hid hr
        generalize t / 1000000000 = q at *
        generalize t % 1000000000 = r at *
        clear ht1 ht hr hx hy c1 hcy HF
        go_wp2
        go_roundg (n - (i + 1))
        case measure => omega
        case rel =>
          have hl := HIL.out
          have hkn := HKN.out
          have hwl := HW.out.1
          exact ⟨i + 1, O.set (k + i) r, q, congrArg (Value.int .i64) (by omega), by omega, rfl, rfl, HQ, Lib.hid (HW.out.set hl HR.out hkn), Lib.hid (fun j hj => by rw [dg_set O (k + i) r (by omega), up_ne _ _ _ _ (by omega)]; exact HSM.out j (by omega)), Lib.hid (HT.out (O.set (k + i) r) (fun j hj => by rw [dg_set O (k + i) r (by omega), up_ne _ _ _ _ (by omega)]) (by rw [dg_set O (k + i) r (by omega), up_same])), Lib.hid (blk_setU HK.out (k + i) r), Lib.hid (HKP.out.setD _ _)⟩
      · rw [HDB.out i (by omega)] at HT
        have hib' : ¬ ((i : Int) < (lb : Int)) := by omega
        generalize dg U (k + i) = x at hoc HT hx
        obtain ⟨t, ht⟩ : ∃ t, t = x + cy := ⟨_, rfl⟩
        rw [show x + 0 + cy = t by omega] at HT
        have s2 : (x : Int) + (cy : Int) = (t : Int) := by omega
        obtain ⟨f1, f2, f3, f4, f5, f6, f7, hr⟩ := HF.out t (by omega)
        have HQ := Lib.hid (show t / 1000000000 ≤ 1 by omega)
        have HR := Lib.hid hr
        generalize t / 1000000000 = q at *
        generalize t % 1000000000 = r at *
        clear ht hr hx hcy HF
        go_wp2
        go_roundg (n - (i + 1))
        case measure => omega
        case rel =>
          have hl := HIL.out
          have hkn := HKN.out
          have hwl := HW.out.1
          exact ⟨i + 1, O.set (k + i) r, q, congrArg (Value.int .i64) (by omega), by omega, rfl, rfl, HQ, Lib.hid (HW.out.set hl HR.out hkn), Lib.hid (fun j hj => by rw [dg_set O (k + i) r (by omega), up_ne _ _ _ _ (by omega)]; exact HSM.out j (by omega)), Lib.hid (HT.out (O.set (k + i) r) (fun j hj => by rw [dg_set O (k + i) r (by omega), up_ne _ _ _ _ (by omega)]) (by rw [dg_set O (k + i) r (by omega), up_same])), Lib.hid (blk_setU HK.out (k + i) r), Lib.hid (HKP.out.setD _ _)⟩
    · have : i = n := by omega
      subst this
      have HE := Lib.hid (show sv (fun j => dg O (k + j)) i + cy * 1000000000 ^ i = sv (fun j => dg U (k + j)) i + b by
        have := HS.out
        rwa [HVB.out] at this)
      go_wp2
      go_end0
      exact ⟨O, cy, rfl, HK, HW, HE, HKP⟩
end Go.Proofs.YtdbhlkejfecffaaGreatDoor
