/-
  models: Shards: what is kept.
  models: Shards.
  models: Write.
  codec: Source: byte.
-/
import Derived.Test.YtplkchmcojnimaaGreatDoorSa6
import Derived.Test.YtplkchmcojnimaaGreatDoorSa9
/-
  models: Shards: what is kept.
-/
namespace Go.Proofs.YtplkchmcojnimaaGreatDoor
open Go.RowKit

theorem own_keep {w w' : World} {base base' : Nat} {e e' : TypeId} {v r : Value} {n k : Nat} {xs ys : List Value} (hne : e ≠ e') (h : w.ownsRow base e 1 v n xs) (hr : w.ownsRow base' e' 1 r k ys) (hg : w.grownBy w' r.ownBlock) : w'.ownsRow base e 1 v n xs := by
  refine ownsRow_grown h hg fun g hv hrb => ?_
  rcases h.2 with ⟨h1, -⟩ | ⟨g1, cap, cur, h1, -, h2, -⟩
  · rw [h1] at hv; simp [Value.ownBlock] at hv
  · rcases hr.2 with ⟨k1, -⟩ | ⟨g2, cap2, cur2, k1, -, k2, -⟩
    · rw [k1] at hrb; simp [Value.ownBlock] at hrb
    · rw [h1] at hv
      rw [k1] at hrb
      have e1 : g1 = g := by simpa [Value.ownBlock] using hv
      have e2 : g2 = g := by simpa [Value.ownBlock] using hrb
      subst e1
      subst e2
      rw [h2] at k2
      injection k2 with k2
      injection k2 with _ k2
      exact hne k2
theorem blk_keep {w w' : World} {base' : Nat} {e e' : TypeId} {b : Nat} {l : List Value} {r : Value} {k : Nat} {ys : List Value} (hne : e ≠ e') (h : Blk w b l e) (hr : w.ownsRow base' e' 1 r k ys) (hg : w.grownBy w' r.ownBlock) : Blk w' b l e := by
  refine Blk.grown hg h fun hrb => ?_
  rcases hr.2 with ⟨k1, -⟩ | ⟨g2, cap2, cur2, k1, -, k2, -⟩
  · rw [k1] at hrb; simp [Value.ownBlock] at hrb
  · rw [k1] at hrb
    have e2 : b = g2 := by simpa [Value.ownBlock] using hrb
    subst e2
    unfold Blk at h
    rw [h] at k2
    injection k2 with k2
    injection k2 with _ k2
    exact hne k2
/-- A list of slices of bytes, each of the call's own. -/
def Shs (w : World) (base : Nat) (vs : List Value) (ls : List (List Int)) : Prop := vs.length = ls.length ∧ ∀ j, j < ls.length → w.ownsRow base 5 1 (vs.getD j (.slice none 0 0)) (ls.getD j []).length (bys (ls.getD j []))
theorem Shs.nil (w : World) (base : Nat) : Shs w base [] [] := ⟨rfl, fun j h => absurd h (by simp)⟩
theorem Shs.below {w w' : World} {base : Nat} {vs : List Value} {ls : List (List Int)} (h : Shs w base vs ls) (hb : Below w.heap.size w w') : Shs w' base vs ls := ⟨h.1, fun j hj => ownsRow_below (h.2 j hj) hb⟩
theorem Shs.keep {w w' : World} {base base' : Nat} {e' : TypeId} {vs : List Value} {ls : List (List Int)} {r : Value} {k : Nat} {ys : List Value} (hne : 5 ≠ e') (h : Shs w base vs ls) (hr : w.ownsRow base' e' 1 r k ys) (hg : w.grownBy w' r.ownBlock) : Shs w' base vs ls := ⟨h.1, fun j hj => own_keep hne (h.2 j hj) hr hg⟩
theorem Shs.add {w : World} {base : Nat} {vs : List Value} {ls : List (List Int)} (h : Shs w base vs ls) {v : Value} {l : List Int} (hv : w.ownsRow base 5 1 v l.length (bys l)) : Shs w base (vs ++ [v]) (ls ++ [l]) := by
  refine ⟨by simp [h.1], fun j hj => ?_⟩
  rw [List.length_append, List.length_singleton] at hj
  by_cases c : j < ls.length
  · have := h.2 j c
    rw [List.getD, List.getElem?_append_left (by rw [h.1]; exact c), ← List.getD]
    rw [show (ls ++ [l]).getD j [] = ls.getD j [] by rw [List.getD, List.getElem?_append_left c, ← List.getD]]
    exact this
  · have hj2 : j = ls.length := by omega
    subst hj2
    rw [show (vs ++ [v]).getD ls.length (.slice none 0 0) = v by rw [← h.1]; simp [List.getD]]
    rw [show (ls ++ [l]).getD ls.length [] = l by simp [List.getD]]
    exact hv
theorem info34 : (Tryz.prog.info? 34).map (fun i => (i.zero, i.size, i.bytes)) = some (some (.slice none 0 0), 1, 24) := by kernel_rfl
def shB (ident : Int) (n i : Nat) (b : List Int) : List Int := [119, 115] ++ low4 ident ++ [(i : Int), (n : Int)] ++ part b n i
def shard (b : List Int) (n i : Nat) : List Int := sealB (shB (crcOf b) n i b)
theorem part_bytes {b : List Int} (hb : Bytes b) (n i : Nat) : Bytes (part b n i) := fun x hx => hb x (List.mem_of_mem_drop (List.mem_of_mem_take hx))
theorem shB_bytes {b : List Int} (hb : Bytes b) (n i : Nat) (hn : n ≤ 64) (hi : i < n) : Bytes (shB (crcOf b) n i b) := by
  unfold shB
  refine ((Bytes.app ?_ (low4_bytes _)).app ?_).app (part_bytes hb n i)
  · intro x hx; simp only [List.mem_cons, List.not_mem_nil, or_false] at hx; omega
  · intro x hx; simp only [List.mem_cons, List.not_mem_nil, or_false] at hx; omega
theorem rdv_nil (w : World) (A : Option Addr) (c : Nat) (hc : c ≤ maxLen) : RdV w (.slice A 0 c) (bys []) := ⟨A, c, rfl, Nat.zero_le _, hc, fun h => absurd h (by simp [bys])⟩
/-- The part of a rest. -/
theorem rdv_head {w : World} {g L c : Nat} {l : List Int} (h : RdV w (.slice (some ⟨g, 0, none⟩) L c) (bys l)) (hL : L = l.length) (off k : Nat) (hk : off + k ≤ L) (A : Option Addr) (hA : c ≠ off → A = some ⟨g, off, none⟩) : RdV w (.slice A k (c - off)) (bys ((l.drop off).take k)) := by
  have hcap := h.caps
  by_cases e : c = off
  · have : k = 0 := by omega
    subst this
    rw [List.take_zero]
    exact rdv_nil w A _ (by omega)
  · rw [hA e]
    have := rdv_part h hL off k hk
    rwa [Nat.zero_add] at this
end Go.Proofs.YtplkchmcojnimaaGreatDoor
/-
  models: Shards.
-/
namespace Go.Proofs.YtplkchmcojnimaaGreatDoor
open Go.RowKit

def shardsTo (b : List Int) (n i : Nat) : List (List Int) := (List.range i).map (shard b n)
theorem shardsTo_succ (b : List Int) (n i : Nat) : shardsTo b n (i + 1) = shardsTo b n i ++ [shard b n i] := by simp [shardsTo, List.range_succ]
theorem shardsTo_len (b : List Int) (n i : Nat) : (shardsTo b n i).length = i := by simp [shardsTo]
theorem shB_len (ident : Int) (n i : Nat) (b : List Int) (hn : 0 < n) (hi : i < n) : (shB ident n i b).length = 8 + shSize b.length n i := by
  unfold shB
  rw [List.length_append, part_length b n i hn hi]
  simp [low4]
set_option maxRecDepth 100000 in
set_option maxHeartbeats 3200000 in
theorem shards_any (m : MD) (p : MP) (hm : m.Ok) (n : Nat) (hn : 1 ≤ n ∧ n ≤ 64) (w : World) (h : MAt w m p) :
    Calls Tryz.prog 7 #[.agg (mCells m p).toArray, .int .i64 n] w fun e w' => ∃ g c vs, e = .returned (.tuple #[.slice (some ⟨g, 0, none⟩) n c, .int .i64 0]) ∧ Hid (Below w.heap.size w w') ∧ Hid (w'.ownsRow w.heap.size 34 1 (.slice (some ⟨g, 0, none⟩) n c) n vs) ∧ Hid (Shs w' w.heap.size vs (shardsTo m.bytes n n)) := by
  obtain ⟨wb, hwb, hbb, hk0⟩ : ∃ wb, w.alloc (.cells (mCells m p).toArray 27) = wb ∧ Below w.heap.size w wb ∧ Blk wb w.heap.size (mCells m p) 27 := ⟨_, rfl, (Below.refl _ _).alloc (Nat.le_refl _) _, heap_alloc_new w _⟩
  have HBB := Lib.hid hbb
  have HK := Lib.hid (check_ok m p hm wb (h.below hbb))
  have HBY := Lib.hid (fun (wx : World) (hb : Below wb.heap.size wb wx) => bytesOf_any m p hm wx ((h.below hbb).below hb))
  have HQ := Lib.hid (fun (wx : World) (hb : Below wb.heap.size wb wx) => (hk0.below hb).cell)
  have HW := Lib.hid (withinB_yes (show (1 : Int) ≤ (n : Int) ∧ (n : Int) ≤ 64 by omega))
  have HL := Lib.hid hm.bytes_len
  have HBT := Lib.hid hm.bytes
  have HPOS := Lib.hid hm.bytes_ne
  have HN := Lib.hid hn
  have q0 := hk0.cell
  have hn64 := hn.2
  clear hbb hk0 h hn hm
  simp only [mCells] at hwb HK HBY HQ q0 ⊢
  generalize m.bytes = B at HBY HL HBT HPOS ⊢
  go_enter Tryz.func7, Tryz.ntmps7
  go_upto_region 1 with fail
  clear hwb
  go_upto_region 7 with (first | (go_at_call 24; refine HK.out.mono ?_; rintro e w1 ⟨rfl, HB1⟩; have q1 := HQ.out _ HB1.out) | (go_at_call 25; refine (within_any _ _ _ _).mono ?_; rintro e wz ⟨rfl, hz⟩; subst wz; rw [HW.out]) | (go_at_call 26; refine (HBY.out w1 HB1.out).mono ?_; rintro e w2 ⟨A2, c2, rfl, HB2', HO2⟩; have HB2 := Lib.hid (HB1.out.trans (HB2'.out.mono HB1.out.size))))
  have hpos := HPOS.out
  obtain ⟨g2, cap2, hv2, -, -⟩ := HO2.out.form hpos
  injection hv2 with hA2 _ hc2
  subst hA2 hc2
  have HCD := Lib.hid (code_any B _ _ w2 (rdv_row1 HO2.out))
  have HSH := Lib.hid (share_any B.length n (by have := HL.out; omega) HN.out w2)
  clear hpos q0 q1
  go_upto_region 11 with (first | (go_at_call 27; refine HCD.out.mono ?_; rintro e wz ⟨rfl, hz⟩; subst wz) | (go_at_call 28; refine HSH.out.mono ?_; rintro e w3 ⟨rfl, HB3', HK3⟩))
  have HBW2 := Lib.hid (HBB.out.trans (HB2.out.mono HBB.out.size))
  have HBW3 := Lib.hid (HBW2.out.trans (HB3'.out.mono HBW2.out.size))
  have HO3 := Lib.hid (ownsRow_mono (ownsRow_below HO2.out HB3'.out) (show w.heap.size ≤ w1.heap.size by have := HBB.out.size; have := HB1.out.size; omega))
  have h00 : shOff B.length n 0 = 0 := by simp [shOff]
  go_loopg [7, 11, 36] n (fun gk s7 s11 s36 wx => ∃ (i : Nat) (o7 : Nat) (vs : List Value), s36 = .int .i64 i ∧ i ≤ n ∧ s7 = .slice (some ⟨g2, o7, none⟩) (B.length - shOff B.length n i) (c2 - shOff B.length n i) ∧ Hid (c2 ≠ shOff B.length n i → o7 = shOff B.length n i) ∧ Hid (Below w.heap.size w wx) ∧ Hid (wx.ownsRow w.heap.size 5 1 (.slice (some ⟨g2, 0, none⟩) B.length c2) B.length (bys B)) ∧ Hid (wx.ownsRow w.heap.size 34 1 s11 i vs) ∧ Hid (Shs wx w.heap.size vs (shardsTo B n i)) ∧ Hid (Blk wx w2.heap.size (shV B.length n n) 3) ∧ gk = n - i)
  case atStart => exact ⟨0, 0, [], rfl, Nat.zero_le _, by rw [h00]; rfl, Lib.hid (by rw [h00]; exact fun _ => rfl), HBW3, HO3, Lib.hid (World.ownsRow_nil _ _ _ _), Lib.hid (Shs.nil _ _), HK3, rfl⟩
  case round =>
    obtain ⟨i, o7, vs, rfl, hi, rfl, HA7, HBX, HOX, HOV, HSX, HKX, rfl⟩ := hrel
    by_cases hlt : i < n
    · have hcell := HKX.out.cell i
      rw [show (shV B.length n n)[i]? = some (.int .i64 (shSize B.length n i)) by simp [shV, hlt]] at hcell
      have hoff := shOff_succ B.length n i
      have hle := shOff_le B.length n (i + 1) (by have := HN.out; omega) (by omega)
      have hcap := (rdv_row1 HOX.out).caps
      have hcm := hcap.2.2
      have hcl := hcap.2.1
      unfold maxLen at hcm
      have HPT : Hid (RdV wr (.slice (some ⟨g2, o7, none⟩) (shSize B.length n i) (c2 - shOff B.length n i)) (bys (part B n i))) := Lib.hid (rdv_head (rdv_row1 HOX.out) rfl (shOff B.length n i) (shSize B.length n i) (by omega) (some ⟨g2, o7, none⟩) (fun e => by rw [HA7.out e]))
      have HSB := Lib.hid (show bys (shB (crcOf B) n i B) = ((bys [119, 115] ++ bys (low4 (crcOf B))) ++ bys [(i : Int), (n : Int)]) ++ bys (part B n i) by simp [shB, bys])
      have HSL := Lib.hid (shB_len (crcOf B) n i B (by have := HN.out; omega) hlt)
      have HSY := Lib.hid (shB_bytes HBT.out n i hn64 hlt)
      have HSP := Lib.hid (show 0 < (shB (crcOf B) n i B).length ∧ (shB (crcOf B) n i B).length ≤ 1000000 by rw [HSL.out]; have := HL.out; omega)
      obtain ⟨A11, c11, hv11⟩ := ownsRow_shape HOV.out
      subst hv11
      have HN4 := Lib.hid (fun wx => number4_any (crcOf B) (crcOf_in HBT.out) wx)
      have HSE := Lib.hid (show shard B n i = sealB (shB (crcOf B) n i B) from rfl)
      have u1 : shSize B.length n i ≤ c2 - shOff B.length n i := by omega
      have u2 : shSize B.length n i ≤ B.length - shOff B.length n i := by omega
      have u3 : B.length - shOff B.length n i ≤ c2 - shOff B.length n i := by omega
      have e1 : IntKind.u8.wrap (i : Int) = (i : Int) := by show (i : Int) % 256 = i; omega
      have e2 : IntKind.u8.wrap (n : Int) = (n : Int) := by show (n : Int) % 256 = n; omega
      have HOFF := Lib.hid hoff
      have HLE := Lib.hid (show shOff B.length n i + shSize B.length n i ≤ B.length ∧ B.length ≤ c2 by omega)
      obtain ⟨w4, hw4, hb4, ho4⟩ : ∃ w4, wr.alloc (.cells #[.int .u8 119, .int .u8 115] 5) = w4 ∧ Below wr.heap.size wr w4 ∧ w4.ownsRow wr.heap.size 5 1 (.slice (some ⟨wr.heap.size, 0, none⟩) 2 2) 2 (bys [119, 115]) :=
        ⟨_, rfl, (Below.refl _ _).alloc (Nat.le_refl _) _, rfl, .inr ⟨wr.heap.size, 2, _, rfl, Nat.le_refl _, heap_alloc_new wr _, Nat.le_refl _, by decide, rfl, rfl⟩⟩
      have HB4 := Lib.hid hb4
      have HO4 := Lib.hid ho4
      clear hb4 ho4 hoff hle hcap hcm hcl
      generalize shOff B.length n i = off at *
      generalize shSize B.length n i = sz at *
      obtain ⟨i0, hi0, hz0, hz1, hz2⟩ := info_parts info5
      go_upto_region 14 with (first | (go_at_call 29; refine (HN4.out _).mono ?_; rintro e w5 ⟨rfl, hz⟩; have HB5 : Hid (Below wr.heap.size wr w5) := Lib.hid (by rw [hz]; exact HB4.out.alloc HB4.out.size _); have HO5 : Hid (w5.ownsRow wr.heap.size 5 1 (.slice (some ⟨wr.heap.size, 0, none⟩) 2 2) 2 (bys [119, 115])) := Lib.hid (by rw [hz]; exact ownsRow_below HO4.out ((Below.refl _ _).alloc (Nat.le_refl _) _)); have HR5 : Hid (RdV w5 (.slice (some ⟨w4.heap.size, 0, none⟩) 4 4) (bys (low4 (crcOf B)))) := Lib.hid (by rw [hz]; exact rdv_row1 (base := w4.heap.size) (t := 5) ⟨rfl, .inr ⟨w4.heap.size, 4, _, rfl, Nat.le_refl _, heap_alloc_new w4 _, Nat.le_refl _, by decide, rfl, rfl⟩⟩); clear hz) | (at_builtin; refine wpList_append_part rfl _ _ 34 rfl wr.heap.size i0 Tryz.underlying34 hi0 hz0 hz1 hz2 _ 2 _ rfl HO5.out (by decide) _ 4 4 (low4 (crcOf B)) rfl HR5.out (by decide) HB5.out.size ?_; intro g6 c6 w6 ho6 hg6; have HO6 := Lib.hid ho6; have HB6 := Lib.hid (HB5.out.trans (Below.ofGrown hg6 HB5.out.size (ownsRow_base HO5.out))); clear ho6 hg6))
      obtain ⟨w7, hw7, hb7, hr7⟩ : ∃ w7, w6.alloc (.cells #[.int .u8 i, .int .u8 n] 5) = w7 ∧ Below wr.heap.size wr w7 ∧ RdV w7 (.slice (some ⟨w6.heap.size, 0, none⟩) 2 2) (bys [(i : Int), (n : Int)]) :=
        ⟨_, rfl, HB6.out.alloc HB6.out.size _, rdv_row1 (base := w6.heap.size) (t := 5) ⟨rfl, .inr ⟨w6.heap.size, 2, _, rfl, Nat.le_refl _, heap_alloc_new w6 _, Nat.le_refl _, by decide, rfl, rfl⟩⟩⟩
      have HB7 := Lib.hid hb7
      have HR7 := Lib.hid hr7
      have HO7 := Lib.hid (show w7.ownsRow wr.heap.size 5 1 (.slice (some ⟨g6, 0, none⟩) (2 + 4) c6) (2 + 4) (bys [119, 115] ++ bys (low4 (crcOf B))) by rw [← hw7]; exact ownsRow_below HO6.out ((Below.refl _ _).alloc (Nat.le_refl _) _))
      clear hb7 hr7 hw4
      go_upto_region 15 with (first | (at_builtin; refine wpList_append_part rfl _ _ 34 rfl wr.heap.size i0 Tryz.underlying34 hi0 hz0 hz1 hz2 _ 6 _ rfl HO7.out (by decide) _ 2 2 [(i : Int), (n : Int)] rfl HR7.out (by decide) HB7.out.size ?_; intro g8 c8 w8 ho8 hg8; have HO8 := Lib.hid ho8; have HB8 := Lib.hid (HB7.out.trans (Below.ofGrown hg8 HB7.out.size (ownsRow_base HO7.out))); clear ho8 hg8))
      have HP8 := Lib.hid (HPT.out.below (show Below wr.heap.size wr w8 from HB8.out))
      clear hw7
      obtain ⟨i1, hi1, hy0, hy1, hy2⟩ := info_parts info34
      go_upto_region 16 with (first | (at_builtin; have _g := HO10; clear _g; refine wpList_append_lies _ rfl _ _ 30 rfl w.heap.size 34 i1 (.slice none 0 0) 1 24 Tryz.underlying30 hi1 hy0 hy1 hy2 rfl (by decide) _ i _ rfl (ownsRow_below HV10.out ((Below.refl _ _).alloc (Nat.le_refl _) _)) ⟨w10.heap.size, 0, none⟩ 1 1 [.slice (some ⟨g10, 0, none⟩) (sealB (shB (crcOf B) n i B)).length c10] rfl rfl (news1' _ _ _) (one_slice _ _ _) Nat.one_pos (by unfold maxLen; omega) (by omega) (Nat.le_trans HZ10.out (alloc_le _ _)) _ rfl ?_; intro g12 c12 w12 ho12 hg12 hat12 hlt12; have HO12 := Lib.hid ho12; have HG12 := Lib.hid hg12; clear ho12 hg12 hat12 hlt12) | (at_builtin; refine wpList_append_part rfl _ _ 34 rfl wr.heap.size i0 Tryz.underlying34 hi0 hz0 hz1 hz2 _ 8 _ rfl HO8.out (by decide) _ sz (c2 - off) (part B n i) rfl HP8.out (by have := HLE.out; have := HL.out; omega) HB8.out.size ?_; intro g9 c9 w9 ho9 hg9; have HO9 := Lib.hid ho9; have HB9 := Lib.hid (HB8.out.trans (Below.ofGrown hg9 HB8.out.size (ownsRow_base HO8.out))); have HR9 : Hid (RdV w9 (.slice (some ⟨g9, 0, none⟩) (8 + sz) c9) (bys (shB (crcOf B) n i B))) := Lib.hid (by rw [HSB.out]; exact rdv_row1 HO9.out); clear ho9 hg9) | (go_at_call 30; refine (sealed_any (shB (crcOf B) n i B) HSY.out HSP.out.1 HSP.out.2 (some ⟨g9, 0, none⟩) (8 + sz) c9 w9 HR9.out).mono ?_; rintro e w10 ⟨g10, c10, rfl, HB10', HO10⟩; have HB10 := Lib.hid (HB9.out.trans (HB10'.out.mono HB9.out.size)); have HV10 := Lib.hid (ownsRow_below HOV.out HB10.out); have HZ10 := Lib.hid (Nat.le_trans HBX.out.size HB10.out.size)))
      have HB11 := Lib.hid (show Below wr.heap.size wr (w10.alloc (.cells #[.slice (some ⟨g10, 0, none⟩) (sealB (shB (crcOf B) n i B)).length c10] 34)) from HB10.out.alloc HB10.out.size _)
      have HV11 := Lib.hid (ownsRow_below HOV.out HB11.out)
      have HBX12 := Lib.hid (HBX.out.trans ((HB11.out.mono HBX.out.size).trans (Below.ofGrown HG12.out (Nat.le_trans HBX.out.size HB11.out.size) (ownsRow_base HV11.out))))
      have HOX12 := Lib.hid (own_keep (by decide) (ownsRow_below HOX.out HB11.out) HV11.out HG12.out)
      have HKX12 := Lib.hid (blk_keep (by decide) (HKX.out.below HB11.out) HV11.out HG12.out)
      have HSX12 : Hid (Shs w12 w.heap.size (vs ++ [.slice (some ⟨g10, 0, none⟩) (sealB (shB (crcOf B) n i B)).length c10]) (shardsTo B n (i + 1))) := Lib.hid (by
        rw [shardsTo_succ]
        refine ((HSX.out.below HB11.out).keep (by decide) HV11.out HG12.out).add ?_
        exact own_keep (by decide) (ownsRow_mono (ownsRow_below HO10.out ((Below.refl _ _).alloc (Nat.le_refl _) _)) (Nat.le_trans HBX.out.size HB9.out.size)) HV11.out HG12.out)
      by_cases v4 : c2 - off = sz
      · have HV4 := Lib.hid v4
        go_wp2
        go_roundg (n - (i + 1))
        case measure => omega
        case rel => exact ⟨i + 1, o7, _, by go_num, by omega, by rw [HOFF.out, Nat.sub_add_eq, Nat.sub_add_eq, show c2 - off - sz = 0 by have := HV4.out; omega], Lib.hid (by rw [HOFF.out]; intro e; have := HV4.out; have := HLE.out; omega), HBX12, HOX12, HO12, HSX12, HKX12, rfl⟩
      · have HV4 := Lib.hid v4
        go_wp2
        go_roundg (n - (i + 1))
        case measure => omega
        case rel => exact ⟨i + 1, o7 + sz, _, by go_num, by omega, by rw [HOFF.out, Nat.sub_add_eq, Nat.sub_add_eq], Lib.hid (by rw [HOFF.out]; intro e; have h1 := HV4.out; have h2 := HLE.out; have := HA7.out (by omega); omega), HBX12, HOX12, HO12, HSX12, HKX12, rfl⟩
    · have : i = n := by omega
      subst this
      obtain ⟨A11, c11, hv11⟩ := ownsRow_shape HOV.out
      subst hv11
      obtain ⟨g, cap, hv, -, -⟩ := HOV.out.form (by have := HN.out; omega)
      injection hv with hA _ hc
      subst hA hc
      clear HKX
      go_wp2
      go_ret2
      exact ⟨g, _, rfl, HBX, vs, HOV, HSX⟩
end Go.Proofs.YtplkchmcojnimaaGreatDoor
/-
  models: Write.
-/
namespace Go.Proofs.YtplkchmcojnimaaGreatDoor
open Go.RowKit

def fileB (b : List Int) : List Int := [119, 109, 2] ++ b
theorem fileB_bytes {b : List Int} (h : Bytes b) : Bytes (fileB b) := Bytes.app (fun x hx => by simp only [List.mem_cons, List.not_mem_nil, or_false] at hx; omega) h
set_option maxRecDepth 100000 in
set_option maxHeartbeats 3200000 in
theorem write_any (m : MD) (p : MP) (hm : m.Ok) (w : World) (h : MAt w m p) :
    Calls Tryz.prog 8 #[.agg (mCells m p).toArray, .int .i64 2] w fun e w' => ∃ g c, e = .returned (.tuple #[.slice (some ⟨g, 0, none⟩) (sealB (fileB m.bytes)).length c, .int .i64 0]) ∧ Hid (Below w.heap.size w w') ∧ Hid (w'.ownsRow w.heap.size 5 1 (.slice (some ⟨g, 0, none⟩) (sealB (fileB m.bytes)).length c) (sealB (fileB m.bytes)).length (bys (sealB (fileB m.bytes)))) := by
  obtain ⟨wb, hwb, hbb, hk0⟩ : ∃ wb, w.alloc (.cells (mCells m p).toArray 27) = wb ∧ Below w.heap.size w wb ∧ Blk wb w.heap.size (mCells m p) 27 := ⟨_, rfl, (Below.refl _ _).alloc (Nat.le_refl _) _, heap_alloc_new w _⟩
  have HBB := Lib.hid hbb
  have HK := Lib.hid (check_ok m p hm wb (h.below hbb))
  have HBY := Lib.hid (fun (wx : World) (hb : Below wb.heap.size wb wx) => bytesOf_any m p hm wx ((h.below hbb).below hb))
  have HQ := Lib.hid (fun (wx : World) (hb : Below wb.heap.size wb wx) => (hk0.below hb).cell)
  have HL := Lib.hid hm.bytes_len
  have HBT := Lib.hid hm.bytes
  have q0 := hk0.cell
  clear hbb hk0 h hm
  simp only [mCells] at hwb HK HBY HQ q0 ⊢
  generalize m.bytes = B at HBY HL HBT ⊢
  obtain ⟨i0, hi0, hz0, hz1, hz2⟩ := info_parts info5
  go_enter Tryz.func8, Tryz.ntmps8
  go_upto_region 1 with fail
  clear hwb
  go_upto_region 10 with (first | (go_at_call 24; refine HK.out.mono ?_; rintro e w1 ⟨rfl, HB1⟩; have q1 := HQ.out _ HB1.out))
  obtain ⟨w2, hw2, hb2, ho2⟩ : ∃ w2, w1.alloc (.cells #[.int .u8 119, .int .u8 109, .int .u8 2] 5) = w2 ∧ Below wb.heap.size wb w2 ∧ w2.ownsRow w1.heap.size 5 1 (.slice (some ⟨w1.heap.size, 0, none⟩) 3 3) 3 (bys [119, 109, 2]) :=
    ⟨_, rfl, HB1.out.alloc HB1.out.size _, rfl, .inr ⟨w1.heap.size, 3, _, rfl, Nat.le_refl _, heap_alloc_new w1 _, Nat.le_refl _, by decide, rfl, rfl⟩⟩
  have HB2 := Lib.hid hb2
  have HO2 := Lib.hid ho2
  have q2 := HQ.out _ hb2
  have HSP := Lib.hid (show 0 < (fileB B).length ∧ (fileB B).length ≤ 1000000 by unfold fileB; rw [List.length_append]; have := HL.out; simp; omega)
  have HE := Lib.hid (show bys (fileB B) = bys [119, 109, 2] ++ bys B by simp [fileB, bys])
  clear hb2 ho2 q0 q1
  go_wp2_with (first | (at_builtin; have _g := HO3; clear _g; refine wpList_append_part rfl _ _ 34 rfl w1.heap.size i0 Tryz.underlying34 hi0 hz0 hz1 hz2 _ 3 _ rfl HO23.out (by decide) _ B.length c3 B rfl HR3.out (by have := HL.out; omega) HZ3.out ?_; intro g4 c4 w4 ho4 hg4; have HB4 := Lib.hid (HB3.out.trans (Below.ofGrown hg4 HB3.out.size (fun k hk => Nat.le_trans HB1.out.size (ownsRow_base HO23.out k hk)))); have HR4 : Hid (RdV w4 (.slice (some ⟨g4, 0, none⟩) (3 + B.length) c4) (bys (fileB B))) := Lib.hid (by rw [HE.out]; exact rdv_row1 ho4); clear ho4 hg4) | (go_at_call 26; refine (HBY.out w2 HB2.out).mono ?_; rintro e w3 ⟨A3, c3, rfl, HB3', HO3⟩; have HB3 := Lib.hid (HB2.out.trans (HB3'.out.mono HB2.out.size)); have HO23 := Lib.hid (ownsRow_below HO2.out HB3'.out); have HR3 := Lib.hid (rdv_row1 HO3.out); have HZ3 := Lib.hid (show w1.heap.size ≤ w3.heap.size by have h1 := HB3'.out.size; rw [← hw2] at h1; exact Nat.le_trans (alloc_le _ _) h1)) | (go_at_call 30; refine (sealed_any (fileB B) (fileB_bytes HBT.out) HSP.out.1 HSP.out.2 (some ⟨g4, 0, none⟩) (3 + B.length) c4 w4 HR4.out).mono ?_; rintro e w5 ⟨g5, c5, rfl, HB5', HO5⟩; have HB5 := Lib.hid (HB4.out.trans (HB5'.out.mono HB4.out.size))))
  go_ret2
  exact ⟨g5, c5, rfl, Lib.hid (HBB.out.trans (HB5.out.mono HBB.out.size)), Lib.hid (ownsRow_mono HO5.out (Nat.le_trans HBB.out.size HB4.out.size))⟩
end Go.Proofs.YtplkchmcojnimaaGreatDoor
/-
  codec: Source: byte.
-/
namespace Go.Proofs.YtplkchmcojnimaaGreatDoor
open Go.RowKit

/-- A source: a cell with what is still to be read. -/
structure SSt (w : World) (sb : Nat) (A : Option Addr) (n c : Nat) (l : List Int) : Prop where
  blk : Blk w sb [.slice A n c] 123
  rd : RdV w (.slice A n c) (bys l)
  ne : (Value.slice A n c).ownBlock ≠ some sb
set_option maxRecDepth 100000 in
set_option maxHeartbeats 1600000 in
theorem byte_any (sb b o n c : Nat) (x : Int) (l : List Int) (w : World) (h : SSt w sb (some ⟨b, o, none⟩) n c (x :: l)) :
    Calls Tryz.prog 83 #[.pointer (some ⟨sb, 0, none⟩)] w fun e w' => e = .returned (.int .u8 x) ∧ ∃ o', Hid (SSt w' sb (some ⟨b, o', none⟩) (n - 1) (c - 1) l) ∧ Hid (w' = w.setCell ⟨sb, 0, none⟩ (.slice (some ⟨b, o', none⟩) (n - 1) (c - 1))) := by
  have c0 := h.blk.cell 0
  have f0 := h.blk.frozen 0
  obtain ⟨hn, hlm⟩ := h.rd.len
  have hcap := h.rd.caps
  rw [List.length_cons] at hn
  obtain ⟨_, _, e1, c1⟩ := h.rd.at (i := 0) (by simp)
  injection e1 with e1; injection e1 with e2 e3; subst e2 e3
  simp only [List.getD_cons_zero, Nat.add_zero] at c1
  have d0 : ((n : Int) == 0) = false := by simp; omega
  have t0 : 0 < n := by omega
  have t1 : 1 ≤ n := by omega
  have t2 : 1 ≤ c := by omega
  have t3 : n ≤ c := hcap.2.1
  have hrest := fun A' hA => rdv_rest h.rd (by rw [List.length_cons]; omega) 1 (by omega) A' hA
  simp only [List.drop_succ_cons, List.drop_zero] at hrest
  have hne : b ≠ sb := fun e => h.ne (by simp [Value.ownBlock, e])
  have HS := Lib.hid (fun (o' : Nat) (hA : c ≠ 1 → (some (⟨b, o', none⟩ : Addr)) = some ⟨b, o + 1, none⟩) => show SSt (w.setCell ⟨sb, 0, none⟩ (.slice (some ⟨b, o', none⟩) (n - 1) (c - 1))) sb (some ⟨b, o', none⟩) (n - 1) (c - 1) l from
    ⟨h.blk.set 0 _, (hrest _ hA).far (by simpa [Value.ownBlock] using hne) 0 _, by simpa [Value.ownBlock] using hne⟩)
  clear h hlm hcap hrest hn hne
  by_cases v : c = 1
  · subst v
    go_enter Tryz.func83, Tryz.ntmps83
    go_wp2
    go_ret
    exact ⟨rfl, o, by have := HS.out o (fun e => absurd rfl e); rw [show n - 1 = 0 by omega] at this; exact Lib.hid this, Lib.hid rfl⟩
  · have HV := Lib.hid v
    go_enter Tryz.func83, Tryz.ntmps83
    go_wp2
    go_ret
    exact ⟨rfl, o + 1, by have := HS.out (o + 1) (fun _ => rfl); exact Lib.hid this, Lib.hid rfl⟩
end Go.Proofs.YtplkchmcojnimaaGreatDoor
