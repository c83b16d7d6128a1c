/-
  Submit: the walk.
-/
import Derived.Deep.RegionHeld3
import Derived.Test.YtllpoaoboieijaaGreatSa22
import Derived.Test.YtllpoaoboieijaaGreatSa23
import Derived.Test.YtllpoaoboieijaaGreatSa24
import Derived.Test.YtllpoaoboieijaaGreatSa33
/-
  Submit: the walk.
-/
namespace Go.Proofs.YtllpoaoboieijaaGreat
open Go.RowKit
open Go.ChangeMaps (setBlock)

theorem clone_any2 (xs : List Int) (b o c : Nat) (w : World) (h : RdV w (.slice (some ⟨b, o, none⟩) xs.length c) (ints xs)) (h0 : 0 < xs.length) (h1 : xs.length ≤ 1000) :
    Calls Tryz.prog 29 #[.slice (some ⟨b, o, none⟩) xs.length c] w fun e w' => ∃ g c', e = .returned (.slice (some ⟨g, 0, none⟩) xs.length c') ∧ Hid (Below w.heap.size w w') ∧ Hid (w'.ownsRow w.heap.size 3 1 (.slice (some ⟨g, 0, none⟩) xs.length c') xs.length (ints xs)) := by
  refine (clone_any xs b o c w h h0 h1).mono ?_
  rintro e w1 ⟨v, rfl, hb, ho⟩
  rcases ho.2 with ⟨_, h⟩ | ⟨g, cap, cur, hv, h3⟩
  · omega
  · rw [hv] at ho ⊢
    exact ⟨g, cap, rfl, hb, ho⟩
def Ask.cells (q : Ask) (A : Option Addr) (c : Nat) : List Value := [.int .i64 q.id, .int .i64 q.deadline, .slice A q.prompt.length c, .int .i64 q.most, .int .i64 q.seed]
/-- What acceptable answers, at every place of the request. -/
def AccSaid (sb : Nat) (L : Lay) (S : Srv) (q : Ask) (A : Option Addr) (c : Nat) (v : Int) : Prop :=
  ∀ (own : Nat → Lb) (w : World), SrvAt own w sb L S → RdV w (.slice A q.prompt.length c) (ints q.prompt) → Calls Tryz.prog 32 #[.pointer (some ⟨sb, 0, none⟩), q.val A c] w fun e w' => e = .returned (.int .i64 v) ∧ ∃ own', SrvAt own' w' sb L S ∧ Ext own w own' w' Tloc

set_option maxRecDepth 100000 in
set_option maxHeartbeats 1600000 in
theorem submit_no (own : Nat → Lb) (sb : Nat) (L : Lay) (S : Srv) (q : Ask) (A : Option Addr) (c : Nat) (v : Int) (hv : v ≠ 0) (w : World) (h : SrvAt own w sb L S) (hr : RdV w (.slice A q.prompt.length c) (ints q.prompt)) (hacc : AccSaid sb L S q A c v) :
    Calls Tryz.prog 13 #[.pointer (some ⟨sb, 0, none⟩), q.val A c] w fun e w' => e = .returned (.int .i64 v) ∧ ∃ own', SrvAt own' w' sb L S ∧ Ext own w own' w' Tloc := by
  have hbel : Below w.heap.size w (w.alloc (.cells #[.int .i64 q.id, .int .i64 q.deadline, .slice A q.prompt.length c, .int .i64 q.most, .int .i64 q.seed] 41)) := (Below.refl _ _).alloc (Nat.le_refl _) _
  have HA := Lib.hid (hacc _ _ (h.below hbel) (hr.below hbel))
  have X1 := Lib.hid (Ext.below hbel Tloc .other (own := own))
  have hv1 : (v != 0) = true := by simpa using hv
  have hv2 : (v == 0) = false := by simpa using hv
  clear h hr hacc hbel
  unfold Ask.val at HA ⊢
  go_enter Tryz.func13, Tryz.ntmps13
  go_wp2_with (go_at_call 32; refine HA.out.mono ?_; rintro e w1 ⟨rfl, own1, h1, x1⟩; have H1 := Lib.hid h1; have X2 := Lib.hid (X1.out.trans x1); clear h1 x1)
  go_ret
  exact ⟨rfl, own1, H1.out, X2.out⟩

/-- A new key: what is kept. -/
theorem upd_keep {own : Nat → Lb} {w : World} {sb : Nat} {L : Lay} {S : Srv} (h : SrvAt own w sb L S) {id : Int} (hg : S.get id = none) (v : Value) :
    ∃ w6, Sem.run Tryz.prog (Instr.mapUpdate 67 (.map (some L.mb)) (.int .i64 id) v) w = .ok () w6 ∧ Keep L.mb w w6 ∧ w6.heap.size = w.heap.size ∧
      w6.heap[L.mb]? = some (.map (((S.reqs.map fun r => ({ key := .int .i64 r.id, val := .pointer (some ⟨L.rb r.id, 0, none⟩), born := L.born r.id } : MapEntry)).toArray).push { key := .int .i64 id, val := v, born := L.clock }) (L.clock + 1)) := by
  refine ⟨_, update_run h hg v, ⟨rfl, rfl, rfl, by simp [setBlock], fun b hb hne => ?_⟩, by simp [setBlock], ?_⟩
  · simp [setBlock, Ne.symm hne]
  · have := lt_of_heap h.mmap
    simp [setBlock, this]
/-- A server S' stands at the same place; the layout may be another. -/
def GoesNew (own : Nat → Lb) (sb : Nat) (S' : Srv) (w w' : World) : Prop := ∃ own' L', SrvAt own' w' sb L' S' ∧ Ext own w own' w' Tin
/-- The labels behind Submit's new blocks. -/
def subOwn (own1 : Nat → Lb) (N g2 g5 nb : Nat) (id : Int) : Nat → Lb := fun b => if b < N then own1 b else if b = g2 then .prm id else if b = g5 then .tok id else if b = nb then .req id else .other

set_option maxRecDepth 100000 in
set_option maxHeartbeats 3200000 in
theorem submit_ok (own : Nat → Lb) (sb : Nat) (L : Lay) (S : Srv) (q : Ask) (b o : Nat) (c : Nat) (w : World) (h : SrvAt own w sb L S) (hr : RdO own w (.slice (some ⟨b, o, none⟩) q.prompt.length c) (ints q.prompt)) (hacc : AccSaid sb L S q (some ⟨b, o, none⟩) c 0)
    (hp : 0 < q.prompt.length ∧ q.prompt.length ≤ 32) (hg : S.get q.id = none) (hlog : S.log.length ≤ 10000000) :
    Calls Tryz.prog 13 #[.pointer (some ⟨sb, 0, none⟩), q.val (some ⟨b, o, none⟩) c] w fun e w' => e = .returned (.int .i64 0) ∧ GoesNew own sb (({ S with reqs := S.reqs ++ [⟨q.id, q.deadline, q.prompt, q.most, q.seed, q.prompt, 0, [], 0, false, 0, 0, false, false⟩] } : Srv).record 1 (q.id :: q.deadline :: q.most :: q.seed :: (q.prompt.length : Int) :: q.prompt)) w w' := by
  have hbel : Below w.heap.size w (w.alloc (.cells #[.int .i64 q.id, .int .i64 q.deadline, .slice (some ⟨b, o, none⟩) q.prompt.length c, .int .i64 q.most, .int .i64 q.seed] 41)) := (Below.refl _ _).alloc (Nat.le_refl _) _
  have HA := Lib.hid (hacc _ _ (h.below hbel) (hr.1.below hbel))
  have HR := Lib.hid (hr.ext (Ext.below hbel Tloc .other) (by intro f; cases f))
  have X1 := Lib.hid (Ext.below hbel Tloc .other (own := own))
  have hbx := heap_alloc_new w (.cells #[.int .i64 q.id, .int .i64 q.deadline, .slice (some ⟨b, o, none⟩) q.prompt.length c, .int .i64 q.most, .int .i64 q.seed] 41)
  have HBX := Lib.hid hbx
  clear h hr hacc hbel hbx
  unfold Ask.val at HA ⊢
  go_enter Tryz.func13, Tryz.ntmps13
  go_upto_region 4 with (go_at_call 32; refine HA.out.mono ?_; rintro e w1 ⟨rfl, own1, h1, x1⟩; have H1 := Lib.hid h1; have X2 := Lib.hid x1; clear h1 x1)
  have hlb : relab own w.heap.size .other w.heap.size = .other := relab_new _ (Nat.le_refl _)
  have hb1 : Blk w1 w.heap.size [.int .i64 q.id, .int .i64 q.deadline, .slice (some ⟨b, o, none⟩) q.prompt.length c, .int .i64 q.most, .int .i64 q.seed] 41 := Blk.ext X2.out (l := [.int .i64 q.id, .int .i64 q.deadline, .slice (some ⟨b, o, none⟩) q.prompt.length c, .int .i64 q.most, .int .i64 q.seed]) HBX.out (by rw [hlb]; intro f; cases f)
  have hlb1 : own1 w.heap.size = .other := by rw [X2.out.lab _ (lt_of_heap HBX.out)]; exact hlb
  have hr1 := HR.out.ext X2.out (by intro f; cases f)
  have HCL := Lib.hid (clone_any2 q.prompt b o c w1 hr1.1 hp.1 (by omega))
  have X2' := Lib.hid (X1.out.trans X2.out)
  generalize hbx : w.heap.size = bx at hb1 hlb1 X2' ⊢
  have k1 := hb1.cell
  have HB1 := Lib.hid hb1
  have HLB := Lib.hid hlb1
  have HR1 := Lib.hid hr1
  have HBXE := Lib.hid hbx
  clear hb1 hlb1 hlb hr1 hbx
  go_upto_region 5 with (go_at_call 29; refine HCL.out.mono ?_; rintro e w2 ⟨g2, c2, rfl, HB2, HO2⟩; have k2 := (HB1.out.below HB2.out).cell; have f2 := (HB1.out.below HB2.out).frozen)
  obtain ⟨w3, hw3, hs3, k3⟩ : ∃ w3 : World, w2.setCell ⟨bx, 2, none⟩ (.slice (some ⟨g2, 0, none⟩) q.prompt.length c2) = w3 ∧ SrvAt (relab own1 w1.heap.size .other) w3 sb L S ∧ Blk w3 bx [.int .i64 q.id, .int .i64 q.deadline, .slice (some ⟨g2, 0, none⟩) q.prompt.length c2, .int .i64 q.most, .int .i64 q.seed] 41 := by
    refine ⟨_, rfl, (H1.out.below HB2.out).other (Ext.setCell (T := fun l => l = .other) _ _ ?_) (fun _ e => e), (HB1.out.below HB2.out).set 2 _⟩
    rw [relab_old _ HB1.out.lt]; exact HLB.out
  rw [hw3]
  have HW3 := Lib.hid hw3
  have e3 := hs3.blk.cell
  simp only [srvCells] at e3
  have k4 := k3.cell
  have HK3 := Lib.hid k3
  have HS3 := Lib.hid hs3
  clear hw3 hs3 k3 k1 k2 f2
  have hr3 : RdV w3 (.slice (some ⟨g2, 0, none⟩) q.prompt.length c2) (ints q.prompt) := by
    have k23 : Keep bx w2 w3 := by rw [← HW3.out]; exact (Keep.of_below (Below.refl _ _)).setD 2 _
    have hlt := HB1.out.lt
    have hg2 := ownsRow_base HO2.out g2 rfl
    exact (k23.rd (OwnInts.rd HO2.out) hp.1 (by omega)).rdv
  have HG := Lib.hid hg
  have HCL2 := Lib.hid (clone_any2 q.prompt g2 0 c2 w3.drew hr3 hp.1 (by omega))
  have HS3' := Lib.hid (fun (wx : World) (hb : Below w3.heap.size w3 wx) => And.intro (show ∀ o, wx.cell? ⟨sb, o, none⟩ = ([Value.int .i64 S.m.kind, .int .i64 S.m.vocab, .int .i64 S.m.width, .int .i64 S.m.top, L.mv.cuts, L.mv.embed, L.mv.place, L.mv.mix, L.mv.out, L.mv.soft, L.mv.odds, .int .i64 S.pagesN, .int .i64 S.pageSize, .int .i64 S.batch, .int .i64 S.queue, .int .i64 S.vocab, .int .i64 S.now, .map (some L.mb), .slice (some ⟨L.pb, 0, none⟩) S.pages.length S.pages.length, L.logv, .int .i64 S.records, .int .i64 S.synced, .bool S.replay] : List Value)[o]? from ((HS3.out.below hb).blk).cell) (show ∀ o, wx.cell? ⟨bx, o, none⟩ = ([Value.int .i64 q.id, .int .i64 q.deadline, .slice (some ⟨g2, 0, none⟩) q.prompt.length c2, .int .i64 q.most, .int .i64 q.seed] : List Value)[o]? from (HK3.out.below hb).cell))
  have hne1 : sb ≠ L.mb := fun e => by have h1 := H1.out.lab; rw [e, H1.out.mlab] at h1; cases h1
  have hne2 : bx ≠ L.mb := fun e => by have h1 := HLB.out; rw [e, H1.out.mlab] at h1; cases h1
  have hpost : ∀ (w4 : World) (g5 c5 : Nat), Below w3.heap.size w3 w4 → ∃ w6, Sem.run Tryz.prog (Instr.mapUpdate 67 (.map (some L.mb)) (.int .i64 q.id) (.pointer (some ⟨w4.heap.size, 0, none⟩))) (w4.alloc (.cells #[.int .i64 q.id, .int .i64 q.deadline, .slice (some ⟨g2, 0, none⟩) q.prompt.length c2, .int .i64 q.most, .int .i64 q.seed, .slice (some ⟨g5, 0, none⟩) q.prompt.length c5, .int .i64 0, .slice none 0 0, .int .i64 0, .bool false, .int .i64 0, .int .i64 0, .bool false, .bool false] 75)) = .ok () w6 ∧
      Hid (Keep L.mb (w4.alloc (.cells #[.int .i64 q.id, .int .i64 q.deadline, .slice (some ⟨g2, 0, none⟩) q.prompt.length c2, .int .i64 q.most, .int .i64 q.seed, .slice (some ⟨g5, 0, none⟩) q.prompt.length c5, .int .i64 0, .slice none 0 0, .int .i64 0, .bool false, .int .i64 0, .int .i64 0, .bool false, .bool false] 75)) w6 ∧ w6.heap[L.mb]? = some (.map (((S.reqs.map fun r => ({ key := .int .i64 r.id, val := .pointer (some ⟨L.rb r.id, 0, none⟩), born := L.born r.id } : MapEntry)).toArray).push { key := .int .i64 q.id, val := .pointer (some ⟨w4.heap.size, 0, none⟩), born := L.clock }) (L.clock + 1))) ∧
      Hid ((∀ o, w6.cell? ⟨sb, o, none⟩ = ([Value.int .i64 S.m.kind, .int .i64 S.m.vocab, .int .i64 S.m.width, .int .i64 S.m.top, L.mv.cuts, L.mv.embed, L.mv.place, L.mv.mix, L.mv.out, L.mv.soft, L.mv.odds, .int .i64 S.pagesN, .int .i64 S.pageSize, .int .i64 S.batch, .int .i64 S.queue, .int .i64 S.vocab, .int .i64 S.now, .map (some L.mb), .slice (some ⟨L.pb, 0, none⟩) S.pages.length S.pages.length, L.logv, .int .i64 S.records, .int .i64 S.synced, .bool S.replay] : List Value)[o]?) ∧ (∀ o, w6.cell? ⟨bx, o, none⟩ = ([Value.int .i64 q.id, .int .i64 q.deadline, .slice (some ⟨g2, 0, none⟩) q.prompt.length c2, .int .i64 q.most, .int .i64 q.seed] : List Value)[o]?)) := by
    intro w4 g5 c5 hb4
    have hal : Below w4.heap.size w4 (w4.alloc (.cells #[.int .i64 q.id, .int .i64 q.deadline, .slice (some ⟨g2, 0, none⟩) q.prompt.length c2, .int .i64 q.most, .int .i64 q.seed, .slice (some ⟨g5, 0, none⟩) q.prompt.length c5, .int .i64 0, .slice none 0 0, .int .i64 0, .bool false, .int .i64 0, .int .i64 0, .bool false, .bool false] 75)) := (Below.refl _ _).alloc (Nat.le_refl _) _
    obtain ⟨w6, hmu, kp6, sz6, mp6⟩ := upd_keep ((HS3.out.below hb4).below hal) HG.out (.pointer (some ⟨w4.heap.size, 0, none⟩))
    refine ⟨w6, hmu, Lib.hid ⟨kp6, mp6⟩, Lib.hid ⟨fun o => ?_, fun o => ?_⟩⟩
    · rw [World.cell?_of_block (a := ⟨sb, o, none⟩) (kp6.block sb (Nat.lt_of_lt_of_le (HS3.out.below hb4).blk.lt (alloc_le _ _)) hne1)]
      exact (HS3'.out _ (hb4.alloc hb4.size _)).1 o
    · rw [World.cell?_of_block (a := ⟨bx, o, none⟩) (kp6.block bx (Nat.lt_of_lt_of_le (HK3.out.below hb4).lt (alloc_le _ _)) hne2)]
      exact (HS3'.out _ (hb4.alloc hb4.size _)).2 o
  have HPOST := Lib.hid hpost
  have HNE := Lib.hid (And.intro hne1 hne2)
  clear hne1 hne2 hpost
  clear hr3 e3 k4
  go_region_held3 (fun wy : World => (∀ o, wy.cell? ⟨sb, o, none⟩ = ([Value.int .i64 S.m.kind, .int .i64 S.m.vocab, .int .i64 S.m.width, .int .i64 S.m.top, L.mv.cuts, L.mv.embed, L.mv.place, L.mv.mix, L.mv.out, L.mv.soft, L.mv.odds, .int .i64 S.pagesN, .int .i64 S.pageSize, .int .i64 S.batch, .int .i64 S.queue, .int .i64 S.vocab, .int .i64 S.now, .map (some L.mb), .slice (some ⟨L.pb, 0, none⟩) S.pages.length S.pages.length, L.logv, .int .i64 S.records, .int .i64 S.synced, .bool S.replay] : List Value)[o]?) ∧ (∀ o, wy.cell? ⟨bx, o, none⟩ = ([Value.int .i64 q.id, .int .i64 q.deadline, .slice (some ⟨g2, 0, none⟩) q.prompt.length c2, .int .i64 q.most, .int .i64 q.seed] : List Value)[o]?)) (first | exact HS6.out | exact HS3'.out _ (HB4.out.alloc HB4.out.size _) | exact HS3'.out _ HB4.out | exact HS3'.out _ (Below.refl _ _).drew) (first | (go_at_call 29; refine HCL2.out.mono ?_; rintro e w4 ⟨g5, c5, rfl, HB4', HO4⟩; have HB4 : Hid (Below w3.heap.size w3 w4) := Lib.hid (below_undrew HB4'.out); obtain ⟨w6, hmu, HP6, HS6⟩ := HPOST.out w4 g5 c5 HB4.out; have HMU := Lib.hid hmu; dsimp only))
  obtain ⟨kp6, mp6⟩ := HP6.out
  have hal : Below w3.heap.size w3 (w4.alloc (.cells #[.int .i64 q.id, .int .i64 q.deadline, .slice (some ⟨g2, 0, none⟩) q.prompt.length c2, .int .i64 q.most, .int .i64 q.seed, .slice (some ⟨g5, 0, none⟩) q.prompt.length c5, .int .i64 0, .slice none 0 0, .int .i64 0, .bool false, .int .i64 0, .int .i64 0, .bool false, .bool false] 75)) := HB4.out.alloc HB4.out.size _
  have hsz23 : w3.heap.size = w2.heap.size := by rw [← HW3.out]; simp [World.setCell]
  have n1 : w1.heap.size ≤ g2 := ownsRow_base HO2.out g2 rfl
  have n2 : g2 < w2.heap.size := (HO2.out.lt g2 rfl).2
  have n3 : w3.heap.size ≤ g5 := ownsRow_base HO4.out g5 rfl
  have n4 : g5 < w4.heap.size := (HO4.out.lt g5 rfl).2
  have n5 : w1.heap.size ≤ w2.heap.size := HB2.out.size
  have n6 : w3.heap.size ≤ w4.heap.size := HB4.out.size
  have hbx1 : bx < w1.heap.size := HB1.out.lt
  have hmb1 : L.mb < w1.heap.size := lt_of_heap H1.out.mmap
  have hsa : (w4.alloc (.cells #[.int .i64 q.id, .int .i64 q.deadline, .slice (some ⟨g2, 0, none⟩) q.prompt.length c2, .int .i64 q.most, .int .i64 q.seed, .slice (some ⟨g5, 0, none⟩) q.prompt.length c5, .int .i64 0, .slice none 0 0, .int .i64 0, .bool false, .int .i64 0, .int .i64 0, .bool false, .bool false] 75)).heap.size = w4.heap.size + 1 := World.size_alloc _ _
  have k23 : ∀ b, b ≠ bx → w3.heap[b]? = w2.heap[b]? := fun b hb => by rw [← HW3.out]; exact Below.heap_setCell _ ⟨bx, 2, none⟩ _ _ hb
  have k36 : ∀ b, b < w3.heap.size → b ≠ L.mb → w6.heap[b]? = w3.heap[b]? := fun b hb hm => (kp6.block b (by omega) hm).trans (hal.block b hb)
  have k16 : ∀ b, b < w1.heap.size → b ≠ L.mb → b ≠ bx → w6.heap[b]? = w1.heap[b]? := fun b hb hm hx => (k36 b (by omega) hm).trans ((k23 b hx).trans (HB2.out.block b hb))
  have k26 : ∀ b, w1.heap.size ≤ b → b < w2.heap.size → w6.heap[b]? = w2.heap[b]? := fun b hb hb2 => (k36 b (by omega) (by omega)).trans (k23 b (by omega))
  have x6 : Ext own1 w1 (subOwn own1 w1.heap.size g2 g5 w4.heap.size q.id) w6 (fun l => l = .mp ∨ l = .other) := by
    refine ⟨?_, ?_, ?_, ?_, fun b hb => by simp [subOwn, hb], fun b hb ht => ?_⟩
    · rw [kp6.os, hal.os, ← HW3.out]; exact HB2.out.os
    · rw [kp6.tape, hal.tape, ← HW3.out]; exact HB2.out.tape
    · rw [kp6.output, hal.output, ← HW3.out]; exact HB2.out.output
    · have := kp6.size; omega
    · exact k16 b hb (fun e => ht (.inl (by rw [e]; exact H1.out.mlab))) (fun e => ht (.inr (by rw [e]; exact HLB.out)))
  have hnb : Blk w6 w4.heap.size (reqCells ⟨q.id, q.deadline, q.prompt, q.most, q.seed, q.prompt, 0, [], 0, false, 0, 0, false, false⟩ (.slice (some ⟨g2, 0, none⟩) q.prompt.length c2) (.slice (some ⟨g5, 0, none⟩) q.prompt.length c5) (.slice none 0 0)) 75 := by
    unfold Blk
    rw [kp6.block w4.heap.size (by omega) (by omega)]
    exact heap_alloc_new w4 _
  have hpr : Owns (subOwn own1 w1.heap.size g2 g5 w4.heap.size q.id) (.prm q.id) w6 3 1 (.slice (some ⟨g2, 0, none⟩) q.prompt.length c2) q.prompt.length (ints q.prompt) := by
    refine Owns.same (own := subOwn own1 w1.heap.size g2 g5 w4.heap.size q.id) (w := w2) ⟨ownsRow_mono HO2.out (Nat.zero_le _), fun k hk => ?_⟩ (fun k hk => ?_) (fun _ _ => rfl)
    · have : g2 = k := by simpa [Value.ownBlock] using hk
      subst this
      simp [subOwn, Nat.not_lt.2 n1]
    · have : g2 = k := by simpa [Value.ownBlock] using hk
      subst this
      exact k26 g2 n1 n2
  have htk : Owns (subOwn own1 w1.heap.size g2 g5 w4.heap.size q.id) (.tok q.id) w6 3 1 (.slice (some ⟨g5, 0, none⟩) q.prompt.length c5) q.prompt.length (ints q.prompt) := by
    refine Owns.same (own := subOwn own1 w1.heap.size g2 g5 w4.heap.size q.id) (w := w4) ⟨ownsRow_mono HO4.out (Nat.zero_le _), fun k hk => ?_⟩ (fun k hk => ?_) (fun _ _ => rfl)
    · have : g5 = k := by simpa [Value.ownBlock] using hk
      subst this
      simp [subOwn, show ¬ g5 < w1.heap.size by omega, show g5 ≠ g2 by omega]
    · have : g5 = k := by simpa [Value.ownBlock] using hk
      subst this
      rw [kp6.block g5 (by omega) (by omega)]
      exact Below.heap_alloc _ _ _ n4
  have h6 := H1.out.add x6 (fun l t => t.elim .inl (fun e => .inr (.inl e))) ⟨q.id, q.deadline, q.prompt, q.most, q.seed, q.prompt, 0, [], 0, false, 0, 0, false, false⟩ (get_none HG.out) w4.heap.size (.slice (some ⟨g2, 0, none⟩) q.prompt.length c2) (.slice (some ⟨g5, 0, none⟩) q.prompt.length c5) (.slice none 0 0) mp6 hnb (by simp [subOwn, show ¬ w4.heap.size < w1.heap.size by omega, show w4.heap.size ≠ g2 by omega, show w4.heap.size ≠ g5 by omega]) hpr htk (Owns.nil _ _ _ _ _)
  have xx : Ext own w (subOwn own1 w1.heap.size g2 g5 w4.heap.size q.id) w6 Tin := by
    refine ⟨x6.os.trans X2'.out.os, x6.tape.trans X2'.out.tape, x6.output.trans X2'.out.output, Nat.le_trans X2'.out.size x6.size, fun b hb => (x6.lab b (Nat.lt_of_lt_of_le hb X2'.out.size)).trans (X2'.out.lab b hb), fun b hb ht => ?_⟩
    have hlo : own b = .other := Classical.byContradiction fun c => ht c
    have hl1 : own1 b = .other := (X2'.out.lab b hb).trans hlo
    rw [k16 b (Nat.lt_of_lt_of_le hb X2'.out.size) (fun e => by rw [e, H1.out.mlab] at hl1; cases hl1) (fun e => by have := HBXE.out; omega)]
    exact X2'.out.keep b hb (by rw [hlo]; intro f; cases f)
  have hr6 : RdAt w6 g2 0 c2 q.prompt := OwnInts.rd hpr.1
  have H6 := Lib.hid h6
  have XX := Lib.hid xx
  have r6 := HS6.out.2
  have r7 := HS6.out.1
  generalize subOwn own1 w1.heap.size g2 g5 w4.heap.size q.id = own6 at H6 XX
  generalize L.add q.id w4.heap.size (.slice (some ⟨g2, 0, none⟩) q.prompt.length c2) (.slice (some ⟨g5, 0, none⟩) q.prompt.length c5) (.slice none 0 0) = L6 at H6
  obtain ⟨i0, hi, hz0, hz1, hz2⟩ := info_parts info3
  obtain ⟨w7, hw7, hb7, hk7⟩ : ∃ w7, w6.alloc (.cells #[.int .i64 1, .int .i64 q.id, .int .i64 q.deadline, .int .i64 q.most, .int .i64 q.seed, .int .i64 q.prompt.length] 3) = w7 ∧ Below w6.heap.size w6 w7 ∧ w7.ownsRow w6.heap.size 3 1 (.slice (some ⟨w6.heap.size, 0, none⟩) 6 6) 6 (ints [1, q.id, q.deadline, q.most, q.seed, q.prompt.length]) :=
    ⟨_, rfl, (Below.refl _ _).alloc (Nat.le_refl _) _, rfl, .inr ⟨w6.heap.size, 6, _, rfl, Nat.le_refl _, heap_alloc_new w6 _, Nat.le_refl _, by decide, rfl, rfl⟩⟩
  have HB7 := Lib.hid hb7
  have HO7 := Lib.hid hk7
  have HN7 := Lib.hid (hr6.below hb7).news
  have HP := Lib.hid hp
  have r8 := fun o => (hb7.cell (p := ⟨bx, o, none⟩) (by show bx < _; have := x6.size; omega)).trans (r6 o)
  have r9 := fun o => (hb7.cell (p := ⟨sb, o, none⟩) H6.out.blk.lt).trans (r7 o)
  have hlen : ([1, q.id, q.deadline, q.most, q.seed, (q.prompt.length : Int)] : List Int).length = 6 := rfl
  have hbx6 : bx < w6.heap.size := by have := x6.size; omega
  clear h6 xx x6 hnb hpr htk hr6 hb7 hk7 kp6 mp6 hal hsz23 n1 n2 n3 n4 n5 n6 hbx1 hmb1 hsa k23 k36 k16 k26
  have hrec : ∀ (w8 : World) (g cap : Nat), Below w6.heap.size w6 w8 → w8.ownsRow w6.heap.size 3 1 (.slice (some ⟨g, 0, none⟩) (6 + q.prompt.length) cap) (6 + q.prompt.length) (ints [1, q.id, q.deadline, q.most, q.seed, q.prompt.length] ++ ints q.prompt) →
      Calls Tryz.prog 33 #[.pointer (some ⟨sb, 0, none⟩), .slice (some ⟨g, 0, none⟩) (6 + q.prompt.length) cap] w8 fun e w' => e = .returned (.tuple #[]) ∧ Goes (relab own6 w6.heap.size .other) sb L6 Tin (({ S with reqs := S.reqs ++ [⟨q.id, q.deadline, q.prompt, q.most, q.seed, q.prompt, 0, [], 0, false, 0, 0, false, false⟩] } : Srv).record 1 (q.id :: q.deadline :: q.most :: q.seed :: (q.prompt.length : Int) :: q.prompt)) w8 w' := by
    intro w8 g cap hb8 ho8
    have e1 : ints [1, q.id, q.deadline, q.most, q.seed, (q.prompt.length : Int)] ++ ints q.prompt = ints (1 :: q.id :: q.deadline :: q.most :: q.seed :: (q.prompt.length : Int) :: q.prompt) := by simp [ints]
    rw [e1] at ho8
    have hrd := (OwnInts.rd ho8).rdv
    have hl : (1 :: q.id :: q.deadline :: q.most :: q.seed :: (q.prompt.length : Int) :: q.prompt).length = (q.id :: q.deadline :: q.most :: q.seed :: (q.prompt.length : Int) :: q.prompt).length + 1 := rfl
    rw [hl] at hrd
    have := record_any (relab own6 w6.heap.size .other) sb L6 _ 1 (q.id :: q.deadline :: q.most :: q.seed :: (q.prompt.length : Int) :: q.prompt) g 0 cap w8 (H6.out.below hb8) hrd (by have := HP.out.2; simp; omega) hlog
    rw [show (q.id :: q.deadline :: q.most :: q.seed :: (q.prompt.length : Int) :: q.prompt).length + 1 = 6 + q.prompt.length by simp; omega] at this
    exact this
  have HREC := Lib.hid hrec
  clear hrec
  go_wp2_with (first | (at_builtin; refine wpList_append_lies _ rfl _ _ 22 rfl w6.heap.size 3 i0 (.int .i64 0) 1 8 Tryz.underlying22 hi hz0 hz1 hz2 rfl (by decide) _ 6 _ rfl HO7.out ⟨g2, 0, none⟩ q.prompt.length c2 (ints q.prompt) rfl (by simp [ints]) HN7.out (oneC _) HP.out.1 (by have := HP.out.2; unfold maxLen; omega) (by have := HP.out.2; omega) HB7.out.size _ rfl ?_; intro g8 cap8 w8 hown8 hgrow8 hat8 hlt8; have HO8 := Lib.hid hown8; have HB8 := Lib.hid (HB7.out.trans (Below.ofGrown hgrow8 HB7.out.size (ownsRow_base HO7.out))); clear hown8 hgrow8 hat8 hlt8) | (go_at_call 33; refine (HREC.out w8 g8 cap8 HB8.out HO8.out).mono ?_; rintro e w9 ⟨rfl, hg9⟩; have HG9 := Lib.hid hg9; clear hg9))
  go_ret
  obtain ⟨own9, L9, h9, -, x9⟩ := HG9.out
  exact ⟨rfl, own9, L9, h9, (XX.out.trans (Ext.below HB8.out Tin .other)).trans x9⟩
end Go.Proofs.YtllpoaoboieijaaGreat
