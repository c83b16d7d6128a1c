/-
  record: one more record on the log.
  work: pages shared, then entries computed or a token made. The plain side.
-/
import Derived.Test.YtllpoaoboieijaaGreatSa6
import Derived.Test.YtllpoaoboieijaaGreatSa10
/-
  record: one more record on the log.
-/
namespace Go.Proofs.YtllpoaoboieijaaGreat
open Go.RowKit

/-- Fields of the server itself, and its log, are written. -/
theorem SrvAt.srv_upd {own own' : Nat → Lb} {w w' : World} {sb : Nat} {L : Lay} {S : Srv} {T : Lb → Prop} (h : SrvAt own w sb L S) (x : Ext own w own' w' T) (hT : ∀ l, T l → l = .srv ∨ l = .log ∨ l = .other ∨ l = .loc)
    (S' : Srv) (lv : Value) (hm : S'.m = S.m) (hr : S'.reqs = S.reqs) (hp : S'.pages = S.pages) (hb : Blk w' sb (srvCells S' { L with logv := lv }) 70) (hlog : Owns own' .log w' 5 1 lv S'.log.length (S'.log.map (Value.int .u8))) :
    SrvAt own' w' sb { L with logv := lv } S' := by
  have n : ∀ l, l ≠ .srv → l ≠ .log → l ≠ .other → l ≠ .loc → ¬ T l := fun l a b c d t => by
    rcases hT l t with e | e | e | e
    · exact a e
    · exact b e
    · exact c e
    · exact d e
  have n1 : ∀ l, T l → l ≠ .mp := fun l t e => by subst e; exact n .mp (by intro e; cases e) (by intro e; cases e) (by intro e; cases e) (by intro e; cases e) t
  refine ⟨hb, by rw [x.lab _ h.blk.lt]; exact h.lab, ?_, ?_, by rw [x.lab _ (lt_of_heap h.mmap)]; exact h.mlab, ?_, by rw [x.lab _ h.pgs.lt]; exact h.plab, fun k p hk => ?_, hlog, fun r hrr => ?_, by rw [hr]; exact h.uniq, by rw [hr]; exact h.bnd, by rw [hr]; exact h.blt⟩
  · rw [hm]; exact h.mdl.ext x (n _ (by intro e; cases e) (by intro e; cases e) (by intro e; cases e) (by intro e; cases e))
  · rw [hr, x.keep _ (lt_of_heap h.mmap) (by rw [h.mlab]; exact n _ (by intro e; cases e) (by intro e; cases e) (by intro e; cases e) (by intro e; cases e))]; exact h.mmap
  · rw [hp]; exact h.pgs.ext x (by rw [h.plab]; exact n _ (by intro e; cases e) (by intro e; cases e) (by intro e; cases e) (by intro e; cases e))
  · rw [hp] at hk; exact (h.ptok k p hk).ext x (n _ (by intro e; cases e) (by intro e; cases e) (by intro e; cases e) (by intro e; cases e))
  · rw [hr] at hrr
    obtain ⟨a1, a2, a3, a4, a5⟩ := (h.req r hrr).ext x (n _ (by intro e; cases e) (by intro e; cases e) (by intro e; cases e) (by intro e; cases e)) (n _ (by intro e; cases e) (by intro e; cases e) (by intro e; cases e) (by intro e; cases e)) (n _ (by intro e; cases e) (by intro e; cases e) (by intro e; cases e) (by intro e; cases e)) (n _ (by intro e; cases e) (by intro e; cases e) (by intro e; cases e) (by intro e; cases e))
    exact ⟨a1, a2, a3, a4, a5⟩

def headL (n : Int) (b : List Int) : List Int := (lowL b.length 2 ++ lowL n 4) ++ b
/-- The bytes of a record. -/
def recL (n : Int) (k : Int) (l : List Int) : List Int := headL n (bodyL k l) ++ lowL (crcOf (headL n (bodyL k l))) 4
/-- One more record. -/
def Srv.record (S : Srv) (k : Int) (l : List Int) : Srv := { S with log := S.log ++ recL S.records k l, records := wrap64 (S.records + 1) }
theorem bodyL_length (k : Int) (l : List Int) : (bodyL k l).length = 1 + 4 * l.length := bodyTo_length k l l.length
theorem recL_length (n k : Int) (l : List Int) : (recL n k l).length = 11 + 4 * l.length := by
  simp only [recL, headL, List.length_append, lowL_length, bodyL_length]; omega

theorem own_len {base : Nat} {w : World} {v : Value} {l : List Int} (h : OwnBys base w v l) {n : Nat} (hn : l.length = n) : w.ownsRow base 5 1 v n (bys l) := hn ▸ h
theorem below_two {w w2 w3 : World} (h : Hid (Below w.heap.size w w2)) (k : Hid (Below w2.heap.size w2 w3)) : Below w.heap.size w w3 := h.out.trans (k.out.mono h.out.size)
theorem below_undrew {B : Nat} {w w' : World} (h : Below B w.drew w') : Below B w w' := ⟨h.os, h.tape, h.output, h.size, h.block⟩
theorem head_own {base : Nat} {w : World} {v : Value} {n : Int} {bd : List Int} (h : w.ownsRow base 5 1 v (2 + 4 + bd.length) (bys (lowL bd.length 2) ++ bys (lowL n 4) ++ bys bd)) : OwnBys base w v (headL n bd) := by
  unfold OwnBys headL
  simp only [List.length_append, lowL_length, bys, List.map_append]
  exact h
theorem RdV.drewN {w : World} {v : Value} {xs : List Value} (h : RdV w v xs) (n : Nat) : RdV (w.drewN n) v xs := h
theorem body_any' (k : Int) (l : List Int) (A : Option Addr) (c : Nat) (w : World) (h : RdV w (.slice A l.length c) (ints l)) (hl : l.length ≤ 100000) :
    Calls Tryz.prog 64 #[.int .i64 k, .slice A l.length c] w fun e w' => ∃ g c, e = .returned (.slice (some ⟨g, 0, none⟩) (bodyL k l).length c) ∧ Hid (Below w.heap.size w w') ∧ Hid (∀ (j : Nat) u, (bys (bodyL k l))[j]? = some u → w'.cell? ((⟨g, 0, none⟩ : Addr).add j) = some u) ∧ Hid (OwnBys w.heap.size w' (.slice (some ⟨g, 0, none⟩) (bodyL k l).length c) (bodyL k l)) := by
  refine (body_any k l A c w h hl).mono ?_
  rintro e w1 ⟨v, rfl, hb, ho⟩
  obtain ⟨g, c, rfl, hg, hn⟩ := OwnBys.news ho (by rw [bodyL_length]; omega)
  exact ⟨g, c, rfl, hb, hn, ho⟩

theorem sealed_any' (base : Nat) (l : List Int) (A : Option Addr) (c : Nat) (w : World) (h : OwnBys base w (.slice A l.length c) l) (hbase : base ≤ w.heap.size) (hl : l.length ≤ 167) :
    Calls Tryz.prog 58 #[.slice A l.length c] w fun e w' => ∃ g c', e = .returned (.slice (some ⟨g, 0, none⟩) (l.length + 4) c') ∧ Hid (Below base w w') ∧ Hid (∀ (j : Nat) u, (bys (l ++ lowL (crcOf l) 4))[j]? = some u → w'.cell? ((⟨g, 0, none⟩ : Addr).add j) = some u) := by
  refine (sealed_any base l _ w h hbase (by omega)).mono ?_
  rintro e w1 ⟨v, rfl, hb, ho⟩
  obtain ⟨g, c, rfl, hg, hn⟩ := OwnBys.news ho (by rw [List.length_append, lowL_length]; omega)
  exact ⟨g, c, by rw [List.length_append, lowL_length], hb, hn⟩

theorem log_own {own : Nat → Lb} {w : World} {sb : Nat} {L : Lay} {S : Srv} (h : SrvAt own w sb L S) {A : Option Addr} {c : Nat} (hv : L.logv = .slice A S.log.length c) : Owns own .log w 5 1 (.slice A S.log.length c) S.log.length (bys S.log) := hv ▸ h.log
/-- The log has grown; the server does not know of it yet. -/
theorem log_app {own : Nat → Lb} {w w' : World} {sb : Nat} {L : Lay} {S : Srv} (h : SrvAt own w sb L S) {A : Option Addr} {c : Nat} (hv : L.logv = .slice A S.log.length c) {g cap n' : Nat} {x : List Int}
    (hown : w'.ownsRow 0 5 1 (.slice (some ⟨g, 0, none⟩) (S.log.length + n') cap) (S.log.length + n') (bys S.log ++ bys x)) (hg : w.grownBy w' (Value.slice A S.log.length c).ownBlock) (hat : (Value.slice A S.log.length c).ownBlock = some g ∨ g = w.heap.size) :
    Blk w' sb (srvCells S { L with logv := .slice A S.log.length c }) 70 ∧ ∃ own', SrvAt own' (w'.setCell ⟨sb, 19, none⟩ (.slice (some ⟨g, 0, none⟩) (S.log.length + n') cap)) sb { L with logv := .slice (some ⟨g, 0, none⟩) (S.log.length + n') cap } { S with log := S.log ++ x } ∧
      Ext own w own' (w'.setCell ⟨sb, 19, none⟩ (.slice (some ⟨g, 0, none⟩) (S.log.length + n') cap)) (fun l => l = .srv ∨ l = .log) := by
  have ho := log_own h hv
  have hne : some sb ≠ (Value.slice A S.log.length c).ownBlock := by
    intro e
    have := ho.2 sb e.symm
    rw [h.lab] at this; cases this
  obtain ⟨x2, ho2⟩ := Owns.app ho hown hg hat
  have hb : Blk w' sb (srvCells S { L with logv := .slice A S.log.length c }) 70 := by
    have := Blk.grown hg h.blk hne
    rw [← hv]; exact this
  have hn : n' = x.length := by
    have := hown.1
    simp only [List.length_append, bys_length] at this
    omega
  subst hn
  refine ⟨hb, relab own w.heap.size .log, ?_⟩
  have hl : relab own w.heap.size .log sb = .srv := by rw [relab_old _ h.blk.lt]; exact h.lab
  have x3 : Ext (relab own w.heap.size .log) w' (relab own w.heap.size .log) (w'.setCell ⟨sb, 19, none⟩ (.slice (some ⟨g, 0, none⟩) (S.log.length + x.length) cap)) (fun l => l = .srv ∨ l = .log) := Ext.setCell _ _ (.inl hl)
  have x23 := (x2.mono (T' := fun l => l = .srv ∨ l = .log) (fun _ e => .inr e)).trans x3
  refine ⟨h.srv_upd x23 (fun l t => t.elim .inl (fun e => .inr (.inl e))) { S with log := S.log ++ x } _ rfl rfl rfl (hb.set 19 _) ?_, x23⟩
  have hsb : ∀ k, (Value.slice (some (⟨g, 0, none⟩ : Addr)) (S.log.length + x.length) cap).ownBlock = some k → k ≠ sb := fun k hk e => by
    have := ho2.2 k hk
    rw [e, hl] at this; cases this
  have := ho2.same (own' := relab own w.heap.size .log) (w' := w'.setCell ⟨sb, 19, none⟩ (.slice (some ⟨g, 0, none⟩) (S.log.length + x.length) cap)) (fun k hk => Below.heap_setCell _ _ _ _ (hsb k hk)) (fun _ _ => rfl)
  simp only [List.length_append, List.map_append]
  exact this

set_option maxRecDepth 100000 in
set_option maxHeartbeats 8000000 in
theorem record_any (own : Nat → Lb) (sb : Nat) (L : Lay) (S : Srv) (k : Int) (l : List Int) (b o c : Nat) (w : World) (h : SrvAt own w sb L S)
    (hr : RdV w (.slice (some ⟨b, o, none⟩) (l.length + 1) c) (ints (k :: l))) (hl : l.length ≤ 40) (hlog : S.log.length ≤ 10000000) :
    Calls Tryz.prog 33 #[.pointer (some ⟨sb, 0, none⟩), .slice (some ⟨b, o, none⟩) (l.length + 1) c] w fun e w' => e = .returned (.tuple #[]) ∧ Goes own sb L Tin (S.record k l) w w' := by
  have c2 := h.blk.cell
  simp only [srvCells] at c2
  have H := Lib.hid h
  have HLOG := Lib.hid hlog
  clear h hlog
  obtain ⟨A', c', hv, hc1, hc2, hcr⟩ := hr
  have hc : c = c' := by injection hv
  subst hc
  obtain ⟨b', o', hA, hcell⟩ := hcr (by simp [ints])
  rw [hA] at hv
  have hbb : b' = b ∧ o' = o := by injection hv with e1; injection e1 with e1; injection e1 with e2 e3; exact ⟨e2.symm, e3.symm⟩
  obtain ⟨rfl, rfl⟩ := hbb
  have hk0 : w.cell? ⟨b', o', none⟩ = some (.int .i64 k) := by have := hcell 0 (by simp [ints]); simpa [ints] using this
  have hrest : RdV w (.slice (if c = 1 then some ⟨b', o', none⟩ else some ⟨b', o' + 1, none⟩) l.length (c - 1)) (ints l) := by
    simp only [ints, List.map_cons, List.length_cons, List.length_map] at hc1 hcell
    refine ⟨if c = 1 then some ⟨b', o', none⟩ else some ⟨b', o' + 1, none⟩, c - 1, by simp [ints], by simp [ints]; omega, by omega, fun h0 => ?_⟩
    simp only [ints, List.length_map] at h0
    refine ⟨b', o' + 1, by rw [if_neg (by omega)], fun i hi => ?_⟩
    simp only [ints, List.length_map] at hi
    have := hcell (i + 1) (by omega)
    rw [show o' + 1 + i = o' + (i + 1) by omega, this]; simp [ints]
  have hc3 : l.length + 1 ≤ c := by simpa [ints] using hc1
  have HREST := Lib.hid hrest
  clear hrest hcell hc1 hA hv
  have t1 : (1 : Int) ≤ (l.length : Int) + 1 := by omega
  go_enter Tryz.func33, Tryz.ntmps33
  go_wp2
  refine wp_region_still_tail 5 (by kernel_rfl) (by kernel_rfl) ?_
  simp only [List.take_succ_cons, List.take_zero, List.drop_succ_cons, List.drop_zero]
  repeat still_step
  refine wpStill_nil ?_
  go_upto_region 1 with (first | (go_at_call 64; refine (body_any' k l _ _ _ (HREST.out.drewN 1) (by omega)).mono ?_; rintro e w1 ⟨g1, c1, rfl, HB1, HN1, HO1⟩))
  have hbl : (bodyL k l).length ≤ 161 := by rw [bodyL_length]; omega
  have h1 := (H.out.drewN 1).below HB1.out
  have hq : ∀ wx, Below w1.heap.size w1 wx → wx.cell? ⟨sb, 20, none⟩ = some (.int .i64 S.records) := fun wx hb => by
    have e := h1.blk.cell
    simp only [srvCells] at e
    rw [World.cell?_of_block (a := ⟨sb, 20, none⟩) (hb.block sb h1.blk.lt), e]; rfl
  have q1 := hq w1 (Below.refl _ _)
  have HQ := Lib.hid hq
  have H1 := Lib.hid h1
  have HRL := Lib.hid (show S.record k l = { S with log := S.log ++ (headL S.records (bodyL k l) ++ lowL (crcOf (headL S.records (bodyL k l))) 4), records := wrap64 (S.records + 1) } from rfl)
  generalize hbde : bodyL k l = bd at HB1 HN1 HO1 hbl HRL ⊢
  have hbp : 0 < bd.length := by rw [← hbde, bodyL_length]; omega
  have hnb : ∀ wx, Below w1.heap.size w1 wx → ∀ (j : Nat) u, (bys bd)[j]? = some u → wx.cell? ((⟨g1, 0, none⟩ : Addr).add j) = some u := fun wx hb j u hj => by
    rw [World.cell?_of_block (a := (⟨g1, 0, none⟩ : Addr).add j) (w := w1) (hb.block _ ?_)]
    · exact HN1.out j u hj
    · exact World.block_lt_of_cell? w1 _ (HN1.out j u hj)
  have HBP := Lib.hid hbp
  have HNB := Lib.hid hnb
  have HBL := Lib.hid hbl
  clear hbp hnb hbde
  clear hq h1 hbl c2 hk0 hc3 HREST t1 hcr hc2 H
  obtain ⟨i0, hi, hz0, hz1, hz2⟩ := info_parts info5
  generalize (if c = 1 then (some (⟨b', o', none⟩ : Addr)) else some ⟨b', o' + 1, none⟩) = A0
  go_cut [5] (fun s5 wx => ∃ v, s5 = v ∧ Below w1.heap.size w1 wx ∧ OwnBys w1.heap.size wx v (headL S.records bd))
  case first =>
    go_region_held3 (fun wy : World => wy.cell? ⟨sb, 20, none⟩ = some (.int .i64 S.records)) (first | exact q1 | exact q2 | exact q3 | exact q4 | exact q5) (first | (go_at_call 57; have _g := HB2; clear _g; refine (low_any' S.records 4 (by omega) (by omega) _).mono ?_; rintro e w3 ⟨g3, c3, rfl, HB3, HN3, -⟩; have HO3 := Lib.hid (own_len (HO2.out.below HB3.out) (lowL_length _ _)); have HB13 := Lib.hid (below_two HB2 HB3); have q3 := HQ.out w3 HB13.out; dsimp only) | (go_at_call 57; refine (low_any' (bd.length : Int) 2 (by omega) (by omega) w1.drew).mono ?_; rintro e w2 ⟨g2, c2, rfl, HB2', HN2, HO2⟩; have HB2 : Hid (Below w1.heap.size w1 w2) := Lib.hid (below_undrew HB2'.out); have q2 := HQ.out w2 (HB2.out); dsimp only) | (refine step_append_lies _ (by rfl) _ _ _ (by rfl) w1.heap.size 5 i0 (.int .u8 0) 1 1 Tryz.underlying56 hi hz0 hz1 hz2 rfl (by decide) (.slice (some ⟨g4, 0, none⟩) (2 + 4) cap4) (2 + 4) _ (by rfl) HO4.out ⟨g1, 0, none⟩ bd.length c1 (bys bd) (by rfl) (by simp [bys]) (HNB.out _ HB14.out) (bys_cells _) HBP.out (by unfold maxLen; have := HBL.out; omega) (by have := HBL.out; omega) HB14.out.size _ rfl ?_; intro g5 cap5 w5 hown5 hgrow5 hat5 hlt5; have HO5 := Lib.hid hown5; have HB15 := Lib.hid (HB14.out.trans (Below.ofGrown hgrow5 HB14.out.size (ownsRow_base HO4.out))); have q5 := HQ.out w5 HB15.out; clear hown5 hgrow5 hat5 hlt5) | (refine step_append_lies _ (by rfl) _ _ _ (by rfl) w1.heap.size 5 i0 (.int .u8 0) 1 1 Tryz.underlying56 hi hz0 hz1 hz2 rfl (by decide) (.slice (some ⟨g2, 0, none⟩) 2 c2) 2 _ (by rfl) HO3.out ⟨g3, 0, none⟩ 4 c3 (bys (lowL S.records 4)) (by rfl) (by simp [bys, lowL_length]) HN3.out (bys_cells _) (by decide) (by unfold maxLen; omega) (by omega) HB13.out.size _ rfl ?_; intro g4 cap4 w4 hown4 hgrow4 hat4 hlt4; have HO4 := Lib.hid hown4; have HB14 := Lib.hid (HB13.out.trans (Below.ofGrown hgrow4 HB13.out.size (ownsRow_base HO3.out))); have q4 := HQ.out w4 HB14.out; clear hown4 hgrow4 hat4 hlt4))
    all_goals (go_wp2_with fail; go_meet; exact ⟨_, rfl, HB15.out, head_own HO5.out⟩)
  case rest =>
    obtain ⟨v5, rfl, hbc, ho5⟩ := hcut
    obtain ⟨A5, c5, hv5, -⟩ := ho5.shape
    subst hv5
    generalize hhe : headL S.records bd = hd at ho5 HRL
    have hhl : hd.length ≤ 167 := by rw [← hhe]; simp only [headL, List.length_append, lowL_length]; have := HBL.out; omega
    have hc := H1.out.below hbc
    obtain ⟨LA, lc, hlv, -, -⟩ := hc.log.shape
    have hqc : ∀ wx, Below w1.heap.size wc wx → wx.cell? ⟨sb, 19, none⟩ = some (.slice LA S.log.length lc) := fun wx hb => by
      have e := hc.blk.cell
      simp only [srvCells] at e
      rw [World.cell?_of_block (a := ⟨sb, 19, none⟩) (hb.block sb H1.out.blk.lt), e, ← hlv]; rfl
    have qc := hqc wc (Below.refl _ _)
    have HQC := Lib.hid hqc
    have HLV := Lib.hid hlv
    have HBC := Lib.hid hbc
    have HO5 := Lib.hid ho5
    have HHL := Lib.hid hhl
    have HHE := Lib.hid hhe
    clear hqc hlv hbc ho5 hhl hc hhe q1
    go_upto_region 2 with (fail)
    go_region_law (first | (refine step_append_lies _ (by rfl) _ _ _ (by rfl) 0 5 i0 (.int .u8 0) 1 1 Tryz.underlying56 hi hz0 hz1 hz2 rfl (by decide) (.slice LA S.log.length lc) S.log.length _ (by rfl) HS7.out.1 ⟨g6, 0, none⟩ (hd.length + 4) c6 (bys (hd ++ lowL (crcOf hd) 4)) (by rfl) (by simp [bys, lowL_length]) HN6.out (bys_cells _) (Nat.succ_pos _) (by unfold maxLen; have := HHL.out; have := HLOG.out; omega) (by have := HHL.out; have := HLOG.out; omega) (Nat.zero_le _) _ rfl ?_; intro g7 cap7 w7 hown7 hgrow7 hat7 hlt7; have HA7 := Lib.hid (log_app HS6.out HLV.out hown7 hgrow7 hat7); have d7 := HA7.out.1.cell; have f7 := HA7.out.1.frozen; simp only [srvCells] at d7; clear hown7 hgrow7 hat7 hlt7) | (go_simp; go_at_call 58; refine (sealed_any' w1.heap.size hd A5 c5 wc.drew (show OwnBys w1.heap.size wc.drew (.slice A5 hd.length c5) hd from HO5.out) HBC.out.size HHL.out).mono ?_; rintro e w6 ⟨g6, c6, rfl, HB6, HN6⟩; have HB6' := Lib.hid (below_undrew HB6.out); have HS6 := Lib.hid (H1.out.below (HBC.out.trans HB6'.out)); have q6 := HQC.out w6 HB6'.out; have HS7 := Lib.hid (log_own HS6.out HLV.out)))
    all_goals
      obtain ⟨own7, h7, x7⟩ := HA7.out.2
      generalize w7.setCell ⟨sb, 19, none⟩ (.slice (some ⟨g7, 0, none⟩) (S.log.length + (hd.length + 4)) cap7) = w8 at h7 x7 ⊢
      have x6 := ((((Ext.refl own w Tin).drewN 1).trans (Ext.below HB1.out Tin .other)).trans (Ext.below (HBC.out.trans HB6'.out) Tin .other)).trans (x7.mono (T' := Tin) (fun l t => by rcases t with e | e <;> (rw [e]; intro f; cases f)))
      have e8 := h7.blk.cell
      have f8 := h7.blk.frozen
      simp only [srvCells] at e8
      have x9 : Ext own7 w8 own7 (w8.setCell ⟨sb, 20, none⟩ (.int .i64 (wrap64 (S.records + 1)))) (fun l => l = .srv) := Ext.setCell _ _ h7.lab
      have hne : ∀ k, (Value.slice (some (⟨g7, 0, none⟩ : Addr)) (S.log.length + (hd.length + 4)) cap7).ownBlock = some k → k ≠ sb := fun k hk e => by
        have := h7.log.2 k hk
        rw [e, h7.lab] at this; cases this
      have h9 := h7.srv_upd x9 (fun l t => .inl t) { S with log := S.log ++ (hd ++ lowL (crcOf hd) 4), records := wrap64 (S.records + 1) } (.slice (some ⟨g7, 0, none⟩) (S.log.length + (hd.length + 4)) cap7) rfl rfl rfl (h7.blk.set 20 _) (h7.log.same (fun k hk => Below.heap_setCell _ _ _ _ (hne k hk)) (fun _ _ => rfl))
      have X := Lib.hid (x6.trans (x9.mono (T' := Tin) (fun l t => by rw [show l = Lb.srv from t]; intro f; cases f)))
      have H9 := Lib.hid h9
      clear h7 x7 x6 x9 hne h9 d7 f7 HA7 q6 qc
      go_wp2
      go_end0
      rw [HRL.out]
      exact ⟨rfl, own7, _, H9.out, rfl, X.out⟩
end Go.Proofs.YtllpoaoboieijaaGreat
/-
  work: pages shared, then entries computed or a token made. The plain side.
-/
namespace Go.Proofs.YtllpoaoboieijaaGreat
open Go.RowKit

def Srv.shareStep (S : Srv) (r : Req) (k : Int) (p : Pg) : Srv :=
  ({ S with pages := S.pages.set k.toNat { p with owners := wrap64 (p.owners + 1), used := S.now } } : Srv).put { r with holds := r.holds ++ [k], entries := r.entries + S.pageSize }
def shareF : Nat → Srv → Req → Srv × Req
  | 0, S, r => (S, r)
  | n + 1, S, r =>
    if (S.shared r).2 = true then
      match S.pages[(S.shared r).1.toNat]? with
      | some p => shareF n (S.shareStep r (S.shared r).1 p) { r with holds := r.holds ++ [(S.shared r).1], entries := r.entries + S.pageSize }
      | none => (S, r)
    else (S, r)
def Srv.share (S : Srv) (r : Req) : Srv × Req := shareF (r.tokens.length + 1) S r

theorem shared_lt {S : Srv} {r : Req} (h : (S.shared r).2 = true) : 0 ≤ (S.shared r).1 ∧ (S.shared r).1 < S.pages.length ∧ r.entries + S.pageSize ≤ r.tokens.length ∧ r.entries % S.pageSize = 0 := by
  unfold Srv.shared at h ⊢
  split at h
  · cases h
  · rename_i hc
    rw [if_neg hc]
    simp only at h ⊢
    have h0 := of_decide_eq_true h
    rcases idxPg_lt (sharedP r.entries ((r.tokens.drop r.entries.toNat).take S.pageSize.toNat)) S.pages with h1 | h1
    · omega
    · refine ⟨h1.1, h1.2, ?_, ?_⟩
      · omega
      · by_cases e : r.entries % S.pageSize = 0
        · exact e
        · exact absurd (.inl e) hc
theorem WfReq.share {n : Nat} {v : Int} {r : Req} (h : WfReq n v r) {k size : Int} (hk : 0 ≤ k ∧ k < (n : Int)) (hs : 1 ≤ size) (he : r.entries + size ≤ r.tokens.length) : WfReq n v { r with holds := r.holds ++ [k], entries := r.entries + size } := by
  refine ⟨h.id0, h.id1, h.dl0, h.dl1, h.p0, h.p1, h.m0, h.m1, h.s0, h.s1, h.made0, h.made1, h.toks, ?_, ?_, he, ?_, h.tokv, h.openm⟩
  · intro j hj
    rcases List.mem_append.1 hj with h1 | h1
    · exact h.hold j h1
    · rw [List.mem_singleton.1 h1]; exact hk
  · have := h.hlen; simp; omega
  · intro e; simp at e
theorem Wf.shareStep {S : Srv} (h : Wf S) {r : Req} (hr : r ∈ S.reqs) (hs : (S.shared r).2 = true) {p : Pg} (hp : S.pages[(S.shared r).1.toNat]? = some p) : Wf (S.shareStep r (S.shared r).1 p) := by
  have hl := shared_lt hs
  refine h.put _ (by simp) (fun q hq => ?_) _ ((h.req r hr).share ⟨hl.1, hl.2.1⟩ h.size0 hl.2.2.1)
  rcases List.mem_or_eq_of_mem_set hq with h1 | h1
  · exact h.ptok q h1
  · rw [h1]; exact h.ptok p (List.mem_of_getElem? hp)
theorem shareStep_ids (S : Srv) (r : Req) (k : Int) (p : Pg) : (S.shareStep r k p).reqs.map Req.id = S.reqs.map Req.id := put_ids { S with pages := _ } _
theorem shareStep_mem {S : Srv} {r : Req} (hr : r ∈ S.reqs) (k : Int) (p : Pg) : ({ r with holds := r.holds ++ [k], entries := r.entries + S.pageSize } : Req) ∈ (S.shareStep r k p).reqs :=
  mem_put_self (S := { S with pages := _ }) hr rfl

/-- What is kept by sharing. -/
structure Shares (S : Srv) (r : Req) (S1 : Srv) (r1 : Req) : Prop where
  wf : Wf S1
  mem : r1 ∈ S1.reqs
  id : r1.id = r.id
  tok : r1.tokens = r.tokens
  ids : S1.reqs.map Req.id = S.reqs.map Req.id
  size : S1.pageSize = S.pageSize
  now : S1.now = S.now
theorem shareF_ok : ∀ n (S : Srv) (r : Req), Wf S → r ∈ S.reqs → Shares S r (shareF n S r).1 (shareF n S r).2
  | 0, _, _, hw, hr => ⟨hw, hr, rfl, rfl, rfl, rfl, rfl⟩
  | n + 1, S, r, hw, hr => by
    rw [shareF]
    split
    · rename_i hs
      split
      · rename_i p hp
        have h := shareF_ok n _ _ (hw.shareStep hr hs hp) (shareStep_mem hr _ p)
        exact ⟨h.wf, h.mem, h.id, h.tok, by rw [h.ids, shareStep_ids], h.size, h.now⟩
      · exact ⟨hw, hr, rfl, rfl, rfl, rfl, rfl⟩
    · exact ⟨hw, hr, rfl, rfl, rfl, rfl, rfl⟩
theorem shareF_no {n : Nat} {S : Srv} {r : Req} (h : (S.shared r).2 = false) : shareF n S r = (S, r) := by
  cases n with
  | zero => rfl
  | succ n => rw [shareF, if_neg (by rw [h]; decide)]
theorem shareF_yes {n : Nat} {S : Srv} {r : Req} {p : Pg} (h : (S.shared r).2 = true) (hp : S.pages[(S.shared r).1.toNat]? = some p) :
    shareF (n + 1) S r = shareF n (S.shareStep r (S.shared r).1 p) { r with holds := r.holds ++ [(S.shared r).1], entries := r.entries + S.pageSize } := by
  rw [shareF, if_pos h, hp]
end Go.Proofs.YtllpoaoboieijaaGreat
