/-
  open: the requests under way, in order.
  Waiting.
  low: the low bytes of a number.
  Code: the check number of bytes.
-/
import Derived.Maps.RangeWalk
import Derived.Test.YtllpoaoboieijaaGreatSa8
/-
  open: the requests under way, in order.
-/
namespace Go.Proofs.YtllpoaoboieijaaGreat
open Go.RowKit

theorem Owns.rdv {own : Nat → Lb} {lb : Lb} {w : World} {v : Value} {e : TypeId} {xs : List Value} (h : Owns own lb w e 1 v xs.length xs) : RdV w v xs := by
  rcases Nat.eq_zero_or_pos xs.length with h0 | h0
  · obtain ⟨A, c, hv, h1, h2⟩ := h.shape
    rcases h.1.2 with ⟨hv, hn⟩ | ⟨g, cap, cur, hv, _, h4, h5, h6, h7, h8⟩
    · exact ⟨none, 0, by rw [hv, hn], by omega, Nat.zero_le _, fun h => by omega⟩
    · exact ⟨_, cap, hv, h5, h6, fun h => by omega⟩
  · obtain ⟨g, c, rest, hv, hb, hg, h1, h2, h3⟩ := h.blk h0
    refine ⟨_, c, hv, h1, h2, fun _ => ⟨g, 0, rfl, fun i hi => ?_⟩⟩
    rw [Nat.zero_add, hb.cell, List.getElem?_append_left hi, List.getElem?_eq_getElem hi]

/-- What open answers. -/
def OpenGot (own : Nat → Lb) (sb : Nat) (L : Lay) (S : Srv) (w : World) (e : Ending) (w' : World) : Prop :=
  ∃ ys v own', e = .returned v ∧ Opens S ys ∧ SrvAt own' w' sb L S ∧ RdO own' w' v (ptrs L ys) ∧ Ext own w own' w' Tloc

/-- The list under way. -/
def LocL (own : Nat → Lb) (w : World) (it : Nat) (v : Value) (n : Nat) (xs : List Value) : Prop := Owns own .loc w 73 1 v n xs ∧ (∀ k, v.ownBlock = some k → it < k) ∧ (n = 0 → v = .slice none 0 0)

set_option maxRecDepth 100000 in
set_option maxHeartbeats 800000 in
theorem open_any (own : Nat → Lb) (sb : Nat) (L : Lay) (S : Srv) (w : World) (h : SrvAt own w sb L S) (hn : S.reqs.length ≤ 12) :
    Calls Tryz.prog 35 #[.pointer (some ⟨sb, 0, none⟩)] w fun e w' => OpenGot own sb L S w e w' := by
  have c2 := h.blk.cell
  simp only [srvCells] at c2
  have H := Lib.hid h
  clear h
  go_enter Tryz.func35, Tryz.ntmps35
  go_wp2_with (at_range; refine wl_range H.out rfl _ rfl rfl ?_; intro hit0)
  have h0 := H.out.free (Ext.alloc (own := own) (w := w) (.mapIter (some L.mb) L.clock #[] L.clock) (fun _ => False) .loc) (fun _ f => f.elim)
  have x0 := Ext.alloc (own := own) (w := w) (.mapIter (some L.mb) L.clock #[] L.clock) Tloc .loc
  have hl0 : relab own w.heap.size .loc w.heap.size = .loc := relab_new _ (Nat.le_refl _)
  have hlt0 : w.heap.size < (w.alloc (.mapIter (some L.mb) L.clock #[] L.clock)).heap.size := by simp only [World.alloc, Array.size_push]; omega
  have hle0 : w.heap.size ≤ w.heap.size := Nat.le_refl _
  generalize hown0 : relab own w.heap.size .loc = own0 at h0 x0 hl0
  generalize hit : w.heap.size = it at h0 x0 hl0 hlt0 hit0 hle0 ⊢
  have H0 := Lib.hid h0
  have X0 := Lib.hid x0
  have HL0 := Lib.hid hl0
  have HI0 := Lib.hid hit0
  have HLT0 := Lib.hid hlt0
  have HIT := Lib.hid hit
  clear h0 x0 hl0 hit0 c2 hown0 hit hlt0 hle0
  go_frame
  go_loopg [3] ((S.reqs.map Req.id).length + 1) (fun gk s3 wx => ∃ own1 left zs, SrvAt own1 wx sb L S ∧ IterAt wx it L S left ∧ own1 it = .loc ∧ it < wx.heap.size ∧ LocL own1 wx it s3 zs.length (ptrs L zs) ∧ Gath S left zs ∧ Ext own w own1 wx Tloc ∧ gk = left.length + 1)
  case atStart => exact ⟨own0, S.reqs.map Req.id, [], H0.out, HI0.out, HL0.out, HLT0.out, ⟨Owns.nil _ _ _ _ _, by simp [Value.ownBlock], fun _ => rfl⟩, Gath.start S, X0.out, rfl⟩
  case round =>
    obtain ⟨own1, left, zs, h1, hi1, hl1, hlt1, hloc1, hg1, x1, rfl⟩ := hrel
    have H1 := Lib.hid h1
    have HI1 := Lib.hid hi1
    have HL1 := Lib.hid hl1
    have HLT1 := Lib.hid hlt1
    have HLOC1 := Lib.hid hloc1
    have HG1 := Lib.hid hg1
    have X1 := Lib.hid x1
    clear h1 hi1 hl1 hlt1 hloc1 hg1 x1
    go_wp2_with (at_next; refine wl_next H1.out HI1.out HL1.out rfl _ rfl rfl ?_ ?_)
    · intro hl
      subst hl
      have hop := HG1.out.done H.out.uniq
      have hzl : zs.length ≤ 12 := by have := HG1.out.2.2.1; simp at this; omega
      have HOP := Lib.hid hop
      clear hop
      rcases Nat.eq_zero_or_pos zs.length with hz | hz
      · have hz' : zs = [] := List.eq_nil_of_length_eq_zero hz
        subst hz'
        have hu3 : u3 = .slice none 0 0 := HLOC1.out.2.2 rfl
        subst hu3
        clear hz hzl
        go_wp2_with fail
        refine (sort_nil _).mono ?_
        rintro e w3 ⟨rfl, rfl⟩
        go_wp2
        go_ret
        exact ⟨[], _, own1, rfl, ⟨HOP.out, fun p q hp => by simp at hp⟩, H1.out, ⟨⟨none, 0, rfl, Nat.le_refl _, Nat.zero_le _, fun h => by simp [ptrs] at h⟩, fun h => by simp [ptrs] at h⟩, X1.out⟩
      · obtain ⟨g, c, rest, hv, hb, hg, hc1, hc2, -⟩ := HLOC1.out.1.blk hz
        subst hv
        have HB := Lib.hid hb
        have HG := Lib.hid hg
        clear hb hg
        go_wp2_with fail
        refine (sort_any own1 sb L S g c rest zs _ H1.out HG.out HB.out (fun q hq => ((HG1.out.2.1 q).1 hq).1) hzl).mono ?_
        rintro e w3 ⟨rfl, hw3⟩
        have HW3 := Lib.hid hw3
        have HC1 := Lib.hid hc1
        have HC2 := Lib.hid hc2
        have HGI := Lib.hid (HLOC1.out.2.1 g rfl)
        clear hw3 hc1 hc2
        go_wp2
        go_ret
        obtain ⟨own3, ys, h3, hg3, hb3, hp3, hu3, x3⟩ := HW3.out
        have x13 := X1.out.trans x3
        have x : Ext own w (relab own w.heap.size .other) w3 Tloc := ⟨x13.os, x13.tape, x13.output, x13.size, fun b hb => relab_old _ hb, x13.keep⟩
        have hyl : ys.length = zs.length := hp3.length_eq
        have hpl : (ptrs L ys).length = zs.length := by simp [ptrs, hyl]
        refine ⟨ys, .slice (some ⟨g, 0, none⟩) zs.length c, relab own w.heap.size .other, rfl, ⟨hp3.trans HOP.out, by rw [hyl]; exact hu3⟩, H.out.free x (fun _ t => .inr t), ⟨⟨_, c, by rw [hpl], by rw [hpl]; exact HC1.out, HC2.out, fun _ => ⟨g, 0, rfl, fun i hi => ?_⟩⟩, fun _ k hk => ?_⟩, x⟩
        · rw [Nat.zero_add, hb3.cell, List.getElem?_append_left hi, List.getElem?_eq_getElem hi]
        · have : g = k := by simpa [Value.ownBlock] using hk
          subst this
          exact relab_new _ (by have := HGI.out; have := HIT.out; omega)
    · intro id w2 hid hen h2 hi2 x2 hb2
      obtain ⟨r, hr, rfl⟩ := List.mem_map.1 (HG1.out.2.2.2 id hid)
      have hq := h2.req r hr
      have d1 := hq.blk.cell
      simp only [reqCells] at d1
      have HR := Lib.hid hr
      have HID := Lib.hid hid
      have H2 := Lib.hid h2
      have HI2 := Lib.hid hi2
      have X2 := Lib.hid x2
      have HB2 := Lib.hid hb2
      have hloc2 : Owns own1 .loc w2 73 1 u3 zs.length (ptrs L zs) := HLOC1.out.1.same (fun k hk => hb2 k (by have := HLOC1.out.2.1 k hk; omega)) (fun _ _ => rfl)
      have hitlt : it < w2.heap.size := Nat.lt_of_lt_of_le HLT1.out x2.size
      have HITLT := Lib.hid hitlt
      clear hq hr hid h2 hi2 x2 hb2
      obtain ⟨A, c, hv, -, -⟩ := hloc2.shape
      subst hv
      have HLOC2 := Lib.hid hloc2
      clear hloc2 hitlt
      by_cases he : r.ended = true
      · have HE := Lib.hid he
        go_wp2
        go_roundg ((left.filter fun j => !decide (j = r.id)).length + 1)
        case measure => have := filter_lt HID.out; omega
        case rel => exact ⟨own1, _, zs, H2.out, HI2.out, HL1.out, HITLT.out, ⟨HLOC2.out, HLOC1.out.2⟩, HG1.out.skip H.out.uniq HR.out HID.out HE.out, X1.out.trans X2.out, rfl⟩
      · have he' : r.ended = false := by simpa using he
        have HE := Lib.hid he'
        have HGN := Lib.hid (HG1.out.add H.out.uniq HR.out HID.out HE.out)
        have hgn := HGN.out.2.2.1
        simp only [List.length_append, List.length_cons, List.length_nil] at hgn
        obtain ⟨i0, hi, hz0, hz1, hz2⟩ := info_parts info73
        have hb1 : zs.length + 1 ≤ maxLen := by unfold maxLen; omega
        have hb2 : (zs.length + 1) * 8 ≤ 140737488355328 := by omega
        have howns : ∀ o d, ((w2.alloc o).drewN d).ownsRow 0 73 1 (.slice A zs.length c) zs.length (ptrs L zs) := fun o d => (HLOC2.out.ext (T := fun _ => False) ((Ext.alloc o (fun _ => False) .other).drewN d) (fun f => f)).1
        go_wp2_with (at_builtin; refine wpList_append_lies _ rfl _ _ 77 rfl 0 73 i0 (.pointer none) 1 8 Tryz.underlying77 hi hz0 hz1 hz2 rfl (by decide) _ _ _ rfl (howns _ 0) ⟨w2.heap.size, 0, none⟩ 1 1 [.pointer (some ⟨L.rb r.id, 0, none⟩)] rfl rfl (news1' _ _ _) (one_ptr _) Nat.one_pos hb1 hb2 (Nat.zero_le _) _ rfl ?_; intro g cap w3 hown3 hgrow hat hlt3)
        have xa := Ext.alloc (own := own1) (w := w2) (.cells #[.pointer (some ⟨L.rb r.id, 0, none⟩)] 73) (fun _ => False) .other
        have hat' : (Value.slice A zs.length c).ownBlock = some g ∨ g = (w2.alloc (.cells #[.pointer (some ⟨L.rb r.id, 0, none⟩)] 73)).heap.size := hat
        obtain ⟨xb, ho3⟩ := Owns.app (HLOC2.out.ext xa (fun f => f)) hown3 hgrow hat'
        have x3 := (xa.mono (T' := Tloc) (fun _ f => f.elim)).trans xb
        have hitd : it < g := by
          rcases hat' with e | e
          · exact HLOC1.out.2.1 g e
          · rw [e]; simp only [World.alloc, Array.size_push]; have := HITLT.out; omega
        have hith : w3.heap[it]? = w2.heap[it]? := by
          rw [hgrow.block it (Nat.lt_of_lt_of_le HITLT.out xa.size) (fun e => by have := HLOC1.out.2.1 it e.symm; omega)]
          exact xa.keep it HITLT.out (fun f => f)
        have hxs : ptrs L zs ++ [.pointer (some ⟨L.rb r.id, 0, none⟩)] = ptrs L (zs ++ [r]) := by simp [ptrs]
        rw [hxs] at ho3
        have hzl : zs.length + 1 = (zs ++ [r]).length := by simp
        rw [hzl] at ho3 ⊢
        go_roundg ((left.filter fun j => !decide (j = r.id)).length + 1)
        case measure => have := filter_lt HID.out; omega
        case rel => exact ⟨_, _, zs ++ [r], H2.out.free x3 (fun _ t => .inr t), HI2.out.keep hith rfl rfl rfl rfl, (x3.lab it HITLT.out).trans HL1.out, Nat.lt_of_lt_of_le HITLT.out x3.size, ⟨ho3, fun k hk => (show k = g from (Option.some.inj hk).symm) ▸ hitd, fun e => by simp at e⟩, HGN.out, (X1.out.trans X2.out).trans x3, rfl⟩
end Go.Proofs.YtllpoaoboieijaaGreat
/-
  Waiting.
-/
namespace Go.Proofs.YtllpoaoboieijaaGreat
open Go.RowKit

/-- What Waiting answers. -/
def WaitGot (own : Nat → Lb) (sb : Nat) (L : Lay) (S : Srv) (w : World) (e : Ending) (w' : World) : Prop :=
  ∃ ys v own', e = .returned v ∧ Opens S ys ∧ SrvAt own' w' sb L S ∧ RdO own' w' v (ints (ys.map Req.id)) ∧ Ext own w own' w' Tloc

/-- What can be read of a list of pointers. -/
theorem RdV.get {w : World} {v : Value} {xs : List Value} (h : RdV w v xs) {i : Nat} (hi : i < xs.length) : ∃ b o c, v = .slice (some ⟨b, o, none⟩) xs.length c ∧ w.cell? ⟨b, o + i, none⟩ = some xs[i] := by
  obtain ⟨A, c, hv, h1, h2, h3⟩ := h
  obtain ⟨b, o, hA, hc⟩ := h3 (by omega)
  exact ⟨b, o, c, by rw [hv, hA], hc i hi⟩

theorem open_any' (own : Nat → Lb) (sb : Nat) (L : Lay) (S : Srv) (w : World) (h : SrvAt own w sb L S) (hn : S.reqs.length ≤ 12) :
    Calls Tryz.prog 35 #[.pointer (some ⟨sb, 0, none⟩)] w fun e w' => ∃ (ys : List Req) (A : Option Addr) (c : Nat) (own' : Nat → Lb), e = .returned (.slice A ys.length c) ∧ Hid (Opens S ys ∧ SrvAt own' w' sb L S ∧ RdO own' w' (.slice A ys.length c) (ptrs L ys) ∧ Ext own w own' w' Tloc) := by
  refine (open_any own sb L S w h hn).mono ?_
  rintro e w1 ⟨ys, v, own1, rfl, hop, h1, hr1, x1⟩
  obtain ⟨A, c, hv, -⟩ := hr1.1
  rw [show (ptrs L ys).length = ys.length by simp [ptrs]] at hv
  subst hv
  exact ⟨ys, A, c, own1, rfl, Lib.hid ⟨hop, h1, hr1, x1⟩⟩

set_option maxRecDepth 100000 in
set_option maxHeartbeats 800000 in
theorem waiting_any (own : Nat → Lb) (sb : Nat) (L : Lay) (S : Srv) (w : World) (h : SrvAt own w sb L S) (hn : S.reqs.length ≤ 12) :
    Calls Tryz.prog 15 #[.pointer (some ⟨sb, 0, none⟩)] w fun e w' => WaitGot own sb L S w e w' := by
  have H := Lib.hid h
  clear h
  go_enter Tryz.func15, Tryz.ntmps15
  go_wp2_with (go_at_call 35; refine (open_any' own sb L S _ H.out hn).mono ?_; rintro e w1 ⟨ys, A, c, own1, rfl, HF⟩)
  have HOP := Lib.hid HF.out.1
  have H1 := Lib.hid HF.out.2.1
  have HR1 := Lib.hid HF.out.2.2.1
  have X1 := Lib.hid HF.out.2.2.2
  have hyl : ys.length ≤ 12 := by
    have := HOP.out.1.length_eq
    have h2 : (S.reqs.filter fun r => !r.ended).length ≤ S.reqs.length := List.length_filter_le _ _
    omega
  have HMEM := Lib.hid (fun r hr => (List.mem_filter.1 (HOP.out.1.mem_iff.1 hr)).1 : ∀ r, r ∈ ys → r ∈ S.reqs)
  have HPL := Lib.hid (by simp [ptrs] : (ptrs L ys).length = ys.length)
  clear HF
  go_loopg [3, 9] ys.length (fun gk s3 s9 wx => ∃ own2, ∃ i : Nat, s9 = .int .i64 i ∧ i ≤ ys.length ∧ SrvAt own2 wx sb L S ∧ Owns own2 .loc wx 3 1 s3 i (ints ((ys.take i).map Req.id)) ∧ (∀ k, s3.ownBlock = some k → w.heap.size ≤ k) ∧ Ext own1 w1 own2 wx Tloc ∧ gk = ys.length - i)
  case atStart => exact ⟨own1, 0, rfl, Nat.zero_le _, H1.out, Owns.nil _ _ _ _ _, fun k hk => by simp [Value.ownBlock] at hk, Ext.refl _ _ _, rfl⟩
  case round =>
    obtain ⟨own2, i, rfl, hil, h2, ho2, hk2, x2, rfl⟩ := hrel
    by_cases hlt : i < ys.length
    · have hq := h2.req ys[i] (HMEM.out _ (List.getElem_mem hlt))
      have d1 := hq.blk.cell
      simp only [reqCells] at d1
      obtain ⟨b, o, c', hv', hcell⟩ := (HR1.out.ext x2 (by intro e; cases e)).1.get (i := i) (by rw [HPL.out]; exact hlt)
      have hA : A = some ⟨b, o, none⟩ := by injection hv'
      subst hA
      have hcell2 : wr.cell? ⟨b, o + i, none⟩ = some (.pointer (some ⟨L.rb ys[i].id, 0, none⟩)) := by rw [hcell]; simp [ptrs]
      obtain ⟨A3, c3, hv3, -, -⟩ := ho2.shape
      subst hv3
      have H2 := Lib.hid h2
      have HO2 := Lib.hid ho2
      have HK2 := Lib.hid hk2
      have X2 := Lib.hid x2
      clear h2 ho2 hk2 x2 hq hv' hcell
      obtain ⟨i0, hi, hz0, hz1, hz2⟩ := info_parts info3
      have hb1 : i + 1 ≤ maxLen := by unfold maxLen; omega
      have hb2 : (i + 1) * 8 ≤ 140737488355328 := by omega
      have howns : ∀ o d, ((wr.alloc o).drewN d).ownsRow 0 3 1 (.slice A3 i c3) i (ints ((ys.take i).map Req.id)) := fun o d => (HO2.out.ext (T := fun _ => False) ((Ext.alloc o (fun _ => False) .other).drewN d) (fun f => f)).1
      go_wp2_with (at_builtin; refine wpList_append_lies _ rfl _ _ 22 rfl 0 3 i0 (.int .i64 0) 1 8 Tryz.underlying22 hi hz0 hz1 hz2 rfl (by decide) _ _ _ rfl (howns _ 0) ⟨wr.heap.size, 0, none⟩ 1 1 [.int .i64 ys[i].id] rfl rfl (news1' _ _ _) (one_int _ _) Nat.one_pos hb1 hb2 (Nat.zero_le _) _ rfl ?_; intro g cap w3 hown3 hgrow hat hlt3)
      have xa := Ext.alloc (own := own2) (w := wr) (.cells #[.int .i64 ys[i].id] 3) (fun _ => False) .other
      have hat' : (Value.slice A3 i c3).ownBlock = some g ∨ g = (wr.alloc (.cells #[.int .i64 ys[i].id] 3)).heap.size := hat
      obtain ⟨xb, ho3⟩ := Owns.app (HO2.out.ext xa (fun f => f)) hown3 hgrow hat'
      have x3 := (xa.mono (T' := Tloc) (fun _ f => f.elim)).trans xb
      have hgs : w.heap.size ≤ g := by
        rcases hat' with e | e
        · exact HK2.out g e
        · rw [e]
          exact Nat.le_trans X1.out.size (Nat.le_trans X2.out.size xa.size)
      have hxs : ints ((ys.take i).map Req.id) ++ [.int .i64 ys[i].id] = ints ((ys.take (i + 1)).map Req.id) := by
        rw [← List.take_append_getElem hlt]; simp only [ints, List.map_append, List.map_cons, List.map_nil]
      rw [hxs] at ho3
      have HO3 := Lib.hid ho3
      have X3 := Lib.hid x3
      have HGS := Lib.hid hgs
      clear ho3 x3 hgs xa xb hgrow hown3 hat hat' hxs
      go_wp2
      go_roundg (ys.length - (i + 1))
      case measure => omega
      case rel => exact ⟨_, i + 1, by go_num, by omega, H2.out.free X3.out (fun _ t => .inr t), HO3.out, fun k hk => (show k = g from (Option.some.inj hk).symm) ▸ HGS.out, X2.out.trans X3.out, rfl⟩
    · have hie : i = ys.length := by omega
      subst hie
      rw [List.take_length] at ho2
      have x12 := X1.out.trans x2
      have x : Ext own w (relab own w.heap.size .other) wr Tloc := ⟨x12.os, x12.tape, x12.output, x12.size, fun b hb => relab_old _ hb, x12.keep⟩
      have hres : RdO (relab own w.heap.size .other) wr u3 (ints (ys.map Req.id)) := ⟨Owns.rdv (by simpa [ints] using ho2), fun _ k hk => relab_new _ (hk2 k hk)⟩
      have h3 := H.out.free x (fun _ t => .inr t)
      have HRES := Lib.hid hres
      have H3 := Lib.hid h3
      have XX := Lib.hid x
      clear h2 ho2 hk2 x2 x12 x hres h3
      go_wp2
      go_ret
      exact ⟨ys, _, _, rfl, HOP.out, H3.out, HRES.out, XX.out⟩
end Go.Proofs.YtllpoaoboieijaaGreat
/-
  low: the low bytes of a number.
-/
namespace Go.Proofs.YtllpoaoboieijaaGreat
open Go.RowKit

def bys (l : List Int) : List Value := l.map (Value.int .u8)
theorem bys_length (l : List Int) : (bys l).length = l.length := by simp [bys]
def shr8 : Nat → Int → Int
  | 0, n => n
  | i + 1, n => shr8 i n / 256
/-- The k low bytes. -/
def lowL (n : Int) : Nat → List Int
  | 0 => []
  | k + 1 => lowL n k ++ [shr8 k n % 256]
theorem lowL_length (n : Int) (k : Nat) : (lowL n k).length = k := by
  induction k with
  | zero => rfl
  | succ k ih => simp [lowL, ih]
/-- A fresh list of bytes. -/
def NewBys (w w' : World) (e : Ending) (l : List Int) : Prop := ∃ v, e = .returned v ∧ Below w.heap.size w w' ∧ w'.ownsRow w.heap.size 5 1 v l.length (bys l)

theorem ownsRow_alloc {w : World} {base : Nat} {e : TypeId} {size : Nat} {v : Value} {n : Nat} {xs : List Value} (h : w.ownsRow base e size v n xs) (o : Obj) (d : Nat) : ((w.alloc o).drewN d).ownsRow base e size v n xs := by
  refine ⟨h.1, ?_⟩
  rcases h.2 with h | ⟨g, cap, cur, hv, h3, h4, h5, h6, h7, h8⟩
  · exact .inl h
  · refine .inr ⟨g, cap, cur, hv, h3, ?_, h5, h6, h7, h8⟩
    show (w.alloc o).heap[g]? = _
    rw [Below.heap_alloc _ _ _ (lt_of_heap h4)]; exact h4
theorem Below.ofGrown {B : Nat} {w w' : World} {row : Option Nat} (hg : w.grownBy w' row) (hB : B ≤ w.heap.size) (hr : ∀ k, row = some k → B ≤ k) : Below B w w' :=
  ⟨hg.os, hg.tape, hg.output, hg.size, fun b hb => hg.block b (by omega) (fun e => by have := hr b e.symm; omega)⟩
theorem ownsRow_base {w : World} {base : Nat} {e : TypeId} {size : Nat} {v : Value} {n : Nat} {xs : List Value} (h : w.ownsRow base e size v n xs) : ∀ k, v.ownBlock = some k → base ≤ k := by
  intro k hk
  rcases h.2 with ⟨hv, _⟩ | ⟨g, cap, cur, hv, h3, _⟩
  · rw [hv] at hk; simp [Value.ownBlock] at hk
  · rw [hv] at hk
    have : g = k := by simpa [Value.ownBlock] using hk
    omega

theorem alloc_le (w : World) (o : Obj) : w.heap.size ≤ (w.alloc o).heap.size := (Ext.alloc (own := fun _ => .other) (w := w) o (fun _ => False) .other).size

set_option maxRecDepth 100000 in
set_option maxHeartbeats 800000 in
theorem low_any (n : Int) (k : Nat) (hk : k ≤ 100) (w : World) : Calls Tryz.prog 57 #[.int .i64 n, .int .i64 k] w fun e w' => NewBys w w' e (lowL n k) := by
  go_enter Tryz.func57, Tryz.ntmps57
  go_wp2
  go_loopg [0, 5, 7] k (fun gk s0 s5 s7 wx => ∃ i : Nat, s7 = .int .i64 i ∧ i ≤ k ∧ s0 = .int .i64 (shr8 i n) ∧ Below w.heap.size w wx ∧ wx.ownsRow w.heap.size 5 1 s5 i (bys (lowL n i)) ∧ gk = k - i)
  case atStart => exact ⟨0, rfl, Nat.zero_le _, rfl, Below.refl _ _, World.ownsRow_nil _ _ _ _, rfl⟩
  case round =>
    obtain ⟨i, rfl, hik, rfl, hbel, ho, rfl⟩ := hrel
    have HB := Lib.hid hbel
    have HO := Lib.hid ho
    clear hbel ho
    by_cases hlt : i < k
    · obtain ⟨i0, hi, hz0, hz1, hz2⟩ := info_parts info5
      have hb1 : i + 1 ≤ maxLen := by unfold maxLen; omega
      have hb2 : (i + 1) * 1 ≤ 140737488355328 := by omega
      have hw8 : IntKind.u8.wrap (shr8 i n) = shr8 i n % 256 := rfl
      go_wp2_with (at_builtin; refine wpList_append_lies _ rfl _ _ 56 rfl w.heap.size 5 i0 (.int .u8 0) 1 1 Tryz.underlying56 hi hz0 hz1 hz2 rfl (by decide) _ i _ rfl (ownsRow_alloc HO.out _ 0) ⟨wr.heap.size, 0, none⟩ 1 1 [.int .u8 (shr8 i n % 256)] rfl rfl (news1' _ _ _) (one_int _ _) Nat.one_pos hb1 hb2 (Nat.le_trans HB.out.size (alloc_le _ _)) _ rfl ?_; intro g cap w3 hown3 hgrow hat hlt3)
      have hb3 : Below w.heap.size w w3 := (HB.out.alloc HB.out.size (.cells #[.int .u8 (shr8 i n % 256)] 5)).trans (Below.ofGrown hgrow (Nat.le_trans HB.out.size (alloc_le _ _)) (ownsRow_base HO.out))
      have hxs : bys (lowL n i) ++ [.int .u8 (shr8 i n % 256)] = bys (lowL n (i + 1)) := by simp [bys, lowL]
      rw [hxs] at hown3
      go_roundg (k - (i + 1))
      case measure => omega
      case rel => exact ⟨i + 1, by go_num, by omega, rfl, hb3, hown3, rfl⟩
    · have : i = k := by omega
      subst this
      go_wp2
      go_ret
      exact ⟨_, rfl, HB.out, by rw [lowL_length]; exact HO.out⟩
end Go.Proofs.YtllpoaoboieijaaGreat
/-
  Code: the check number of bytes.
-/
namespace Go.Proofs.YtllpoaoboieijaaGreat
open Go.RowKit

def crcBit (y : Int) : Int := if (bits BinOp.and IntKind.u32 y 1 == 1) = true then bits BinOp.xor IntKind.u32 (y / 2) 3988292384 else y / 2
def crcBits : Nat → Int → Int
  | 0, x => x
  | j + 1, x => crcBit (crcBits j x)
def crcTo (l : List Int) : Nat → Int
  | 0 => 4294967295
  | i + 1 => crcBits 8 (bits BinOp.xor IntKind.u32 (crcTo l i) (l.getD i 0 % 4294967296))
def crcOf (l : List Int) : Int := wrap64 (bits BinOp.xor IntKind.u32 IntKind.u32.max (crcTo l l.length))

set_option maxRecDepth 100000 in
set_option maxHeartbeats 800000 in
theorem code_any (l : List Int) (A : Option Addr) (c : Nat) (w : World) (h : RdV w (.slice A l.length c) (bys l)) : Calls Tryz.prog 49 #[.slice A l.length c] w fun e w' => e = .returned (.int .i64 (crcOf l)) ∧ w' = w := by
  have hlm : l.length ≤ maxLen := by
    obtain ⟨A', c', hv, h1, h2, -⟩ := h
    rw [bys_length] at h1
    omega
  unfold maxLen at hlm
  have HLM := Lib.hid hlm
  have H := Lib.hid h
  clear h hlm
  go_enter Tryz.func49, Tryz.ntmps49
  go_wp2
  go_loopg [3, 8] l.length (fun gk s3 s8 wx => ∃ i : Nat, s8 = .int .i64 i ∧ i ≤ l.length ∧ s3 = .int .u32 (crcTo l i) ∧ wx = w ∧ gk = l.length - i)
  case atStart => exact ⟨0, rfl, Nat.zero_le _, rfl, rfl, rfl⟩
  case round =>
    obtain ⟨i, rfl, hil, rfl, rfl, rfl⟩ := hrel
    by_cases hlt : i < l.length
    · obtain ⟨b, o, c', hv, hcell⟩ := H.out.get (i := i) (by rw [bys_length]; exact hlt)
      have hA : A = some ⟨b, o, none⟩ := by injection hv
      subst hA
      have hcell2 : wr.cell? ⟨b, o + i, none⟩ = some (.int .u8 (l.getD i 0)) := by rw [hcell]; simp [bys, List.getD, hlt]
      clear hv hcell
      generalize hli : l.getD i 0 = li at hcell2
      have HLI := Lib.hid hli
      clear hli
      go_wp2
      go_loopg [3, 16] 8 (fun gk s3 s16 wx => ∃ j : Nat, s16 = .int .i64 j ∧ j ≤ 8 ∧ s3 = .int .u32 (crcBits j (bits BinOp.xor IntKind.u32 (crcTo l i) (li % 4294967296))) ∧ wx = wr ∧ gk = 8 - j)
      case atStart => exact ⟨0, rfl, Nat.zero_le _, rfl, rfl, rfl⟩
      case round =>
        obtain ⟨j, rfl, hj, rfl, rfl, rfl⟩ := hrel
        by_cases hj8 : j < 8
        · have tj : ((j : Nat) : Int) < 8 := by omega
          generalize hy : crcBits j (bits BinOp.xor IntKind.u32 (crcTo l i) (li % 4294967296)) = y
          have hy1 : crcBits (j + 1) (bits BinOp.xor IntKind.u32 (crcTo l i) (li % 4294967296)) = crcBit y := by rw [← hy]; rfl
          have HY := Lib.hid hy1
          clear hy hy1
          by_cases hb : (bits BinOp.and IntKind.u32 y 1 == 1) = true
          · have hbit : crcBit y = bits BinOp.xor IntKind.u32 (y / 2) 3988292384 := by unfold crcBit; rw [if_pos hb]
            have HBIT := Lib.hid hbit
            clear hbit
            go_wp2
            go_roundg (8 - (j + 1))
            case measure => omega
            case rel => exact ⟨j + 1, by go_num, by omega, by rw [HY.out, HBIT.out], rfl, rfl⟩
          · have hbit : crcBit y = y / 2 := by unfold crcBit; rw [if_neg hb]
            have HBIT := Lib.hid hbit
            have hb' : (bits BinOp.and IntKind.u32 y 1 == 1) = false := by simpa using hb
            clear hbit hb
            go_wp2
            go_roundg (8 - (j + 1))
            case measure => omega
            case rel => exact ⟨j + 1, by go_num, by omega, by rw [HY.out, HBIT.out], rfl, rfl⟩
        · have : j = 8 := by omega
          subst this
          have hx : crcTo l (i + 1) = crcBits 8 (bits BinOp.xor IntKind.u32 (crcTo l i) (li % 4294967296)) := by rw [← HLI.out]; rfl
          have HX := Lib.hid hx
          clear hx
          go_wp2
          go_roundg (l.length - (i + 1))
          case measure => omega
          case rel => exact ⟨i + 1, by have := HLM.out; have e : wrap64 ((i : Int) + 1) = (i : Int) + 1 := (by unfold wrap64; omega); rw [e]; go_num, by omega, by rw [HX.out], rfl, rfl⟩
    · have hi : i = l.length := by omega
      subst hi
      go_wp2
      go_ret
      exact ⟨rfl, rfl⟩
end Go.Proofs.YtllpoaoboieijaaGreat
