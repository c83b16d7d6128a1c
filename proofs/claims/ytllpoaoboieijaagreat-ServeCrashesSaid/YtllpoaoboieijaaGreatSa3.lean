/-
  slices.Equal; a page with the entries of a request.
  shared.
  spare: a page that can be taken.
-/
import Derived.Test.YtllpoaoboieijaaGreatSa2
/-
  slices.Equal; a page with the entries of a request.
-/
namespace Go.Proofs.YtllpoaoboieijaaGreat
open Go.RowKit

theorem ret_bool {a b : Bool} (h : a = b) : Ending.returned (.bool a) = Ending.returned (.bool b) := by rw [h]
theorem ret_int {a b : Int} (h : a = b) : Ending.returned (.int .i64 a) = Ending.returned (.int .i64 b) := by rw [h]

set_option maxHeartbeats 400000 in
theorem equal_any (v1 v2 : Value) (xs ys : List Int) (w : World) (h1 : Rd w v1 xs) (h2 : Rd w v2 ys) :
    Calls Tryz.prog 19 #[v1, v2] w fun e w' => e = .returned (.bool (decide (xs = ys))) ∧ ∃ k, w' = w.drewN k := by
  obtain ⟨A, c, rfl, a1, a2, a3⟩ := h1
  obtain ⟨B, d, rfl, b1, b2, b3⟩ := h2
  unfold maxLen at a2 b2
  by_cases hl : xs.length = ys.length
  · have HL := Lib.hid hl
    have e1 : decide ((xs.length : Int) = ys.length) = true := by simp [hl]
    have e2 : ((xs.length : Int) != ys.length) = false := by simp [hl]
    clear hl
    go_enter Tryz.func19, Tryz.ntmps19
    go_wp2
    go_loopw [13] (fun i wr => ∃ j : Nat, i = .int .i64 j ∧ j ≤ xs.length ∧ Hid (xs.take j = ys.take j) ∧ ∃ k, wr = w.drewN k) (fun i _ => xs.length - (intOf i).toNat)
    case atStart => exact ⟨0, rfl, Nat.zero_le _, by simp [Hid], 0, rfl⟩
    case round =>
      obtain ⟨j, rfl, hj, hs, k, rfl⟩ := hrel
      by_cases hlt : j < xs.length
      · obtain ⟨b, o, rfl, hc⟩ := a3 (by omega)
        have hlt2 : j < ys.length := by rw [← HL.out]; exact hlt
        obtain ⟨b', o', rfl, hc'⟩ := b3 (by omega)
        have q1 := hc j hlt
        have q2 := hc' j hlt2
        by_cases he : xs[j] = ys[j]
        · have t1 : (xs[j] != ys[j]) = false := by simp [he]
          have HE := Lib.hid he
          clear he
          go_wp2
          go_quiet (fail)
          go_wp2
          go_roundw
          case rel =>
            refine ⟨j + 1, by go_num, by omega, ?_, _, rfl⟩
            show xs.take (j + 1) = ys.take (j + 1)
            rw [List.take_succ_eq_append_getElem hlt, List.take_succ_eq_append_getElem hlt2, hs.out, HE.out]
          case measure => simp [intOf]; omega
        · have t1 : (xs[j] != ys[j]) = true := by simp [he]
          have hne : decide (xs = ys) = false := by
            simp only [decide_eq_false_iff_not]
            intro e; apply he; subst e; rfl
          have HN := Lib.hid hne
          clear he hne
          go_wp2
          go_quiet (fail)
          go_wp2
          go_ret
          exact ⟨ret_bool HN.out.symm, _, World.drewN_drewN _ _ _⟩
      · have hne : decide (xs = ys) = true := by
          have := hs.out
          rw [List.take_of_length_le (by omega), List.take_of_length_le (by have := HL.out; omega)] at this
          simp [this]
        have HN := Lib.hid hne
        clear hne
        go_wp2
        go_ret
        exact ⟨ret_bool HN.out.symm, _, rfl⟩
  · have e2 : ((xs.length : Int) != ys.length) = true := by simp; omega
    have hne : decide (xs = ys) = false := by
      simp only [decide_eq_false_iff_not]
      intro e; apply hl; rw [e]
    have HN := Lib.hid hne
    clear hl hne
    go_enter Tryz.func19, Tryz.ntmps19
    go_wp2
    go_ret
    exact ⟨ret_bool HN.out.symm, 0, rfl⟩

theorem below_drewN {B : Nat} {w w' : World} (h : Below B w w') (n : Nat) : Below B w (w'.drewN n) := ⟨h.os, h.tape, h.output, h.size, h.block⟩

set_option maxHeartbeats 400000 in
theorem sharedF_any (rb B1 B2 : Nat) (start owners used entries : Int) (tv wv : Value) (toks want : List Int) (w : World)
    (hr : w.cell? ⟨rb, 8, none⟩ = some (.int .i64 entries)) (h1 : w.cell? ⟨B1, 0, none⟩ = some (.pointer (some ⟨rb, 0, none⟩))) (h2 : w.cell? ⟨B2, 0, none⟩ = some wv)
    (ht : Rd w tv toks) (hw : Rd w wv want) :
    Calls Tryz.prog 92 #[.agg #[.int .i64 start, tv, .int .i64 owners, .int .i64 used], .pointer (some ⟨B1, 0, none⟩), .pointer (some ⟨B2, 0, none⟩)] w fun e w' =>
      e = .returned (.bool (decide (start = entries) && decide (toks = want))) ∧ Below w.heap.size w w' := by
  have l1 := World.block_lt_of_cell? w _ hr
  have l2 := World.block_lt_of_cell? w _ h1
  have l3 := World.block_lt_of_cell? w _ h2
  simp only at l1 l2 l3
  obtain ⟨A, c, rfl, a1, a2, a3⟩ := id ht
  obtain ⟨B, d, rfl, b1, b2, b3⟩ := id hw
  clear a1 a2 a3 b1 b2 b3
  have bel : ∀ o, Below w.heap.size w (w.alloc o) := fun o => (Below.refl _ _).alloc (Nat.le_refl _) o
  by_cases e1 : (start == entries) = true
  · go_enter Tryz.func92, Tryz.ntmps92
    go_wp2
    go_quiet ((go_at_call 19; exact Calls.quiet_of (equal_any _ _ toks want _ ((ht.below (bel _)).drewN _) ((hw.below (bel _)).drewN _))))
    go_wp2
    go_ret
    have e2 : start = entries := by simpa using e1
    exact ⟨ret_bool (by simp [e2]), below_drewN (bel _) _⟩
  · go_enter Tryz.func92, Tryz.ntmps92
    go_wp2
    go_quiet (fail)
    go_wp2
    go_ret
    have e2 : ¬ start = entries := by simpa using e1
    exact ⟨ret_bool (by simp [e2]), below_drewN (bel _) _⟩

def idxPg (f : Pg → Bool) (ps : List Pg) : Int := match ps.findIdx? f with | some k => k | none => -1
theorem idxPg_at {f : Pg → Bool} {ps : List Pg} {j : Nat} {p : Pg} (hp : ps[j]? = some p) (hf : f p = true) (hb : ∀ i q, i < j → ps[i]? = some q → f q = false) : idxPg f ps = j := by
  have : ps.findIdx? f = some j := by
    rw [List.findIdx?_eq_some_iff_getElem]
    have hj : j < ps.length := by
      rcases Nat.lt_or_ge j ps.length with h1 | h1
      · exact h1
      · simp [List.getElem?_eq_none h1] at hp
    have hg : ps[j] = p := by rw [List.getElem?_eq_getElem hj] at hp; exact Option.some.inj hp
    refine ⟨hj, by rw [hg]; exact hf, fun i hi => ?_⟩
    have := hb i ps[i] hi (by simp)
    simp [this]
  simp [idxPg, this]
theorem idxPg_none {f : Pg → Bool} {ps : List Pg} (hb : ∀ (i : Nat) q, ps[i]? = some q → f q = false) : idxPg f ps = -1 := by
  have : ps.findIdx? f = none := by
    rw [List.findIdx?_eq_none_iff]
    intro x hx
    obtain ⟨i, hi, rfl⟩ := List.getElem_of_mem hx
    exact hb i _ (by simp)
  simp [idxPg, this]
theorem SrvAt.page_below {own : Nat → Lb} {w W : World} {sb : Nat} {L : Lay} {S : Srv} (h : SrvAt own w sb L S) (hb : Below w.heap.size w W) {k : Nat} {p : Pg} (hk : S.pages[k]? = some p) (i : Nat) (hi : i < 4) :
    W.cell? ⟨L.pb, k * 4 + i, none⟩ = (pgCells p (L.pt k))[i]? := by
  rw [hb.cell (p := ⟨L.pb, k * 4 + i, none⟩) h.pgs.lt]; exact h.page hk i hi

def sharedP (e : Int) (want : List Int) (p : Pg) : Bool := decide (p.start = e) && decide (p.toks = want)

set_option maxHeartbeats 400000 in
theorem idxShared_any (own : Nat → Lb) (sb : Nat) (L : Lay) (S : Srv) (w : World) (h : SrvAt own w sb L S) (rb B1 B2 : Nat) (entries : Int) (wv : Value) (want : List Int) (hn : S.pages.length ≤ 64)
    (hr : w.cell? ⟨rb, 8, none⟩ = some (.int .i64 entries)) (h1 : w.cell? ⟨B1, 0, none⟩ = some (.pointer (some ⟨rb, 0, none⟩))) (h2 : w.cell? ⟨B2, 0, none⟩ = some wv) (hw : Rd w wv want) :
    Calls Tryz.prog 91 #[.slice (some ⟨L.pb, 0, none⟩) S.pages.length S.pages.length, .func (.func 92) #[] #[.pointer (some ⟨B1, 0, none⟩), .pointer (some ⟨B2, 0, none⟩)]] w fun e w' =>
      e = .returned (.int .i64 (idxPg (sharedP entries want) S.pages)) ∧ Below w.heap.size w w' := by
  have l1 := World.block_lt_of_cell? w _ hr
  have l2 := World.block_lt_of_cell? w _ h1
  have l3 := World.block_lt_of_cell? w _ h2
  simp only at l1 l2 l3
  go_enter Tryz.func91, Tryz.ntmps91
  go_wp2
  go_loopw [8] (fun i wr => ∃ j : Nat, i = .int .i64 j ∧ j ≤ S.pages.length ∧ Hid (∀ i q, i < j → S.pages[i]? = some q → sharedP entries want q = false) ∧ Below w.heap.size w wr) (fun i _ => S.pages.length - (intOf i).toNat)
  case atStart => exact ⟨0, rfl, Nat.zero_le _, fun i q hi => absurd hi (by omega), Below.refl _ _⟩
  case round =>
    obtain ⟨j, rfl, hj, hs, hb⟩ := hrel
    by_cases hlt : j < S.pages.length
    · obtain ⟨p, hp⟩ : ∃ p, S.pages[j]? = some p := ⟨_, List.getElem?_eq_getElem hlt⟩
      have q0 := h.page_below hb hp 0 (by omega)
      have q1 := h.page_below hb hp 1 (by omega)
      have q2 := h.page_below hb hp 2 (by omega)
      have q3 := h.page_below hb hp 3 (by omega)
      simp [pgCells] at q0 q1 q2 q3
      have c0 := sharedF_any rb B1 B2 p.start p.owners p.used entries (L.pt j) wv p.toks want wr ((hb.cell (p := ⟨rb, 8, none⟩) l1).trans hr) ((hb.cell (p := ⟨B1, 0, none⟩) l2).trans h1) ((hb.cell (p := ⟨B2, 0, none⟩) l3).trans h2)
        ((h.ptok j p hp).rd.below hb) (hw.below hb)
      have C0 := Lib.hid c0
      clear hr h1 h2 c0
      go_wp2_with fail
      refine C0.out.mono ?_
      rintro e w1 ⟨rfl, hb1⟩
      by_cases ht : sharedP entries want p = true
      · have HT : (decide (p.start = entries) && decide (p.toks = want)) = true := ht
        rw [HT]
        have HI := Lib.hid (idxPg_at hp ht hs.out)
        clear ht HT
        go_wp2
        go_ret
        exact ⟨ret_int HI.out.symm, hb.trans (hb1.mono hb.size)⟩
      · have HT : (decide (p.start = entries) && decide (p.toks = want)) = false := by simpa [sharedP] using ht
        rw [HT]
        have HF := Lib.hid (show sharedP entries want p = false by simpa using ht)
        clear ht HT
        go_wp2
        go_roundw
        case rel =>
          refine ⟨j + 1, by go_num, by omega, ?_, hb.trans (hb1.mono hb.size)⟩
          intro i q hi hq
          rcases Nat.lt_or_ge i j with hlt' | hge
          · exact hs.out i q hlt' hq
          · obtain rfl : i = j := by omega
            rw [hp] at hq; cases hq; exact HF.out
        case measure => simp [intOf]; omega
    · have HI := Lib.hid (idxPg_none (f := sharedP entries want) (ps := S.pages) (fun i q hq => hs.out i q (by
        have : i < S.pages.length := by
          rcases Nat.lt_or_ge i S.pages.length with h1 | h1
          · exact h1
          · simp [List.getElem?_eq_none h1] at hq
        omega) hq))
      clear hr h1 h2
      go_wp2
      go_ret
      exact ⟨ret_int HI.out.symm, hb⟩

end Go.Proofs.YtllpoaoboieijaaGreat
/-
  shared.
-/
namespace Go.Proofs.YtllpoaoboieijaaGreat
open Go.RowKit

theorem ret_ib {x : Int × Bool} {a : Int} {b : Bool} (h : x = (a, b)) : Ending.returned (.tuple #[.int .i64 a, .bool b]) = .returned (.tuple #[.int .i64 x.1, .bool x.2]) := by rw [h]
/-- 'shared': the page with the entries of a request from those that it has on. -/
def Srv.shared (S : Srv) (r : Req) : Int × Bool :=
  if r.entries % S.pageSize ≠ 0 ∨ (r.tokens.length : Int) < r.entries + S.pageSize then (0, false)
  else
    let k := idxPg (sharedP r.entries ((r.tokens.drop r.entries.toNat).take S.pageSize.toNat)) S.pages
    (k, decide (0 ≤ k))

theorem Rd.sub {w : World} {A : Option Addr} {c : Nat} {xs : List Int} {b o : Nat} (_hA : A = some ⟨b, o, none⟩) (hc : xs.length ≤ c) (hm : c ≤ maxLen) (hr : ∀ i (h : i < xs.length), w.cell? ⟨b, o + i, none⟩ = some (.int .i64 xs[i])) {lo n : Nat} (h : lo + n ≤ xs.length) :
    Rd w (.slice (some ⟨b, o + lo, none⟩) n (c - lo)) ((xs.drop lo).take n) := by
  have hl : ((xs.drop lo).take n).length = n := by simp; omega
  refine ⟨some ⟨b, o + lo, none⟩, c - lo, by rw [hl], by rw [hl]; omega, by omega, fun _ => ⟨b, o + lo, rfl, fun i hi => ?_⟩⟩
  rw [hl] at hi
  rw [show o + lo + i = o + (lo + i) by omega, hr (lo + i) (by omega)]
  simp

/-- The call of the search, behind the boxes of what the closure captures. -/
theorem shared_call (own : Nat → Lb) (sb : Nat) (L : Lay) (S : Srv) (r : Req) (w : World) (h : SrvAt own w sb L S) (hr : r ∈ S.reqs) (hn : S.pages.length ≤ 64) {g c en ps : Nat} (hen : r.entries = en)
    (hv : L.rt r.id = .slice (some ⟨g, 0, none⟩) r.tokens.length c) (hl : en + ps ≤ r.tokens.length) (nq : Nat) :
    Calls Tryz.prog 91 #[.slice (some ⟨L.pb, 0, none⟩) S.pages.length S.pages.length, .func (.func 92) #[] #[.pointer (some ⟨w.heap.size, 0, none⟩), .pointer (some ⟨w.heap.size + 1, 0, none⟩)]]
      (((w.alloc (Obj.cells #[Value.pointer (some { block := L.rb r.id, off := 0 })] 73)).drewN nq).alloc (Obj.cells #[Value.slice (some { block := g, off := en }) ps (c - en)] 22)) fun e w' =>
      e = .returned (.int .i64 (idxPg (sharedP r.entries ((r.tokens.drop en).take ps)) S.pages)) ∧ Below w.heap.size w w' := by
  generalize hW : (((w.alloc (Obj.cells #[Value.pointer (some { block := L.rb r.id, off := 0 })] 73)).drewN nq).alloc (Obj.cells #[Value.slice (some { block := g, off := en }) ps (c - en)] 22)) = W
  have b1 : Below w.heap.size w ((w.alloc (Obj.cells #[Value.pointer (some { block := L.rb r.id, off := 0 })] 73)).drewN nq) := below_drewN ((Below.refl _ _).alloc (Nat.le_refl _) _) nq
  have b2 : Below w.heap.size w W := by rw [← hW]; exact b1.alloc (by show _ ≤ (w.heap.push _).size; simp) _
  have hq := h.req r hr
  have hrd := hq.tok.rd
  rw [hv] at hrd
  have hc : r.tokens.length ≤ c ∧ c ≤ maxLen := by
    obtain ⟨A, c', e, h1, h2, _⟩ := hrd
    cases e; exact ⟨h1, h2⟩
  have hsub : Rd w (.slice (some ⟨g, en, none⟩) ps (c - en)) ((r.tokens.drop en).take ps) := by
    by_cases h0 : 0 < r.tokens.length
    · obtain ⟨A, c', e, h1, h2, h3⟩ := hrd
      cases e
      obtain ⟨b, o, e, hr⟩ := h3 h0
      cases e
      have := Rd.sub (lo := en) (n := ps) rfl h1 h2 hr hl
      simpa using this
    · have e1 : r.tokens.length = 0 := by omega
      have e2 : en = 0 := by omega
      have e3 : ps = 0 := by omega
      subst e2 e3
      exact ⟨some ⟨g, 0, none⟩, c, by simp, by simp, by simpa using hc.2, fun h => absurd h (by simp)⟩
  refine (idxShared_any _ sb L S W (h.below b2) (L.rb r.id) w.heap.size (w.heap.size + 1) r.entries (.slice (some ⟨g, en, none⟩) ps (c - en)) _ hn ?_ ?_ ?_ (hsub.below b2)).mono ?_
  · rw [b2.cell (p := ⟨L.rb r.id, 8, none⟩) hq.blk.lt, hq.blk.cell]; rfl
  · rw [← hW]; simp [go_sem]
  · rw [← hW]; simp [go_sem]
  · rintro e w' ⟨he, hb⟩
    exact ⟨he, b2.trans (hb.mono b2.size)⟩

set_option maxRecDepth 100000 in
set_option maxHeartbeats 400000 in
theorem shared_any (own : Nat → Lb) (sb : Nat) (L : Lay) (S : Srv) (r : Req) (w : World) (h : SrvAt own w sb L S) (hr : r ∈ S.reqs) (hn : S.pages.length ≤ 64)
    (he0 : 0 ≤ r.entries) (he1 : r.entries ≤ 4096) (hp0 : 1 ≤ S.pageSize) (hp1 : S.pageSize ≤ 8) :
    Calls Tryz.prog 70 #[.pointer (some ⟨sb, 0, none⟩), .pointer (some ⟨L.rb r.id, 0, none⟩)] w fun e w' =>
      e = .returned (.tuple #[.int .i64 (S.shared r).1, .bool (S.shared r).2]) ∧ Below w.heap.size w w' := by
  have c2 := h.blk.cell
  have hq := h.req r hr
  have c1 := hq.blk.cell
  have l1 := hq.blk.lt
  have l2 := h.blk.lt
  simp only [srvCells] at c2
  simp only [reqCells] at c1
  obtain ⟨A, c, hv, hcap, hA⟩ := hq.tok.shape
  rw [hv] at c1
  have HV := Lib.hid hv
  clear hv
  have bel : ∀ o, Below w.heap.size w (w.alloc o) := fun o => (Below.refl _ _).alloc (Nat.le_refl _) o
  by_cases t1 : (r.entries % S.pageSize != 0) = true
  · have HE := Lib.hid (show S.shared r = (0, false) by unfold Srv.shared; rw [if_pos (.inl (by simpa using t1))])
    go_enter Tryz.func70, Tryz.ntmps70
    go_wp2
    go_quiet (fail)
    go_wp2
    go_ret2
    exact ⟨ret_ib HE.out, below_drewN (bel _) _⟩
  · obtain ⟨en, hen⟩ : ∃ en : Nat, r.entries = (en : Int) := ⟨r.entries.toNat, by omega⟩
    obtain ⟨ps, hps⟩ : ∃ ps : Nat, S.pageSize = (ps : Int) := ⟨S.pageSize.toNat, by omega⟩
    have HEN := Lib.hid hen
    have HPS := Lib.hid hps
    rw [hen] at c1 he0 he1 t1
    rw [hps] at c2 hp0 hp1 t1
    have t1' : ((en : Int) % (ps : Int) != 0) = false := by simpa using t1
    by_cases t2 : decide ((r.tokens.length : Int) < en + ps) = true
    · have HE := Lib.hid (show S.shared r = (0, false) by unfold Srv.shared; rw [if_pos (.inr (by rw [hen, hps]; simpa using t2))])
      clear hen hps t1
      go_enter Tryz.func70, Tryz.ntmps70
      go_wp2
      go_quiet (fail)
      go_wp2
      go_ret2
      exact ⟨ret_ib HE.out, below_drewN (bel _) _⟩
    · have HE := Lib.hid (show S.shared r = (idxPg (sharedP r.entries ((r.tokens.drop en).take ps)) S.pages, decide (0 ≤ idxPg (sharedP r.entries ((r.tokens.drop en).take ps)) S.pages)) by
        unfold Srv.shared; rw [if_neg (by rw [hen, hps]; simp at t1 t2 ⊢; exact ⟨t1, t2⟩)]; simp [hen, hps])
      have t2' : decide ((r.tokens.length : Int) < en + ps) = false := by simpa using t2
      have t3 : en + ps ≤ r.tokens.length := by simp at t2; omega
      obtain ⟨g, rfl⟩ := hA.resolve_left (by omega)
      have H0 := Lib.hid (shared_call own sb L S r w h hr hn hen HV.out t3)
      clear hen hps t1 t2
      go_enter Tryz.func70, Tryz.ntmps70
      go_wp2
      go_quiet (fail)
      go_wp2
      go_region
      go_wp2_with fail
      refine (H0.out _).mono ?_
      rintro e w1 ⟨rfl, hb1⟩
      go_wp2
      go_ret2
      exact ⟨ret_ib HE.out, hb1⟩
end Go.Proofs.YtllpoaoboieijaaGreat
/-
  spare: a page that can be taken.
-/
namespace Go.Proofs.YtllpoaoboieijaaGreat
open Go.RowKit

def spareP (p : Pg) : Bool := decide (p.toks.length = 0) && decide (p.owners = 0)

set_option maxHeartbeats 400000 in
theorem spareF_any (start owners used : Int) (A : Option Addr) (n c : Nat) (w : World) :
    Calls Tryz.prog 125 #[.agg #[.int .i64 start, .slice A n c, .int .i64 owners, .int .i64 used]] w fun e w' =>
      e = .returned (.bool (decide (n = 0) && decide (owners = 0))) ∧ Below w.heap.size w w' := by
  have bel : ∀ o, Below w.heap.size w (w.alloc o) := fun o => (Below.refl _ _).alloc (Nat.le_refl _) o
  by_cases e1 : ((n : Int) == 0) = true
  · have e2 : n = 0 := by simpa using e1
    subst e2
    go_enter Tryz.func125, Tryz.ntmps125
    go_wp2
    go_ret
    exact ⟨ret_bool (by by_cases h : owners = 0 <;> simp [h]), bel _⟩
  · have e1' : ((n : Int) == 0) = false := by simpa using e1
    have e2 : ¬ n = 0 := by simpa using e1
    clear e1
    have HE := Lib.hid e2
    clear e2
    go_enter Tryz.func125, Tryz.ntmps125
    go_wp2
    go_ret
    exact ⟨ret_bool (by simp [HE.out]), bel _⟩

set_option maxHeartbeats 400000 in
theorem idxSpare_any (own : Nat → Lb) (sb : Nat) (L : Lay) (S : Srv) (w : World) (h : SrvAt own w sb L S) (hn : S.pages.length ≤ 64) :
    Calls Tryz.prog 91 #[.slice (some ⟨L.pb, 0, none⟩) S.pages.length S.pages.length, .func (.func 125) #[] #[]] w fun e w' =>
      e = .returned (.int .i64 (idxPg spareP S.pages)) ∧ Below w.heap.size w w' := by
  go_enter Tryz.func91, Tryz.ntmps91
  go_wp2
  go_loopw [8] (fun i wr => ∃ j : Nat, i = .int .i64 j ∧ j ≤ S.pages.length ∧ Hid (∀ i q, i < j → S.pages[i]? = some q → spareP q = false) ∧ Below w.heap.size w wr) (fun i _ => S.pages.length - (intOf i).toNat)
  case atStart => exact ⟨0, rfl, Nat.zero_le _, fun i q hi => absurd hi (by omega), Below.refl _ _⟩
  case round =>
    obtain ⟨j, rfl, hj, hs, hb⟩ := hrel
    by_cases hlt : j < S.pages.length
    · obtain ⟨p, hp⟩ : ∃ p, S.pages[j]? = some p := ⟨_, List.getElem?_eq_getElem hlt⟩
      have q0 := h.page_below hb hp 0 (by omega)
      have q1 := h.page_below hb hp 1 (by omega)
      have q2 := h.page_below hb hp 2 (by omega)
      have q3 := h.page_below hb hp 3 (by omega)
      obtain ⟨A, c, hv, _, _⟩ := (h.ptok j p hp).shape
      simp [pgCells] at q0 q1 q2 q3
      rw [hv] at q1
      clear hv
      have c0 := spareF_any p.start p.owners p.used A p.toks.length c wr
      have C0 := Lib.hid c0
      clear c0
      go_wp2_with fail
      refine C0.out.mono ?_
      rintro e w1 ⟨rfl, hb1⟩
      by_cases ht : spareP p = true
      · have HT : (decide (p.toks.length = 0) && decide (p.owners = 0)) = true := ht
        rw [HT]
        have HI := Lib.hid (idxPg_at hp ht hs.out)
        clear ht HT
        go_wp2
        go_ret
        exact ⟨ret_int HI.out.symm, hb.trans (hb1.mono hb.size)⟩
      · have HT : (decide (p.toks.length = 0) && decide (p.owners = 0)) = false := by
          have : spareP p = false := by simpa using ht
          exact this
        rw [HT]
        have HF := Lib.hid (show spareP p = false by simpa using ht)
        clear ht HT
        go_wp2
        go_roundw
        case rel =>
          refine ⟨j + 1, by go_num, by omega, ?_, hb.trans (hb1.mono hb.size)⟩
          intro i q hi hq
          rcases Nat.lt_or_ge i j with hlt' | hge
          · exact hs.out i q hlt' hq
          · obtain rfl : i = j := by omega
            rw [hp] at hq; cases hq; exact HF.out
        case measure => simp [intOf]; omega
    · have HI := Lib.hid (idxPg_none (f := spareP) (ps := S.pages) (fun i q hq => hs.out i q (by
        have : i < S.pages.length := by
          rcases Nat.lt_or_ge i S.pages.length with h1 | h1
          · exact h1
          · simp [List.getElem?_eq_none h1] at hq
        omega) hq))
      go_wp2
      go_ret
      exact ⟨ret_int HI.out.symm, hb⟩

def usedAt (ps : List Pg) (b : Int) : Int := match ps[b.toNat]? with | some p => p.used | none => 0
def bestTo (ps : List Pg) : Nat → Int
  | 0 => -1
  | j + 1 =>
    match ps[j]? with
    | some p => if p.owners = 0 ∧ (bestTo ps j < 0 ∨ p.used < usedAt ps (bestTo ps j)) then j else bestTo ps j
    | none => bestTo ps j
theorem bestTo_lt (ps : List Pg) : ∀ j, bestTo ps j = -1 ∨ (0 ≤ bestTo ps j ∧ bestTo ps j < j ∧ bestTo ps j < ps.length)
  | 0 => .inl rfl
  | j + 1 => by
    have ih := bestTo_lt ps j
    unfold bestTo
    split
    · rename_i p hp
      have hj : j < ps.length := by
        rcases Nat.lt_or_ge j ps.length with h1 | h1
        · exact h1
        · simp [List.getElem?_eq_none h1] at hp
      split
      · exact .inr ⟨by omega, by omega, by omega⟩
      · rcases ih with h | ⟨h1, h2, h3⟩
        · exact .inl h
        · exact .inr ⟨h1, by omega, h3⟩
    · rcases ih with h | ⟨h1, h2, h3⟩
      · exact .inl h
      · exact .inr ⟨h1, by omega, h3⟩
def Srv.spare (S : Srv) : Int × Bool :=
  let k := idxPg spareP S.pages
  if 0 ≤ k then (k, true) else (bestTo S.pages S.pages.length, decide (0 ≤ bestTo S.pages S.pages.length))
end Go.Proofs.YtllpoaoboieijaaGreat
