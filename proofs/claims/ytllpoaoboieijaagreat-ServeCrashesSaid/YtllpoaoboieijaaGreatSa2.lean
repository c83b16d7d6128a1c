/-
  Draw: a number that is drawn; the model that Demo makes.
  giveBack.
  end, told, full, Now, Sync.
-/
import Derived.Test.YtllpoaoboieijaaGreatSa1
/-
  Draw: a number that is drawn; the model that Demo makes.
-/
namespace Go.Proofs.YtllpoaoboieijaaGreat
open Go.RowKit

def u64 (x : Int) : Int := IntKind.u64.wrap x
def xshr (z n : Int) : Int := bits BinOp.xor IntKind.u64 z (z / n)
def mix0 (seed k : Int) : Int := u64 (u64 seed + u64 (u64 (u64 k + 1) * 11400714819323198485))
def mix1 (z : Int) : Int := u64 (xshr z 1073741824 * 13787848793156543929)
def mix2 (z : Int) : Int := u64 (xshr z 134217728 * 10723151780598845931)
def drawI (seed k : Int) : Int := wrap64 (xshr (mix2 (mix1 (mix0 seed k))) 2147483648 / 4294967296)

set_option maxRecDepth 100000 in
set_option maxHeartbeats 800000 in
theorem draw_any (seed k : Int) (w : World) : Calls Tryz.prog 46 #[.int .i64 seed, .int .i64 k] w fun e w' => e = .returned (.int .i64 (drawI seed k)) ∧ w' = w := by
  go_enter Tryz.func46, Tryz.ntmps46
  go_wp2
  go_ret
  exact ⟨rfl, rfl⟩
theorem u64_in (x : Int) : 0 ≤ IntKind.u64.wrap x ∧ IntKind.u64.wrap x < 18446744073709551616 := by
  have : IntKind.u64.wrap x = x % 18446744073709551616 := by simp [IntKind.wrap, IntKind.signed, IntKind.bits]
  omega
theorem drawI_in (seed k : Int) : 0 ≤ drawI seed k ∧ drawI seed k < 4294967296 := by
  unfold drawI
  generalize mix2 (mix1 (mix0 seed k)) = z
  have : 0 ≤ xshr z 2147483648 ∧ xshr z 2147483648 < 18446744073709551616 := by
    unfold xshr bits
    exact u64_in _
  unfold wrap64
  omega

/-- n numbers of a model, from draw number k on. -/
def matL (k n : Nat) : List Int := (List.range n).map fun i => (drawI 1 ((k + i : Nat) : Int)).tmod 17 - 8
theorem matL_len (k n : Nat) : (matL k n).length = n := by simp [matL]
theorem matL_in (k n : Nat) : ∀ x, x ∈ matL k n → -8 ≤ x ∧ x ≤ 8 := by
  intro x hx
  simp only [matL, List.mem_map] at hx
  obtain ⟨i, -, rfl⟩ := hx
  have := drawI_in 1 ((k + i : Nat) : Int)
  rw [Int.tmod_eq_emod_of_nonneg this.1]
  omega
/-- The model that Demo makes. -/
def demoM : Mdl := ⟨1, 8, 4, 8, [4, 6, 8, 3], matL 0 32, matL 32 16, matL 48 48, matL 96 32, [64, 32, 16, 8, 4, 2, 1], [32, 16, 8, 4, 2, 1]⟩
end Go.Proofs.YtllpoaoboieijaaGreat
/-
  giveBack.
-/
namespace Go.Proofs.YtllpoaoboieijaaGreat
open Go.RowKit

def Pg.release (ps : Int) (p : Pg) : Pg := if wrap64 (p.owners - 1) = 0 ∧ (p.toks.length : Int) < ps then Pg.zero else { p with owners := wrap64 (p.owners - 1) }
def relAll (size : Int) (ps : List Pg) (ks : List Int) : List Pg := ks.foldl (fun ps k => ps.modify k.toNat (Pg.release size)) ps
theorem relAll_length (size : Int) (ks : List Int) : ∀ ps : List Pg, (relAll size ps ks).length = ps.length := by
  induction ks with
  | nil => intro ps; rfl
  | cons k ks ih => intro ps; show (relAll size (ps.modify k.toNat (Pg.release size)) ks).length = _; rw [ih]; simp
theorem relAll_snoc (size : Int) (ks : List Int) (k : Int) (ps : List Pg) : relAll size ps (ks ++ [k]) = (relAll size ps ks).modify k.toNat (Pg.release size) := by
  simp [relAll, List.foldl_append]
def Srv.giveBack (S : Srv) (r : Req) : Srv := ({ S with pages := relAll S.pageSize S.pages r.holds } : Srv).put { r with holds := [], entries := 0 }

/-- The call leaves a server S', at the same place; of the old blocks only those of the owners T were written. -/
def Goes (own : Nat → Lb) (sb : Nat) (L : Lay) (T : Lb → Prop) (S' : Srv) (w w' : World) : Prop :=
  ∃ own' L', SrvAt own' w' sb L' S' ∧ L'.rb = L.rb ∧ Ext own w own' w' T

def Tpg : Lb → Prop := fun l => l = .pgs
def Tgb (i : Int) : Lb → Prop := fun l => l = .pgs ∨ l = .req i

/-- One page is written. -/
theorem SrvAt.page_set {own : Nat → Lb} {w w' : World} {sb : Nat} {L : Lay} {S : Srv} (h : SrvAt own w sb L S) (x : Ext own w own w' Tpg) {k : Nat} {p : Pg} (hp : S.pages[k]? = some p) (p' : Pg) (v' : Value)
    {l : List Value} (hb : Blk w' L.pb l 106) (hl : l.length = (pgsCells S.pages L.pt).length) (hsame : ∀ j, j < k * 4 ∨ k * 4 + 4 ≤ j → l[j]? = (pgsCells S.pages L.pt)[j]?)
    (h0 : l[k * 4]? = some (.int .i64 p'.start)) (h1 : l[k * 4 + 1]? = some v') (h2 : l[k * 4 + 2]? = some (.int .i64 p'.owners)) (h3 : l[k * 4 + 3]? = some (.int .i64 p'.used))
    (ho : Owns own (.ptok k) w' 3 1 v' p'.toks.length (ints p'.toks)) :
    SrvAt own w' sb { L with pt := fun j => if j = k then v' else L.pt j } { S with pages := S.pages.set k p' } := by
  have hk : k < S.pages.length := by
    rcases Nat.lt_or_ge k S.pages.length with h1 | h1
    · exact h1
    · simp [List.getElem?_eq_none h1] at hp
  have hlen := pgsCells_length S.pages L.pt
  refine h.pages_upd x (by intro l e; exact .inl e) (by simp) ?_ ?_
  · have : l = pgsCells (S.pages.set k p') (fun j => if j = k then v' else L.pt j) := by
      refine pgsCells_ext (by simp [hl, hlen]) fun j q i hj hi => ?_
      have hjl : j < S.pages.length := by
        rcases Nat.lt_or_ge j S.pages.length with h1 | h1
        · exact h1
        · rw [List.getElem?_eq_none (by simpa using h1)] at hj; cases hj
      by_cases e : j = k
      · subst e
        rw [List.getElem?_set_self hk] at hj
        cases hj
        have : i = 0 ∨ i = 1 ∨ i = 2 ∨ i = 3 := by omega
        rcases this with rfl | rfl | rfl | rfl <;> simp [h0, h1, h2, h3, pgCells]
      · rw [List.getElem?_set_ne (fun e' => e e'.symm)] at hj
        rw [hsame _ (by omega), pgsCells_get _ _ _ _ hi, hj]
        simp [e]
    rw [← this]; exact hb
  · intro j q hj
    by_cases e : j = k
    · subst e
      rw [List.getElem?_set_self hk] at hj
      cases hj
      simpa using ho
    · rw [List.getElem?_set_ne (fun e' => e e'.symm)] at hj
      simp only [e, if_false]
      exact (h.ptok j q hj).ext x (by simp [Tpg])

theorem modify_set {ps : List Pg} {k : Nat} {p : Pg} (hp : ps[k]? = some p) (f : Pg → Pg) : ps.modify k f = ps.set k (f p) := by
  apply List.ext_getElem?
  intro j
  rw [List.getElem?_modify, List.getElem?_set]
  by_cases e : k = j
  · subst e
    have : k < ps.length := by
      rcases Nat.lt_or_ge k ps.length with h1 | h1
      · exact h1
      · simp [List.getElem?_eq_none h1] at hp
    have hg : ps[k] = p := by rw [List.getElem?_eq_getElem this] at hp; exact Option.some.inj hp
    simp [this, hg]
  · simp [e]

theorem pgs_len {S : Srv} {L : Lay} {k : Nat} {p : Pg} (hp : S.pages[k]? = some p) : k * 4 + 4 ≤ (pgsCells S.pages L.pt).length := by
  rw [pgsCells_length]
  have : k < S.pages.length := by
    rcases Nat.lt_or_ge k S.pages.length with h1 | h1
    · exact h1
    · simp [List.getElem?_eq_none h1] at hp
  omega
theorem gb_dec {own : Nat → Lb} {wr : World} {sb : Nat} {L : Lay} {S : Srv} (hs : SrvAt own wr sb L S) {k : Nat} {p : Pg} (hp : S.pages[k]? = some p) (o : Int) (nq : Nat) :
    Ext own wr own ((wr.setCell ⟨L.pb, k * 4 + 2, none⟩ (.int .i64 o)).drewN nq) Tpg ∧ ∃ pt, SrvAt own ((wr.setCell ⟨L.pb, k * 4 + 2, none⟩ (.int .i64 o)).drewN nq) sb { L with pt := pt } { S with pages := S.pages.set k { p with owners := o } } := by
  have x : Ext own wr own ((wr.setCell ⟨L.pb, k * 4 + 2, none⟩ (.int .i64 o)).drewN nq) Tpg := (Ext.setCell _ _ hs.plab).drewN nq
  have hlen := pgs_len (L := L) hp
  have g := fun i hi => pgsCells_get S.pages L.pt k i hi
  rw [hp] at g
  have g0 := g 0 (by omega); have g1 := g 1 (by omega); have g2 := g 2 (by omega); have g3 := g 3 (by omega)
  simp [pgCells] at g0 g1 g2 g3
  refine ⟨x, _, hs.page_set x hp { p with owners := o } (L.pt k) ((hs.pgs.set (k * 4 + 2) (.int .i64 o)).drewN nq) (by simp) (fun j hj => List.getElem?_set_ne (by omega)) ?_ ?_ ?_ ?_ ((hs.ptok k p hp).ext x (by simp [Tpg]))⟩
  · rw [List.getElem?_set_ne (by omega)]; exact g0
  · rw [List.getElem?_set_ne (by omega)]; exact g1
  · rw [List.getElem?_set_self (by omega)]
  · rw [List.getElem?_set_ne (by omega)]; exact g3
theorem gb_zero {own : Nat → Lb} {wr : World} {sb : Nat} {L : Lay} {S : Srv} (hs : SrvAt own wr sb L S) {k : Nat} {p : Pg} (hp : S.pages[k]? = some p) (o : Int) (nq : Nat) :
    let w' := ((((((wr.setCell ⟨L.pb, k * 4 + 2, none⟩ (.int .i64 o)).drewN nq).setCell ⟨L.pb, k * 4, none⟩ (.int .i64 0)).setCell ⟨L.pb, k * 4 + 1, none⟩ (.slice none 0 0)).setCell ⟨L.pb, k * 4 + 2, none⟩ (.int .i64 0)).setCell ⟨L.pb, k * 4 + 3, none⟩ (.int .i64 0))
    Ext own wr own w' Tpg ∧ ∃ pt, SrvAt own w' sb { L with pt := pt } { S with pages := S.pages.set k Pg.zero } := by
  intro w'
  have st : ∀ (w : World) (i : Nat) (v : Value), Ext own w own (w.setCell ⟨L.pb, i, none⟩ v) Tpg := fun w i v => Ext.setCell _ _ hs.plab
  have x : Ext own wr own w' Tpg := (((((st _ _ _).drewN nq).trans (st _ _ _)).trans (st _ _ _)).trans (st _ _ _)).trans (st _ _ _)
  have hlen := pgs_len (L := L) hp
  have hb : Blk w' L.pb (((((pgsCells S.pages L.pt).set (k * 4 + 2) (.int .i64 o)).set (k * 4) (.int .i64 0)).set (k * 4 + 1) (.slice none 0 0)).set (k * 4 + 2) (.int .i64 0) |>.set (k * 4 + 3) (.int .i64 0)) 106 :=
    (((((hs.pgs.set (k * 4 + 2) (.int .i64 o)).drewN nq).set (k * 4) _).set (k * 4 + 1) _).set (k * 4 + 2) _).set (k * 4 + 3) _
  refine ⟨x, _, hs.page_set x hp Pg.zero (.slice none 0 0) hb (by simp) (fun j hj => ?_) ?_ ?_ ?_ ?_ (Owns.nil _ _ _ _ _)⟩
  · rw [List.getElem?_set_ne (by omega), List.getElem?_set_ne (by omega), List.getElem?_set_ne (by omega), List.getElem?_set_ne (by omega), List.getElem?_set_ne (by omega)]
  · rw [List.getElem?_set_ne (by omega), List.getElem?_set_ne (by omega), List.getElem?_set_ne (by omega), List.getElem?_set_self (by simp; omega)]; rfl
  · rw [List.getElem?_set_ne (by omega), List.getElem?_set_ne (by omega), List.getElem?_set_self (by simp; omega)]
  · rw [List.getElem?_set_ne (by omega), List.getElem?_set_self (by simp; omega)]; rfl
  · rw [List.getElem?_set_self (by simp; omega)]; rfl

/-- A request's own cells are written. -/
theorem SrvAt.req_set {own : Nat → Lb} {w w' : World} {sb : Nat} {L : Lay} {S : Srv} (h : SrvAt own w sb L S) {r : Req} (hr : r ∈ S.reqs) (r' : Req) (hid : r'.id = r.id) (x : Ext own w own w' (fun l => l = .req r.id))
    (pv tv hv : Value) (hb : Blk w' (L.rb r.id) (reqCells r' pv tv hv) 75) (hp : Owns own (.prm r.id) w' 3 1 pv r'.prompt.length (ints r'.prompt)) (ht : Owns own (.tok r.id) w' 3 1 tv r'.tokens.length (ints r'.tokens))
    (hh : Owns own (.hold r.id) w' 3 1 hv r'.holds.length (ints r'.holds)) :
    SrvAt own w' sb { L with rp := updv L.rp r.id pv, rt := updv L.rt r.id tv, rh := updv L.rh r.id hv } (S.put r') := by
  rw [← hid] at x hb hp ht hh ⊢
  refine h.put_upd x r' (fun l e => .inl e) pv tv hv ⟨?_, ?_, ?_, ?_, ?_⟩
  · simpa [updv_same] using hb
  · show own (L.rb r'.id) = _
    rw [hid]; exact (h.req r hr).lab
  · simpa [updv_same] using hp
  · simpa [updv_same] using ht
  · simpa [updv_same] using hh

set_option maxHeartbeats 400000 in
theorem giveBack_any (own : Nat → Lb) (sb : Nat) (L : Lay) (S : Srv) (r : Req) (w : World) (h : SrvAt own w sb L S) (hr : r ∈ S.reqs)
    (hk : ∀ k, k ∈ r.holds → 0 ≤ k ∧ k < S.pages.length) (_hb : S.pages.length ≤ 64) (_hh : r.holds.length ≤ 4096) :
    Calls Tryz.prog 69 #[.pointer (some ⟨sb, 0, none⟩), .pointer (some ⟨L.rb r.id, 0, none⟩)] w fun e w' => e = .returned (.tuple #[]) ∧
      Goes own sb L (Tgb r.id) (S.giveBack r) w w' := by
  have hq := h.req r hr
  have c1 := hq.blk.cell
  have c2 := h.blk.cell
  simp only [reqCells] at c1
  simp only [srvCells] at c2
  obtain ⟨A, cap, hv, hcap, hA⟩ := hq.hold.shape
  rw [hv] at c1
  have HV := Lib.hid hv
  clear hv
  go_enter Tryz.func69, Tryz.ntmps69
  go_wp2
  clear c1 c2
  go_loopw [12] (fun i wr => ∃ j : Nat, i = .int .i64 j ∧ j ≤ r.holds.length ∧ ∃ pt, Ext own w own wr Tpg ∧ SrvAt own wr sb { L with pt := pt } { S with pages := relAll S.pageSize S.pages (r.holds.take j) })
    (fun i _ => r.holds.length - (intOf i).toNat)
  case atStart => exact ⟨0, rfl, Nat.zero_le _, L.pt, Ext.refl _ _ _, h⟩
  case round =>
    obtain ⟨j, rfl, hj, pt, hx, hs⟩ := hrel
    have c2 := hs.blk.cell
    simp only [srvCells] at c2
    by_cases hlt : j < r.holds.length
    · obtain ⟨g, rfl⟩ := hA.resolve_left (by omega)
      have hkj := hk r.holds[j] (by simp)
      have hcell := (hq.hold.ext hx (by simp [Tpg])).cell HV.out hlt
      obtain ⟨k, hkk⟩ : ∃ k : Nat, r.holds[j] = (k : Int) := ⟨r.holds[j].toNat, by omega⟩
      rw [hkk] at hcell hkj
      have HK := Lib.hid hkk
      clear hkk
      generalize hps : relAll S.pageSize S.pages (r.holds.take j) = ps at hs c2
      have hpl : k < ps.length := by rw [← hps, relAll_length]; omega
      have HP := Lib.hid hps
      clear hps
      obtain ⟨p, hp⟩ : ∃ p, ps[k]? = some p := ⟨_, List.getElem?_eq_getElem hpl⟩
      have q0 := hs.page hp 0 (by omega)
      have q1 := hs.page hp 1 (by omega)
      have q2 := hs.page hp 2 (by omega)
      have q3 := hs.page hp 3 (by omega)
      obtain ⟨PA, pc, hpt, hpc, _⟩ := (hs.ptok k p hp).shape
      simp only at hpt
      simp [pgCells] at q0 q1 q2 q3
      rw [hpt] at q1
      have HPT := Lib.hid hpt
      clear hpt
      have f2 := hs.pgs.frozen
      have hne : L.pb ≠ sb := fun e => by have := hs.plab; have h2 := hs.lab; rw [e] at this; rw [this] at h2; cases h2
      by_cases e1 : (wrap64 (p.owners - 1) == 0) = true
      · by_cases e2 : decide ((p.toks.length : Int) < S.pageSize) = true
        · go_wp2
          go_quiet (fail)
          go_wp2
          go_roundw
          case rel =>
            obtain ⟨x2, pt2, h2⟩ := gb_zero hs hp (wrap64 (p.owners - 1)) nq
            refine ⟨j + 1, by go_num, by omega, pt2, hx.trans x2, ?_⟩
            rw [List.take_succ_eq_append_getElem hlt, relAll_snoc, HP.out, HK.out, Int.toNat_natCast, modify_set hp, Pg.release, if_pos ⟨by simpa using e1, by simpa using e2⟩]
            exact h2
          case measure => simp [intOf]; omega
        · go_wp2
          go_quiet (fail)
          go_wp2
          go_roundw
          case rel =>
            obtain ⟨x2, pt2, h2⟩ := gb_dec hs hp (wrap64 (p.owners - 1)) nq
            refine ⟨j + 1, by go_num, by omega, pt2, hx.trans x2, ?_⟩
            rw [List.take_succ_eq_append_getElem hlt, relAll_snoc, HP.out, HK.out, Int.toNat_natCast, modify_set hp, Pg.release, if_neg (fun c => e2 (by simpa using c.2))]
            exact h2
          case measure => simp [intOf]; omega
      · go_wp2
        go_quiet (fail)
        go_wp2
        go_roundw
        case rel =>
          obtain ⟨x2, pt2, h2⟩ := gb_dec hs hp (wrap64 (p.owners - 1)) nq
          refine ⟨j + 1, by go_num, by omega, pt2, hx.trans x2, ?_⟩
          rw [List.take_succ_eq_append_getElem hlt, relAll_snoc, HP.out, HK.out, Int.toNat_natCast, modify_set hp, Pg.release, if_neg (fun c => e1 (by simpa using c.1))]
          exact h2
        case measure => simp [intOf]; omega
    · obtain rfl : j = r.holds.length := by omega
      rw [List.take_length] at hs
      have hq2 := hs.req r hr
      have c1 := hq2.blk.cell
      have f1 := hq2.blk.frozen
      simp only [reqCells] at c1
      have x2 : Ext own wr own ((wr.setCell ⟨L.rb r.id, 7, none⟩ (.slice none 0 0)).setCell ⟨L.rb r.id, 8, none⟩ (.int .i64 0)) (fun l => l = .req r.id) :=
        (Ext.setCell _ _ hq2.lab).trans (Ext.setCell _ _ hq2.lab)
      have hfin := hs.req_set hr { r with holds := [], entries := 0 } rfl x2 (L.rp r.id) (L.rt r.id) (.slice none 0 0) ((hq2.blk.set 7 _).set 8 _) (hq2.prm.ext x2 (by simp)) (hq2.tok.ext x2 (by simp)) (Owns.nil _ _ _ _ _)
      clear hq2 c2
      go_wp2
      go_end0
      exact ⟨rfl, _, _, hfin, rfl, (hx.mono (fun l e => .inl e)).trans (x2.mono (fun l e => .inr e))⟩
end Go.Proofs.YtllpoaoboieijaaGreat
/-
  end, told, full, Now, Sync.
-/
namespace Go.Proofs.YtllpoaoboieijaaGreat
open Go.RowKit

theorem put_put (S : Srv) (a b : Req) (h : a.id = b.id) : (S.put a).put b = S.put b := by
  simp only [Srv.put, List.map_map]
  congr 1
  apply List.map_congr_left
  intro r _
  simp only [Function.comp]
  by_cases e : r.id = a.id
  · rw [if_pos e, if_pos h, if_pos (e.trans h)]
  · rw [if_neg e]
theorem mem_put_self {S : Srv} {r r' : Req} (hr : r ∈ S.reqs) (hid : r'.id = r.id) : r' ∈ (S.put r').reqs := by
  simp only [Srv.put, List.mem_map]
  exact ⟨r, hr, by rw [if_pos hid.symm]⟩

def Srv.endReq (S : Srv) (r : Req) (e : Int) : Srv := ({ S with pages := relAll S.pageSize S.pages r.holds } : Srv).put { r with holds := [], entries := 0, ended := true, err := e, kept := -1 }

set_option maxHeartbeats 400000 in
theorem end_any (own : Nat → Lb) (sb : Nat) (L : Lay) (S : Srv) (r : Req) (e : Int) (w : World) (h : SrvAt own w sb L S) (hr : r ∈ S.reqs)
    (hk : ∀ k, k ∈ r.holds → 0 ≤ k ∧ k < S.pages.length) (hb : S.pages.length ≤ 64) (hh : r.holds.length ≤ 4096) :
    Calls Tryz.prog 36 #[.pointer (some ⟨sb, 0, none⟩), .pointer (some ⟨L.rb r.id, 0, none⟩), .int .i64 e] w fun e' w' => e' = .returned (.tuple #[]) ∧
      Goes own sb L (Tgb r.id) (S.endReq r e) w w' := by
  go_enter Tryz.func36, Tryz.ntmps36
  go_wp2_with fail
  refine (giveBack_any own sb L S r w h hr hk hb hh).mono ?_
  rintro e' w1 ⟨rfl, own1, L1, h1, hrb, x1⟩
  have hr1 : ({ r with holds := [], entries := 0 } : Req) ∈ (S.giveBack r).reqs := mem_put_self (S := { S with pages := _ }) hr rfl
  have hq := h1.req _ hr1
  have c1 := hq.blk.cell
  have f1 := hq.blk.frozen
  have hl := hq.lab
  simp only [reqCells] at c1
  simp only at hl
  have x2 : Ext own1 w1 own1 (((w1.setCell ⟨L1.rb r.id, 9, none⟩ (.bool true)).setCell ⟨L1.rb r.id, 10, none⟩ (.int .i64 e)).setCell ⟨L1.rb r.id, 11, none⟩ (.int .i64 (-1))) (fun l => l = .req r.id) :=
    ((Ext.setCell _ _ hl).trans (Ext.setCell _ _ hl)).trans (Ext.setCell _ _ hl)
  have hfin := h1.req_set hr1 { r with holds := [], entries := 0, ended := true, err := e, kept := -1 } rfl x2 _ _ _ (((hq.blk.set 9 _).set 10 _).set 11 _) (hq.prm.ext x2 (by simp)) (hq.tok.ext x2 (by simp)) (hq.hold.ext x2 (by simp))
  rw [hrb] at c1 f1 x2 hfin
  rw [Srv.giveBack, put_put _ _ _ (by rfl)] at hfin
  clear hq hl
  go_wp2
  go_end0
  exact ⟨rfl, own1, _, hfin, rfl, x1.trans (x2.mono (fun l e => .inr e))⟩

theorem full_any (own : Nat → Lb) (sb : Nat) (L : Lay) (S : Srv) (w : World) (h : SrvAt own w sb L S) :
    Calls Tryz.prog 34 #[.pointer (some ⟨sb, 0, none⟩)] w fun e w' => e = .returned (.bool (decide (20000 ≤ S.records))) ∧ w = w' := by
  have c2 := h.blk.cell
  simp only [srvCells] at c2
  go_enter Tryz.func34, Tryz.ntmps34
  go_wp2
  go_ret
  exact ⟨rfl, rfl⟩

theorem now_any (own : Nat → Lb) (sb : Nat) (L : Lay) (S : Srv) (w : World) (h : SrvAt own w sb L S) :
    Calls Tryz.prog 12 #[.pointer (some ⟨sb, 0, none⟩)] w fun e w' => e = .returned (.int .i64 S.now) ∧ w = w' := by
  have c2 := h.blk.cell
  simp only [srvCells] at c2
  go_enter Tryz.func12, Tryz.ntmps12
  go_wp2
  go_ret
  exact ⟨rfl, rfl⟩

theorem synced_any (own : Nat → Lb) (sb : Nat) (L : Lay) (S : Srv) (w : World) (h : SrvAt own w sb L S) :
    Calls Tryz.prog 24 #[.pointer (some ⟨sb, 0, none⟩)] w fun e w' => e = .returned (.int .i64 S.synced) ∧ w = w' := by
  have c2 := h.blk.cell
  simp only [srvCells] at c2
  go_enter Tryz.func24, Tryz.ntmps24
  go_wp2
  go_ret
  exact ⟨rfl, rfl⟩

theorem told_any (own : Nat → Lb) (sb : Nat) (L : Lay) (S : Srv) (r : Req) (w : World) (h : SrvAt own w sb L S) (hr : r ∈ S.reqs) :
    Calls Tryz.prog 39 #[.pointer (some ⟨sb, 0, none⟩), .pointer (some ⟨L.rb r.id, 0, none⟩)] w fun e w' => e = .returned (.bool (r.ended && (S.replay || decide (r.kept ≤ S.synced)))) ∧ ∃ k, w' = w.drewN k := by
  have c2 := h.blk.cell
  have c1 := (h.req r hr).blk.cell
  simp only [srvCells] at c2
  simp only [reqCells] at c1
  cases e1 : r.ended <;> cases e2 : S.replay <;> rw [e1] at c1 <;> rw [e2] at c2 <;> clear e1 e2
  all_goals
    go_enter Tryz.func39, Tryz.ntmps39
    go_wp2
    go_quiet (fail)
    go_wp2
    go_ret
    exact ⟨rfl, _, rfl⟩
end Go.Proofs.YtllpoaoboieijaaGreat
