/-
  compute: entries of a request. The plain side, and words on appending.
-/
import Derived.Deep.AppendLies
import Derived.Deep.CutBlock
import Derived.Deep.DeepCutAuto
import Derived.Deep.RegionHeld3
import Derived.Deep.RegionLaw
import Derived.Test.YtllpoaoboieijaaGreatSa5
/-
  compute: entries of a request. The plain side, and words on appending.
-/
namespace Go.Proofs.YtllpoaoboieijaaGreat
open Go.RowKit

theorem info3 : (Tryz.prog.info? 3).map (fun i => (i.zero, i.size, i.bytes)) = some (some (.int .i64 0), 1, 8) := by kernel_rfl
theorem info5 : (Tryz.prog.info? 5).map (fun i => (i.zero, i.size, i.bytes)) = some (some (.int .u8 0), 1, 1) := by kernel_rfl
theorem info22 : (Tryz.prog.info? 22).map (fun i => (i.zero, i.size, i.bytes)) = some (some (.slice none 0 0), 1, 24) := by kernel_rfl
theorem info73 : (Tryz.prog.info? 73).map (fun i => (i.zero, i.size, i.bytes)) = some (some (.pointer none), 1, 8) := by kernel_rfl
theorem info41 : (Tryz.prog.info? 41).map (fun i => (i.zero, i.size, i.bytes)) = some (some (.agg #[.int .i64 0, .int .i64 0, .slice none 0 0, .int .i64 0, .int .i64 0]), 5, 56) := by kernel_rfl

/-- One new cell, to be appended. -/
theorem news1 (w : World) (u : Value) (t : TypeId) : ∀ (j : Nat) v, [u][j]? = some v → ((w.alloc (.cells #[u] t)).drew).cell? ((⟨w.heap.size, 0, none⟩ : Addr).add j) = some v :=
  World.news_of_block (w := (w.alloc (.cells #[u] t)).drew) (cs := #[u]) (t := t) (fr := (0, 0)) (heap_alloc_new w _)
theorem news1' (w : World) (u : Value) (t : TypeId) : ∀ (j : Nat) v, [u][j]? = some v → (w.alloc (.cells #[u] t)).cell? ((⟨w.heap.size, 0, none⟩ : Addr).add j) = some v :=
  World.news_of_block (w := (w.alloc (.cells #[u] t))) (cs := #[u]) (t := t) (fr := (0, 0)) (heap_alloc_new w _)
theorem one_int (k : IntKind) (x : Int) : ∀ u ∈ [Value.int k x], u.oneCell' = true := by simp [Value.oneCell']
theorem one_ptr (x : Option Addr) : ∀ u ∈ [Value.pointer x], u.oneCell' = true := by simp [Value.oneCell']
theorem one_slice (A : Option Addr) (n c : Nat) : ∀ u ∈ [Value.slice A n c], u.oneCell' = true := by simp [Value.oneCell']
/-- What an owned slice is behind an append. -/
theorem Owns.app {own : Nat → Lb} {lb : Lb} {w w' : World} {e : TypeId} {size : Nat} {v : Value} {n n' : Nat} {xs xs' : List Value} {g cap : Nat} (h : Owns own lb w e size v n xs)
    (hown : w'.ownsRow 0 e size (.slice (some ⟨g, 0, none⟩) n' cap) n' xs') (hg : w.grownBy w' v.ownBlock) (hat : v.ownBlock = some g ∨ g = w.heap.size) :
    Ext own w (relab own w.heap.size lb) w' (fun l => l = lb) ∧ Owns (relab own w.heap.size lb) lb w' e size (.slice (some ⟨g, 0, none⟩) n' cap) n' xs' := by
  refine ⟨Ext.grown hg lb (fun k hk => h.2 k hk), hown, fun k hk => ?_⟩
  have : g = k := by simpa [Value.ownBlock] using hk
  subst this
  rcases hat with e | e
  · rw [relab_old _ (h.1.lt g e).2]; exact h.2 g e
  · exact relab_new _ (by omega)

theorem SrvAt.req_app {own own' : Nat → Lb} {w w' : World} {sb : Nat} {L : Lay} {S : Srv} (h : SrvAt own w sb L S) {r : Req} (hr : r ∈ S.reqs) (r' : Req) (hid : r'.id = r.id) {T : Lb → Prop} (x : Ext own w own' w' T) (hT : ∀ l, T l → Lb.ofReq r.id l)
    (pv tv hv : Value) (hb : Blk w' (L.rb r.id) (reqCells r' pv tv hv) 75) (hp : Owns own' (.prm r.id) w' 3 1 pv r'.prompt.length (ints r'.prompt)) (ht : Owns own' (.tok r.id) w' 3 1 tv r'.tokens.length (ints r'.tokens))
    (hh : Owns own' (.hold r.id) w' 3 1 hv r'.holds.length (ints r'.holds)) :
    SrvAt own' w' sb { L with rp := updv L.rp r.id pv, rt := updv L.rt r.id tv, rh := updv L.rh r.id hv } (S.put r') := by
  rw [← hid] at hb hp ht hh hT ⊢
  refine h.put_upd x r' hT pv tv hv ⟨?_, ?_, ?_, ?_, ?_⟩
  · simpa [updv_same] using hb
  · show own' (L.rb r'.id) = _
    rw [hid, x.lab _ (h.req r hr).blk.lt]; exact (h.req r hr).lab
  · simpa [updv_same] using hp
  · simpa [updv_same] using ht
  · simpa [updv_same] using hh

/-- 'holds = append(holds, x)' of a request, drawn or not ('d' draws behind the box). -/
structure HoldApp (own : Nat → Lb) (sb : Nat) (L : Lay) (S : Srv) (r : Req) (w : World) (A : Option Addr) (c : Nat) : Prop where
  val : L.rh r.id = .slice A r.holds.length c
  blk : Blk w (L.rb r.id) (reqCells r (L.rp r.id) (L.rt r.id) (.slice A r.holds.length c)) 75
  owns : ∀ o d, ((w.alloc o).drewN d).ownsRow 0 3 1 (.slice A r.holds.length c) r.holds.length (ints r.holds)
  after : ∀ (o : Obj) (d : Nat) (x : Int) (g cap : Nat) (w3 : World), w3.ownsRow 0 3 1 (.slice (some ⟨g, 0, none⟩) (r.holds.length + 1) cap) (r.holds.length + 1) (ints r.holds ++ [.int .i64 x]) →
    ((w.alloc o).drewN d).grownBy w3 (Value.slice A r.holds.length c).ownBlock → ((Value.slice A r.holds.length c).ownBlock = some g ∨ g = ((w.alloc o).drewN d).heap.size) →
    Blk w3 (L.rb r.id) (reqCells r (L.rp r.id) (L.rt r.id) (.slice A r.holds.length c)) 75 ∧
    Goes own sb L Tin (S.put { r with holds := r.holds ++ [x] }) w (w3.setCell ⟨L.rb r.id, 7, none⟩ (.slice (some ⟨g, 0, none⟩) (r.holds.length + 1) cap))
theorem HoldApp.mk' {own : Nat → Lb} {sb : Nat} {L : Lay} {S : Srv} {r : Req} {w : World} (h : SrvAt own w sb L S) (hr : r ∈ S.reqs) : ∃ A c, HoldApp own sb L S r w A c := by
  have hq := h.req r hr
  have ho : Owns own (.hold r.id) w 3 1 (L.rh r.id) r.holds.length (ints r.holds) := hq.hold
  obtain ⟨A, c, hv, -, -⟩ := ho.shape
  have hblk := hq.blk
  rw [hv] at hblk ho
  have hne : some (L.rb r.id) ≠ (Value.slice A r.holds.length c).ownBlock := by
    intro e
    have h1 := ho.2 _ e.symm
    rw [hq.lab] at h1; cases h1
  refine ⟨A, c, hv, hblk, fun o d => ho.1.alloc o, fun o d x g cap w3 h3 hg hat => ?_⟩
  have x1 : Ext own w (relab own w.heap.size .other) ((w.alloc o).drewN d) (fun l => l = .hold r.id) := (Ext.alloc o _ .other).drewN d
  obtain ⟨x2, ho2⟩ := Owns.app (ho.ext (T := fun _ => False) ((Ext.alloc o (fun _ => False) .other).drewN d) (fun f => f)) h3 hg hat
  have x12 := x1.trans x2
  have hb3 : Blk w3 (L.rb r.id) _ 75 := Blk.grown hg ((hblk.alloc o).drewN d) hne
  refine ⟨hb3, ?_⟩
  generalize relab (relab own w.heap.size .other) ((w.alloc o).drewN d).heap.size (.hold r.id) = own3 at x2 ho2 x12
  have hl3 : own3 (L.rb r.id) = .req r.id := by rw [x12.lab _ hq.blk.lt]; exact hq.lab
  have x3 : Ext own3 w3 own3 (w3.setCell ⟨L.rb r.id, 7, none⟩ (.slice (some ⟨g, 0, none⟩) (r.holds.length + 1) cap)) (fun l => l = .req r.id) := Ext.setCell _ _ hl3
  have xx : Ext own w own3 (w3.setCell ⟨L.rb r.id, 7, none⟩ (.slice (some ⟨g, 0, none⟩) (r.holds.length + 1) cap)) (fun l => l = .req r.id ∨ l = .hold r.id) :=
    (x12.mono (fun l e => .inr e)).trans (x3.mono (fun l e => .inl e))
  have fin := h.req_app hr { r with holds := r.holds ++ [x] } rfl xx (by intro l e; rcases e with e | e <;> simp [Lb.ofReq, e]) (L.rp r.id) (L.rt r.id) (.slice (some ⟨g, 0, none⟩) (r.holds.length + 1) cap) (hb3.set 7 _) (hq.prm.ext xx (by simp)) (hq.tok.ext xx (by simp)) (by have := ho2.ext x3 (by simp); simpa [ints] using this)
  exact ⟨own3, _, fin, rfl, xx.mono (fun l e => by rcases e with e | e <;> (rw [e]; intro f; cases f))⟩

/-- 'tokens = append(tokens, x)' of a request, drawn or not ('d' draws behind the box). -/
structure TokApp (own : Nat → Lb) (sb : Nat) (L : Lay) (S : Srv) (r : Req) (w : World) (A : Option Addr) (c : Nat) : Prop where
  val : L.rt r.id = .slice A r.tokens.length c
  blk : Blk w (L.rb r.id) (reqCells r (L.rp r.id) (.slice A r.tokens.length c) (L.rh r.id)) 75
  owns : ∀ o d, ((w.alloc o).drewN d).ownsRow 0 3 1 (.slice A r.tokens.length c) r.tokens.length (ints r.tokens)
  after : ∀ (o : Obj) (d : Nat) (x : Int) (g cap : Nat) (w3 : World), w3.ownsRow 0 3 1 (.slice (some ⟨g, 0, none⟩) (r.tokens.length + 1) cap) (r.tokens.length + 1) (ints r.tokens ++ [.int .i64 x]) →
    ((w.alloc o).drewN d).grownBy w3 (Value.slice A r.tokens.length c).ownBlock → ((Value.slice A r.tokens.length c).ownBlock = some g ∨ g = ((w.alloc o).drewN d).heap.size) →
    Blk w3 (L.rb r.id) (reqCells r (L.rp r.id) (.slice A r.tokens.length c) (L.rh r.id)) 75 ∧
    Goes own sb L Tin (S.put { r with tokens := r.tokens ++ [x] }) w (w3.setCell ⟨L.rb r.id, 5, none⟩ (.slice (some ⟨g, 0, none⟩) (r.tokens.length + 1) cap))
theorem TokApp.mk' {own : Nat → Lb} {sb : Nat} {L : Lay} {S : Srv} {r : Req} {w : World} (h : SrvAt own w sb L S) (hr : r ∈ S.reqs) : ∃ A c, TokApp own sb L S r w A c := by
  have hq := h.req r hr
  have ho : Owns own (.tok r.id) w 3 1 (L.rt r.id) r.tokens.length (ints r.tokens) := hq.tok
  obtain ⟨A, c, hv, -, -⟩ := ho.shape
  have hblk := hq.blk
  rw [hv] at hblk ho
  have hne : some (L.rb r.id) ≠ (Value.slice A r.tokens.length c).ownBlock := by
    intro e
    have h1 := ho.2 _ e.symm
    rw [hq.lab] at h1; cases h1
  refine ⟨A, c, hv, hblk, fun o d => ho.1.alloc o, fun o d x g cap w3 h3 hg hat => ?_⟩
  have x1 : Ext own w (relab own w.heap.size .other) ((w.alloc o).drewN d) (fun l => l = .tok r.id) := (Ext.alloc o _ .other).drewN d
  obtain ⟨x2, ho2⟩ := Owns.app (ho.ext (T := fun _ => False) ((Ext.alloc o (fun _ => False) .other).drewN d) (fun f => f)) h3 hg hat
  have x12 := x1.trans x2
  have hb3 : Blk w3 (L.rb r.id) _ 75 := Blk.grown hg ((hblk.alloc o).drewN d) hne
  refine ⟨hb3, ?_⟩
  generalize relab (relab own w.heap.size .other) ((w.alloc o).drewN d).heap.size (.tok r.id) = own3 at x2 ho2 x12
  have hl3 : own3 (L.rb r.id) = .req r.id := by rw [x12.lab _ hq.blk.lt]; exact hq.lab
  have x3 : Ext own3 w3 own3 (w3.setCell ⟨L.rb r.id, 5, none⟩ (.slice (some ⟨g, 0, none⟩) (r.tokens.length + 1) cap)) (fun l => l = .req r.id) := Ext.setCell _ _ hl3
  have xx : Ext own w own3 (w3.setCell ⟨L.rb r.id, 5, none⟩ (.slice (some ⟨g, 0, none⟩) (r.tokens.length + 1) cap)) (fun l => l = .req r.id ∨ l = .tok r.id) :=
    (x12.mono (fun l e => .inr e)).trans (x3.mono (fun l e => .inl e))
  have fin := h.req_app hr { r with tokens := r.tokens ++ [x] } rfl xx (by intro l e; rcases e with e | e <;> simp [Lb.ofReq, e]) (L.rp r.id) (.slice (some ⟨g, 0, none⟩) (r.tokens.length + 1) cap) (L.rh r.id) (hb3.set 5 _) (hq.prm.ext xx (by simp)) (by have := ho2.ext x3 (by simp); simpa [ints] using this) (hq.hold.ext xx (by simp))
  exact ⟨own3, _, fin, rfl, xx.mono (fun l e => by rcases e with e | e <;> (rw [e]; intro f; cases f))⟩

/-- 'p.Tokens = append(p.Tokens, x)' of a page. -/
structure PTokApp (own : Nat → Lb) (sb : Nat) (L : Lay) (S : Srv) (k : Nat) (p : Pg) (w : World) (A : Option Addr) (c : Nat) : Prop where
  val : L.pt k = .slice A p.toks.length c
  owns : ∀ o d, ((w.alloc o).drewN d).ownsRow 0 3 1 (.slice A p.toks.length c) p.toks.length (ints p.toks)
  after : ∀ (o : Obj) (d : Nat) (x : Int) (g cap : Nat) (w3 : World), w3.ownsRow 0 3 1 (.slice (some ⟨g, 0, none⟩) (p.toks.length + 1) cap) (p.toks.length + 1) (ints p.toks ++ [.int .i64 x]) →
    ((w.alloc o).drewN d).grownBy w3 (Value.slice A p.toks.length c).ownBlock → ((Value.slice A p.toks.length c).ownBlock = some g ∨ g = ((w.alloc o).drewN d).heap.size) →
    Blk w3 L.pb (pgsCells S.pages L.pt) 106 ∧
    ∃ own' pt', SrvAt own' (w3.setCell ⟨L.pb, k * 4 + 1, none⟩ (.slice (some ⟨g, 0, none⟩) (p.toks.length + 1) cap)) sb { L with pt := pt' } { S with pages := S.pages.set k { p with toks := p.toks ++ [x] } } ∧
      Ext own w own' (w3.setCell ⟨L.pb, k * 4 + 1, none⟩ (.slice (some ⟨g, 0, none⟩) (p.toks.length + 1) cap)) Tin
theorem PTokApp.mk' {own : Nat → Lb} {sb : Nat} {L : Lay} {S : Srv} {k : Nat} {p : Pg} {w : World} (h : SrvAt own w sb L S) (hp : S.pages[k]? = some p) : ∃ A c, PTokApp own sb L S k p w A c := by
  have ho := h.ptok k p hp
  obtain ⟨A, c, hv, -, -⟩ := ho.shape
  rw [hv] at ho
  have hne : some L.pb ≠ (Value.slice A p.toks.length c).ownBlock := by
    intro e
    have h1 := ho.2 _ e.symm
    rw [h.plab] at h1; cases h1
  refine ⟨A, c, hv, fun o d => ho.1.alloc o, fun o d x g cap w3 h3 hg hat => ?_⟩
  have x1 : Ext own w (relab own w.heap.size .other) ((w.alloc o).drewN d) (fun l => l = .ptok k) := (Ext.alloc o _ .other).drewN d
  obtain ⟨x2, ho2⟩ := Owns.app (ho.ext (T := fun _ => False) ((Ext.alloc o (fun _ => False) .other).drewN d) (fun f => f)) h3 hg hat
  have x12 := x1.trans x2
  have hb3 : Blk w3 L.pb _ 106 := Blk.grown hg ((h.pgs.alloc o).drewN d) hne
  refine ⟨hb3, ?_⟩
  generalize relab (relab own w.heap.size .other) ((w.alloc o).drewN d).heap.size (.ptok k) = own3 at x2 ho2 x12
  have hl3 : own3 L.pb = .pgs := by rw [x12.lab _ h.pgs.lt]; exact h.plab
  have x3 : Ext own3 w3 own3 (w3.setCell ⟨L.pb, k * 4 + 1, none⟩ (.slice (some ⟨g, 0, none⟩) (p.toks.length + 1) cap)) (fun l => l = .pgs) := Ext.setCell _ _ hl3
  have xx : Ext own w own3 (w3.setCell ⟨L.pb, k * 4 + 1, none⟩ (.slice (some ⟨g, 0, none⟩) (p.toks.length + 1) cap)) (fun l => l = .pgs ∨ l = .ptok k) :=
    (x12.mono (fun l e => .inr e)).trans (x3.mono (fun l e => .inl e))
  have hk : k < S.pages.length := by
    rcases Nat.lt_or_ge k S.pages.length with h1 | h1
    · exact h1
    · simp [List.getElem?_eq_none h1] at hp
  have hlen := pgs_len (L := L) hp
  have hcells : (pgsCells S.pages L.pt).set (k * 4 + 1) (.slice (some ⟨g, 0, none⟩) (p.toks.length + 1) cap) =
      pgsCells (S.pages.set k { p with toks := p.toks ++ [x] }) (fun j => if j = k then .slice (some ⟨g, 0, none⟩) (p.toks.length + 1) cap else L.pt j) := by
    have gg := fun i hi => pgsCells_get S.pages L.pt k i hi
    rw [hp] at gg
    refine pgsCells_ext (by simp [pgsCells_length]) fun j q i hj hi => ?_
    by_cases e : j = k
    · subst e
      rw [List.getElem?_set_self hk] at hj
      cases hj
      have : i = 0 ∨ i = 1 ∨ i = 2 ∨ i = 3 := by omega
      rcases this with rfl | rfl | rfl | rfl
      · rw [List.getElem?_set_ne (by omega), gg 0 (by omega)]; rfl
      · rw [List.getElem?_set_self (by omega)]; simp [pgCells]
      · rw [List.getElem?_set_ne (by omega), gg 2 (by omega)]; rfl
      · rw [List.getElem?_set_ne (by omega), gg 3 (by omega)]; rfl
    · rw [List.getElem?_set_ne (fun e' => e e'.symm)] at hj
      rw [List.getElem?_set_ne (by omega), pgsCells_get _ _ _ _ hi, hj]
      simp [e]
  refine ⟨own3, _, h.pages_upd xx (by intro l e; rcases e with e | e; exact .inl e; exact .inr (.inl ⟨k, e⟩)) (by simp) (by rw [← hcells]; exact hb3.set (k * 4 + 1) _) ?_, xx.mono (fun l e => by rcases e with e | e <;> (rw [e]; intro f; cases f))⟩
  intro j q hj
  by_cases e : j = k
  · subst e
    rw [List.getElem?_set_self hk] at hj
    cases hj
    have := ho2.ext x3 (by simp)
    simpa [ints] using this
  · rw [List.getElem?_set_ne (fun e' => e e'.symm)] at hj
    simp only [e, if_false]
    exact (h.ptok j q hj).ext xx (by simp [e])

theorem pageF_keeps {beh : List Int} {r : Req} (hn : r.id ∉ beh) : ∀ n S, r ∈ S.reqs → r ∈ (pageF n S beh).1.reqs
  | 0, S, h => h
  | n + 1, S, h => by
    rw [pageF]
    split
    · exact h
    · split
      · rename_i q hq
        refine pageF_keeps hn n _ ?_
        have hid : q.id ∈ beh := by
          have : ∀ m, victimTo S beh m = some q → q.id ∈ beh := by
            intro m
            induction m with
            | zero => intro h; cases h
            | succ m ih =>
              intro h
              rw [victimTo] at h
              split at h
              · rename_i a ha
                split at h
                · exact ih h
                · cases h
                  cases hb : beh[m]? with
                  | none => rw [hb] at ha; cases ha
                  | some id =>
                    rw [hb] at ha
                    rw [(get_mem ha).2]
                    exact List.mem_of_getElem? hb
              · cases h
          exact this _ hq
        show r ∈ (Srv.put _ _).reqs
        simp only [Srv.put, List.mem_map]
        exact ⟨r, h, by rw [if_neg]; intro e; apply hn; rw [e]; exact hid⟩
      · exact h
theorem pageF_same (beh : List Int) : ∀ n S, Wf S → (S.reqs.map Req.id).Nodup → Wf (pageF n S beh).1 ∧ (pageF n S beh).1.reqs.map Req.id = S.reqs.map Req.id ∧ (pageF n S beh).1.pages.length = S.pages.length ∧ (pageF n S beh).1.pageSize = S.pageSize ∧ (pageF n S beh).1.now = S.now ∧
      ((pageF n S beh).2.2 = true → 0 ≤ (pageF n S beh).2.1 ∧ (pageF n S beh).2.1 < S.pages.length)
  | 0, S, h, _ => ⟨h, rfl, rfl, rfl, rfl, fun e => (by cases e)⟩
  | n + 1, S, h, hu => by
    rw [pageF]
    split
    · rename_i hs
      exact ⟨h.pages _ (by simp) (fun p hp => by
        rcases List.mem_or_eq_of_mem_set hp with h1 | h1
        · exact h.ptok p h1
        · rw [h1]; simp [Pg.zero]), rfl, by simp, rfl, rfl, fun _ => spare_lt S hs⟩
    · split
      · rename_i q hq
        have hm := victimTo_mem _ hq
        have := pageF_same beh n (S.takeFrom q) (h.takeFrom hm.1) (by rw [takeFrom_ids]; exact hu)
        obtain ⟨a, b, c, d, e, f⟩ := this
        have hl : (S.takeFrom q).pages.length = S.pages.length := relAll_length _ _ _
        exact ⟨a, by rw [b, takeFrom_ids], by rw [c, hl], d, e, fun hh => by rw [← hl]; exact f hh⟩
      · exact ⟨h, rfl, rfl, rfl, rfl, fun e => (by cases e)⟩

/-- A new page for a request, where it begins one. -/
def Srv.take (S : Srv) (r : Req) (beh : List Int) : Srv × Option Req :=
  if r.entries % S.pageSize = 0 then
    if (S.page beh).2.2 = true then
      (({ (S.page beh).1 with pages := (S.page beh).1.pages.set (S.page beh).2.1.toNat ⟨r.entries, [], 1, 0⟩ } : Srv).put { r with holds := r.holds ++ [(S.page beh).2.1] }, some { r with holds := r.holds ++ [(S.page beh).2.1] })
    else ((S.page beh).1, none)
  else (S, some r)
def fillN (size : Int) (p : Pg) (r : Req) : Nat := min (size - p.toks.length).toNat (r.tokens.length - r.entries.toNat)
/-- t entries are put behind those of page k. -/
def Srv.fillTo (S : Srv) (k : Nat) (p : Pg) (r : Req) (t : Nat) : Srv :=
  ({ S with pages := S.pages.set k { p with toks := p.toks ++ (r.tokens.drop r.entries.toNat).take t } } : Srv).put { r with entries := r.entries + t }
def Srv.fill (S : Srv) (k : Nat) (p : Pg) (r : Req) : Srv :=
  ({ S with pages := S.pages.set k { p with toks := p.toks ++ (r.tokens.drop r.entries.toNat).take (fillN S.pageSize p r), used := S.now } } : Srv).put { r with entries := r.entries + (fillN S.pageSize p r : Nat), worked := true }
def Srv.compute (S : Srv) (r : Req) (beh : List Int) : Srv :=
  match S.take r beh with
  | (S1, none) => S1
  | (S1, some r1) =>
    match S1.pages[(r1.holds.getLastD 0).toNat]? with
    | some p => S1.fill (r1.holds.getLastD 0).toNat p r1
    | none => S1

structure TakeFacts (S : Srv) (r : Req) (S1 : Srv) (r1 : Req) : Prop where
  mem : r1 ∈ S1.reqs
  id : r1.id = r.id
  ent : r1.entries = r.entries
  tok : r1.tokens = r.tokens
  hold : ∃ hs, ∃ k : Nat, r1.holds = hs ++ [(k : Int)] ∧ k < S1.pages.length ∧ hs.length ≤ 64
  ptok : ∀ p, p ∈ S1.pages → p.toks.length ≤ 8
  np : S1.pages.length ≤ 64
  size : S1.pageSize = S.pageSize
theorem take_facts {S : Srv} {r : Req} {beh : List Int} {S1 : Srv} {r1 : Req} (hw : Wf S) (hu : (S.reqs.map Req.id).Nodup) (hr : r ∈ S.reqs) (hnb : r.id ∉ beh) (h : S.take r beh = (S1, some r1)) : TakeFacts S r S1 r1 := by
  have hwr := hw.req r hr
  have hent := hwr.ent
  unfold Srv.take at h
  split at h
  · split at h
    · rename_i hok
      have hs := pageF_same beh (holders S + 1) S hw hu
      have hr1 := pageF_keeps hnb (holders S + 1) S hr
      rw [show pageF (holders S + 1) S beh = S.page beh from rfl] at hs hr1
      obtain ⟨a, b, c, d, e, f⟩ := hs
      have hk := f hok
      simp only [Prod.mk.injEq, Option.some.injEq] at h
      obtain ⟨rfl, rfl⟩ := h
      refine ⟨?_, rfl, rfl, rfl, ⟨r.holds, (S.page beh).2.1.toNat, by rw [Int.toNat_of_nonneg hk.1], by show _ < (List.set _ _ _).length; rw [List.length_set]; omega, by omega⟩, ?_, ?_, d⟩
      · exact mem_put_self (S := { (S.page beh).1 with pages := _ }) hr1 rfl
      · intro p hp
        rcases List.mem_or_eq_of_mem_set (show p ∈ (S.page beh).1.pages.set _ _ from hp) with h1 | h1
        · exact a.ptok p h1
        · rw [h1]; simp
      · show (List.set _ _ _).length ≤ 64
        rw [List.length_set]; exact a.n1
    · simp at h
  · rename_i hm
    simp only [Prod.mk.injEq, Option.some.injEq] at h
    obtain ⟨rfl, rfl⟩ := h
    have hne : r.holds ≠ [] := fun e => hm (by have := hwr.hold0 (by rw [e]; rfl); rw [this]; simp)
    refine ⟨hr, rfl, rfl, rfl, ⟨r.holds.dropLast, (r.holds.getLast hne).toNat, ?_, ?_, by simp; omega⟩, hw.ptok, hw.n1, rfl⟩
    · have := (hwr.hold _ (List.getLast_mem hne)).1
      rw [Int.toNat_of_nonneg this]; exact (List.dropLast_concat_getLast hne).symm
    · have := hwr.hold _ (List.getLast_mem hne)
      omega
theorem compute_eq {S : Srv} {r : Req} {beh : List Int} {S1 : Srv} {r1 : Req} {hs : List Int} {k : Nat} {p : Pg} (h : S.take r beh = (S1, some r1)) (hh : r1.holds = hs ++ [(k : Int)]) (hp : S1.pages[k]? = some p) : S.compute r beh = S1.fill k p r1 := by
  unfold Srv.compute
  rw [h]
  simp only
  rw [show (r1.holds.getLastD 0).toNat = k by rw [hh]; simp, hp]

theorem put_self {S : Srv} (hu : (S.reqs.map Req.id).Nodup) {r : Req} (hr : r ∈ S.reqs) : S.put r = S := by
  have key : ∀ q, q ∈ S.reqs → (if q.id = r.id then r else q) = q := by
    intro q hq
    split
    · rename_i e
      have h1 := get_of_mem hu hq
      rw [e, get_of_mem hu hr] at h1
      exact Option.some.inj h1
    · rfl
  unfold Srv.put
  rw [List.map_congr_left key]; simp
theorem set_self {ps : List Pg} {k : Nat} {p : Pg} (hp : ps[k]? = some p) : ps.set k p = ps := by
  apply List.ext_getElem?
  intro j
  by_cases e : k = j
  · subst e
    have : k < ps.length := by
      rcases Nat.lt_or_ge k ps.length with h1 | h1
      · exact h1
      · simp [List.getElem?_eq_none h1] at hp
    rw [List.getElem?_set_self this, hp]
  · rw [List.getElem?_set_ne e]
theorem fillTo_zero {S : Srv} (hu : (S.reqs.map Req.id).Nodup) {k : Nat} {p : Pg} {r : Req} (hp : S.pages[k]? = some p) (hr : r ∈ S.reqs) : S.fillTo k p r 0 = S := by
  unfold Srv.fillTo
  rw [List.take_zero, List.append_nil, show ({ p with toks := p.toks } : Pg) = p from rfl, set_self hp, show r.entries + ((0 : Nat) : Int) = r.entries by simp]
  exact put_self hu hr
theorem fillTo_page {S : Srv} {k : Nat} {p : Pg} {r : Req} {t : Nat} (hp : S.pages[k]? = some p) : (S.fillTo k p r t).pages[k]? = some { p with toks := p.toks ++ (r.tokens.drop r.entries.toNat).take t } := by
  have : k < S.pages.length := by
    rcases Nat.lt_or_ge k S.pages.length with h1 | h1
    · exact h1
    · simp [List.getElem?_eq_none h1] at hp
  exact List.getElem?_set_self this
theorem fillTo_req {S : Srv} {k : Nat} {p : Pg} {r : Req} {t : Nat} (hr : r ∈ S.reqs) : ({ r with entries := r.entries + t } : Req) ∈ (S.fillTo k p r t).reqs :=
  mem_put_self (S := { S with pages := _ }) hr rfl
theorem fillTo_succ {S : Srv} {k : Nat} {p : Pg} {r : Req} {t : Nat} {x : Int} (hx : (r.tokens.drop r.entries.toNat)[t]? = some x) :
    ({ S.fillTo k p r t with pages := (S.fillTo k p r t).pages.set k { p with toks := (p.toks ++ (r.tokens.drop r.entries.toNat).take t) ++ [x] } } : Srv).put { r with entries := r.entries + t + 1 } = S.fillTo k p r (t + 1) := by
  have e1 : (r.tokens.drop r.entries.toNat).take (t + 1) = (r.tokens.drop r.entries.toNat).take t ++ [x] := by
    have ht : t < (r.tokens.drop r.entries.toNat).length := by
      rcases Nat.lt_or_ge t (r.tokens.drop r.entries.toNat).length with h1 | h1
      · exact h1
      · rw [List.getElem?_eq_none h1] at hx; cases hx
    rw [List.take_succ_eq_append_getElem ht]
    rw [List.getElem?_eq_getElem ht] at hx
    rw [Option.some.inj hx]
  have e3 : r.entries + t + 1 = r.entries + ((t + 1 : Nat) : Int) := by omega
  show ((({ S with pages := (S.pages.set k { p with toks := p.toks ++ (r.tokens.drop r.entries.toNat).take t }).set k { p with toks := p.toks ++ (r.tokens.drop r.entries.toNat).take t ++ [x] } } : Srv).put { r with entries := r.entries + t }).put { r with entries := r.entries + t + 1 }) = _
  rw [put_put _ { r with entries := r.entries + t } { r with entries := r.entries + t + 1 } rfl, List.set_set, List.append_assoc, ← e1, e3]
  rfl
theorem fill_end {S : Srv} {k : Nat} {p : Pg} {r : Req} :
    ({ S.fillTo k p r (fillN S.pageSize p r) with pages := (S.fillTo k p r (fillN S.pageSize p r)).pages.set k { p with toks := p.toks ++ (r.tokens.drop r.entries.toNat).take (fillN S.pageSize p r), used := S.now } } : Srv).put
      { r with entries := r.entries + (fillN S.pageSize p r : Nat), worked := true } = S.fill k p r := by
  show ((({ S with pages := (S.pages.set k { p with toks := p.toks ++ (r.tokens.drop r.entries.toNat).take (fillN S.pageSize p r) }).set k { p with toks := p.toks ++ (r.tokens.drop r.entries.toNat).take (fillN S.pageSize p r), used := S.now } } : Srv).put
    { r with entries := r.entries + (fillN S.pageSize p r : Nat) }).put { r with entries := r.entries + (fillN S.pageSize p r : Nat), worked := true }) = _
  rw [put_put _ { r with entries := r.entries + (fillN S.pageSize p r : Nat) } { r with entries := r.entries + (fillN S.pageSize p r : Nat), worked := true } rfl, List.set_set]
  rfl

theorem page_used {own : Nat → Lb} {wr : World} {sb : Nat} {L : Lay} {S : Srv} (hs : SrvAt own wr sb L S) {k : Nat} {p : Pg} (hp : S.pages[k]? = some p) (u : Int) :
    Ext own wr own (wr.setCell ⟨L.pb, k * 4 + 3, none⟩ (.int .i64 u)) Tpg ∧ ∃ pt, SrvAt own (wr.setCell ⟨L.pb, k * 4 + 3, none⟩ (.int .i64 u)) sb { L with pt := pt } { S with pages := S.pages.set k { p with used := u } } := by
  have x : Ext own wr own (wr.setCell ⟨L.pb, k * 4 + 3, none⟩ (.int .i64 u)) Tpg := Ext.setCell _ _ hs.plab
  have hlen := pgs_len (L := L) hp
  have g := fun i hi => pgsCells_get S.pages L.pt k i hi
  rw [hp] at g
  have g0 := g 0 (by omega); have g1 := g 1 (by omega); have g2 := g 2 (by omega); have g3 := g 3 (by omega)
  simp [pgCells] at g0 g1 g2 g3
  refine ⟨x, _, hs.page_set x hp { p with used := u } (L.pt k) (hs.pgs.set (k * 4 + 3) (.int .i64 u)) (by simp) (fun j hj => List.getElem?_set_ne (by omega)) ?_ ?_ ?_ ?_ ((hs.ptok k p hp).ext x (by simp [Tpg]))⟩
  · rw [List.getElem?_set_ne (by omega)]; exact g0
  · rw [List.getElem?_set_ne (by omega)]; exact g1
  · rw [List.getElem?_set_ne (by omega)]; exact g2
  · rw [List.getElem?_set_self (by omega)]
theorem page_owners {own : Nat → Lb} {wr : World} {sb : Nat} {L : Lay} {S : Srv} (hs : SrvAt own wr sb L S) {k : Nat} {p : Pg} (hp : S.pages[k]? = some p) (u : Int) :
    Ext own wr own (wr.setCell ⟨L.pb, k * 4 + 2, none⟩ (.int .i64 u)) Tpg ∧ ∃ pt, SrvAt own (wr.setCell ⟨L.pb, k * 4 + 2, none⟩ (.int .i64 u)) sb { L with pt := pt } { S with pages := S.pages.set k { p with owners := u } } :=
  gb_dec hs hp u 0
end Go.Proofs.YtllpoaoboieijaaGreat
