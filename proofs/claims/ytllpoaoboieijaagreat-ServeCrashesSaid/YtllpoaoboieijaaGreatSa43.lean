/-
  Proved: for every list of whole numbers ServeAlone returns true, and the list reads behind the call as it read before it. Conditions: none beyond those of the given row.
-/
import Derived.Below
import Derived.ChangeSame
import Derived.ChangeSlices
import Derived.OpenShut
import Derived.ProofKit
import Derived.Test.YtllpoaoboieijaaGreatSa42
/-
  Proved: for every list of whole numbers ServeAlone returns true, and the list reads behind the call as it read before it.
  Conditions: none beyond those of the given row.
-/
namespace Go.Proofs.YtllpoaoboieijaaGreat
open Go.ChangeShapes Go.WideShapes Go.ChangeAt Go.RowKit

section
variable {H : Type} {enc : TypeId × Value → H} {P : Program}
theorem post_of_below {f : Func} {s : ChangeSpec} {apart fresh handsOn again : Bool} {W W' : World} {args : Array Value} {v : Value} {ds gs : List (DataW H)} {before pa pv : List MemPlace}
    (hW : DataW.Whole enc P f.params.toList s.vars apart W args.toList ds gs before)
    (hres : ∀ (b : Nat) (sp : Nat → Bool) (hd : Bool), DataW.TrodAll enc P W' b sp hd f.resultTypes.toList (v.resultList f.resultTypes.size) (s.fn H (ds ++ gs)).results [])
    (hargs : ∀ sp : Nat → Bool, (∀ p ∈ before, sp p.block = true) → DataW.TrodAll enc P W' 0 sp true f.params.toList args.toList (s.fn H (ds ++ gs)).args pa)
    (hvars : ∀ sp : Nat → Bool, (∀ p ∈ before, sp p.block = true) → DataW.TrodVars enc P W' sp s.vars (s.fn H (ds ++ gs)).vars pv)
    (hps : before = pa ++ pv) (hb : Below W.heap.size W W')
    (hok : ∀ (j : Nat) (t : TypeId) (r : Value), f.resultTypes[j]? = some t → (v.resultList f.resultTypes.size)[j]? = some r → Value.okWide P W' .any 0 t r) :
    s.post enc P f apart fresh handsOn again W args v W' := by
  have hlt : ∀ p ∈ before, p.block < W.heap.size := fun p hp => hW.lt p hp
  have hold : ∀ p ∈ before, (fun b => decide (b < W.heap.size)) p.block = true := fun p hp => by simpa using hlt p hp
  refine ⟨ds, gs, before, [], pa, pv, hW, hres _ _ _, hargs _ hold, hvars _ hold, World.keptBut_mono (fun p hp => ⟨hp, ?_⟩) (hb.frame (· ∈ before)), fun _ => ?_⟩
  · rw [hps, List.mem_append] at hp
    exact Or.inr hp
  · obtain ⟨_, _, _, _, _, hz, hn⟩ := hW
    refine ⟨hok, _, _, ([] ++ pa) ++ pv, ⟨[] ++ pa, pv, trodAll_append (hargs _ (fun _ _ => rfl)) (hres _ _ _), hvars _ (fun _ _ => rfl), rfl, ?_, ?_⟩, ?_⟩
    · intro b off hp
      have hin : MemPlace.cell b off ∈ before := by rw [hps]; simpa using hp
      rw [hb.frozen (hlt _ hin)]
      exact hz b off hin
    · intro ha
      have := hn ha
      rw [hps] at this
      simpa using this
    · intro p hp _
      rw [hps]
      simpa using hp
end

theorem rowOwn : ownKnob Tryz.prog.godebug = none := by kernel_rfl
theorem cells3 : Tryz.prog.cellsOf 3 = 1 := by kernel_rfl
set_option maxRecDepth 100000 in
theorem serve_row (fn : Nat) (f : Func) (s : ChangeSpec) (hs : s.vars = []) (hsp : ∀ (H : Type) (d : DataW H), s.fn H [d] = { results := [.lit (.bool true)], args := [d] })
    (hp : f.params.toList = [22]) (hr : f.resultTypes = #[4])
    (walk : ∀ (w : World) (A : Option Addr) (n c : Nat) (Ls : List Int), Rd w (.slice A n c) Ls → Calls Tryz.prog fn #[.slice A n c] w fun e w' => e = .returned (.bool true) ∧ Hid (Below w.heap.size w w'))
    {H : Type} {enc : TypeId × Value → H} {W : World} {args : Array Value} {ds gs : List (DataW H)} {before : List MemPlace}
    {base : Nat} (hval : ∀ (j : Nat) t v, f.params[j]? = some t → args[j]? = some v → Value.okWide Tryz.prog W .any base t v)
    (hW : DataW.Whole enc Tryz.prog f.params.toList s.vars false W args.toList ds gs before) :
    Calls Tryz.prog fn args W fun e W' => ∃ v, e = .returned v ∧ s.post enc Tryz.prog f false true false false W args v W' := by
  have hW' := hW
  obtain ⟨p, q, hA, hV, rfl, hfz, hnd⟩ := hW
  rw [hp] at hA
  rw [hs] at hV
  obtain ⟨v0, vs0, d0, ds0, p0, q0, hargs, rfl, rfl, h0, r0⟩ := trodAll_cons hA
  obtain ⟨rfl, rfl, rfl⟩ := trodAll_nil r0
  obtain rfl : args = #[v0] := by cases args; simp_all
  obtain ⟨rfl, rfl⟩ := trodVars_none hV
  have hp0 : f.params[0]? = some 22 := by
    have : f.params.toList[0]? = some 22 := by rw [hp]; rfl
    simpa using this
  obtain ⟨a0, len, cap, rfl⟩ := okWide_slice Tryz.underlying22 (hval 0 22 v0 hp0 rfl)
  obtain ⟨fuel, hf⟩ := h0
  simp only [List.append_nil] at hW'
  have hres : ∀ (ds : List (DataW H)) (W' : World) (b : Nat) (sp : Nat → Bool) (hd : Bool) (d : DataW H), ds = [d] → DataW.TrodAll enc Tryz.prog W' b sp hd f.resultTypes.toList ((Value.bool true).resultList f.resultTypes.size) (s.fn H (ds ++ [])).results [] := fun ds W' b sp hd d e => by
    subst e
    rw [hr, List.append_nil, hsp]
    exact trodAll_cons_mk (shut_bool Tryz.underlying4 _) trodAll_mk0
  have hok : ∀ W' : World, ∀ (j : Nat) (t : TypeId) (r : Value), f.resultTypes[j]? = some t → ((Value.bool true).resultList f.resultTypes.size)[j]? = some r → Value.okWide Tryz.prog W' .any 0 t r := fun W' => by
    exact ok_one hr rfl (okWide_bool_mk Tryz.underlying4 _)
  rcases open_ints Tryz.underlying22 Tryz.underlying3 cells3 hf with ⟨hcs, hx⟩ | ⟨a, len', cap', zs, hcs, _, hl, hm, hz, hx, hcell, hwz⟩
  · simp [Value.cells] at hcs
    obtain ⟨rfl, rfl, rfl⟩ := hcs
    simp only [Prod.mk.injEq] at hx
    obtain ⟨rfl, rfl⟩ := hx
    refine (walk W none 0 0 [] (Rd.nil W)).mono fun e W' ⟨he, hg⟩ => ?_
    subst he
    refine ⟨_, rfl, post_of_below (pa := []) (pv := []) hW' (fun b sp hd => hres _ W' b sp hd _ rfl) (fun sp _ => ?_) (fun _ _ => ?_) rfl hg.out (hok W')⟩
    · rw [hp, List.append_nil, hsp]
      exact trodAll_cons_mk (shut_slice_nil Tryz.underlying22) trodAll_mk0
    · rw [hs, List.append_nil, hsp]; rfl
  · simp [Value.cells] at hcs
    obtain ⟨rfl, rfl, rfl⟩ := hcs
    simp only [Prod.mk.injEq] at hx
    obtain ⟨rfl, rfl⟩ := hx
    simp only [if_true] at hz
    have hlt : ∀ i, i < zs.length → a.block < W.heap.size := fun i hi => by
      have := World.block_lt_of_cell? W _ (hcell i hi)
      rwa [block_add] at this
    have hrd : Rd W (.slice (some a) len cap) (zs.take len) := by
      have hlen : (zs.take len).length = len := by rw [List.length_take]; omega
      refine ⟨some a, cap, by rw [hlen], by rw [hlen]; exact hl, hm, fun hpos => ?_⟩
      rw [hlen] at hpos
      obtain ⟨b, off, spot⟩ := a
      have hspot : spot = none := by simpa [Addr.add] using World.cell?_spot (hcell 0 (by omega))
      subst hspot
      refine ⟨b, off, rfl, fun i hi => ?_⟩
      rw [hlen] at hi
      rw [← Go.Proofs.YtllpoaoboieijaaGreat.add_plain, hcell i (by omega)]
      simp [List.getD, List.getElem?_eq_getElem (show i < zs.length by omega)]
    refine (walk W (some a) len cap (zs.take len) hrd).mono fun e W' ⟨he, hg⟩ => ?_
    subst he
    have hcell' : ∀ i, i < zs.length → W'.cell? (a.add i) = some (.int .i64 (zs.getD i 0)) := fun i hi => by
      rw [hg.out.cell (p := a.add i) (by rw [block_add]; exact hlt i hi)]
      exact hcell i hi
    have again : ∀ sp : Nat → Bool, (∀ p ∈ MemPlace.row a zs.length, sp p.block = true) → DataW.TrodAll enc Tryz.prog W' 0 sp true [22] [.slice (some a) len cap] [.slice (lits .i64 (zs.take len)) (lits .i64 (zs.drop len))] (MemPlace.row a zs.length) := by
      intro sp hsp
      by_cases hz0 : zs.length = 0
      · have hc0 : cap = 0 := by omega
        have hl0 : len = 0 := by omega
        subst hc0; subst hl0
        have t0 := shut_ints (enc := enc) (w := W') (base := 0) (spare := sp) (held := true) (a := a) (len := 0) (cap := 0) (zs := zs) 0 Tryz.underlying22 Tryz.underlying3 cells3 (Nat.zero_le _) (Nat.le_refl _) hm (by simp [hz0]) hcell' hwz
        exact trodAll_mk1 ⟨2, by simpa [Value.cells] using t0⟩
      · have hspb : sp a.block = true := by
          have := hsp (.cell a.block a.off) (MemPlace.mem_row.2 ⟨0, by omega, by simp⟩)
          exact this
        have t0 := shut_ints (enc := enc) (w := W') (base := 0) (spare := sp) (held := true) (a := a) (len := len) (cap := cap) (zs := zs) 0 Tryz.underlying22 Tryz.underlying3 cells3 (Nat.zero_le _) hl hm (by simp [hspb, hz]) hcell' hwz
        exact trodAll_mk1 ⟨2, by simpa [Value.cells] using t0⟩
    refine ⟨_, rfl, post_of_below (pa := MemPlace.row a zs.length) (pv := []) hW' (fun b sp hd => hres _ W' b sp hd _ rfl) (fun sp hsb => ?_) (fun _ _ => ?_) (by simp) hg.out (hok W')⟩
    · rw [hp, List.append_nil, hsp]
      exact again sp (by simpa using hsb)
    · rw [hs, List.append_nil, hsp]; rfl

set_option maxRecDepth 100000 in
theorem serveAlone_lifted (os : Os) (started : os.Started) (H : Type) (enc : TypeId × Value → H) :
    ReturnsInHanded {} Tryz.checked os 3 .any (Rows.serveAloneSpec.pre6 enc Tryz.prog Tryz.f3 Rows.serveAloneRow.domain false) (Rows.serveAloneSpec.post enc Tryz.prog Tryz.f3 false true false false) := by
  refine returnsInHanded_of_change (C := Tryz.checked) rowOwn started (by kernel_rfl) Tryz.func3
    (ChangeSpec.witness6 (enc := enc) (C := Tryz.checked) false ⟨#[], #[.slice none 0 0], []⟩ 8 (by kernel_rfl) (by kernel_rfl) (by kernel_rfl) (by kernel_rfl)) ?_
  intro W base args ds gs before hval hW _ _
  refine serve_row 3 Tryz.f3 Rows.serveAloneSpec rfl (fun _ _ => rfl) (by rw [Tryz.params3]) (by kernel_rfl) law_walk hval hW

theorem serveAlone_holds : Rows.ServeAloneSaid :=
  OpenClaim.holds_of_wide 3 Tryz.f3 rfl rfl rfl rfl rfl rfl rfl ⟨rfl, rfl, rfl, rfl, rfl⟩ rfl rfl rfl rfl rfl (by kernel_rfl) Tryz.func3 (by kernel_rfl)
    (of_decide_eq_true (by kernel_rfl)) (by unfold Func.isWrapper; first | (rw [if_pos (by decide +kernel)]; kernel_rfl) | (rw [if_neg (by decide +kernel)]; exact ⟨rfl, rfl⟩))
    (fun os started H enc _ => serveAlone_lifted os started H enc)

end Go.Proofs.YtllpoaoboieijaaGreat
