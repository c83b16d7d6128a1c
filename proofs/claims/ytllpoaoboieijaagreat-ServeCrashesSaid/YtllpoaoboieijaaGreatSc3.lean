/-
  number: the number of some bytes.
  bytes.Equal of what is equal, bytes.Clone, Log, Synced.
  Cancel of a request.
  readRecord.
-/
import Derived.Laws.BytesArg
import Derived.Test.YtllpoaoboieijaaGreatSc2
/-
  number: the number of some bytes.
-/
namespace Go.Proofs.YtllpoaoboieijaaGreat
open Go.RowKit

def numTo (l : List Int) : Nat → Int
  | 0 => 0
  | i + 1 => bits BinOp.or IntKind.i64 (numTo l i) (wrap64 (wrap64 (l.getD i 0) * 2 ^ (8 * i)))
theorem ofInt_nat (a : Nat) (ha : a < 9223372036854775808) : (BitVec.ofInt 64 (a : Int)).toNat = a := by
  rw [BitVec.toNat_ofInt]
  show ((a : Int) % 18446744073709551616).toNat = a
  omega
theorem or_add (a x : Nat) (i : Nat) (hi : i < 4) (ha : a < 2 ^ (8 * i)) (hx : x < 256) : bits BinOp.or IntKind.i64 (a : Int) (wrap64 (wrap64 (x : Int) * 2 ^ (8 * i))) = (a : Int) + x * 2 ^ (8 * i) := by
  have hp : (2 : Nat) ^ (8 * i) ≤ 16777216 := by
    have : 8 * i ≤ 24 := by omega
    exact Nat.le_trans (Nat.pow_le_pow_right (by decide) this) (by decide)
  have e1 : wrap64 (x : Int) = (x : Int) := wrap64_in (by omega)
  have e2 : (x : Int) * 2 ^ (8 * i) = ((2 ^ (8 * i) * x : Nat) : Int) := by push_cast; exact Int.mul_comm _ _
  have hb : 2 ^ (8 * i) * x < 4294967296 := by
    have : 2 ^ (8 * i) * x ≤ 16777216 * 255 := Nat.mul_le_mul hp (by omega)
    omega
  rw [e1, e2, wrap64_in (by omega)]
  have hor : a ||| 2 ^ (8 * i) * x = 2 ^ (8 * i) * x + a := by
    rw [Nat.or_comm]; exact (Nat.two_pow_add_eq_or_of_lt ha x).symm
  show IntKind.i64.wrap ((BitVec.ofInt 64 (a : Int) ||| BitVec.ofInt 64 ((2 ^ (8 * i) * x : Nat) : Int)).toNat : Int) = _
  rw [BitVec.toNat_or, ofInt_nat a (by omega), ofInt_nat _ (by omega), hor, IntWalk.i64_in _ (by omega)]
  omega
theorem numTo_low (n : Int) (l : List Int) : ∀ i, i ≤ 4 → (∀ j, j < i → l.getD j 0 = shr8 j n % 256) → numTo l i = n % 256 ^ i := by
  have step : ∀ i, i < 4 → l.getD i 0 = shr8 i n % 256 → numTo l i = n % 256 ^ i → 0 ≤ n % 256 ^ i → n % 256 ^ i < 2 ^ (8 * i) → numTo l (i + 1) = n % 256 ^ i + (shr8 i n % 256) * 2 ^ (8 * i) := by
    intro i hi hj hn h0 h1
    rw [numTo, hj, hn]
    obtain ⟨a, ha⟩ : ∃ a : Nat, n % 256 ^ i = (a : Int) := ⟨(n % 256 ^ i).toNat, (Int.toNat_of_nonneg h0).symm⟩
    obtain ⟨x, hx⟩ : ∃ x : Nat, shr8 i n % 256 = (x : Int) := ⟨(shr8 i n % 256).toNat, by omega⟩
    rw [ha] at h1 ⊢
    rw [hx]
    exact or_add a x i hi (by exact_mod_cast h1) (by omega)
  intro i hi hj
  match i, hi with
  | 0, _ => simp [numTo]
  | 1, _ =>
    have a0 := step 0 (by omega) (hj 0 (by omega)) (by simp [numTo]) (by simp) (by simp)
    simp [shr8] at a0 ⊢; omega
  | 2, _ =>
    have a0 := step 0 (by omega) (hj 0 (by omega)) (by simp [numTo]) (by simp) (by simp)
    have b0 : numTo l 1 = n % 256 ^ 1 := by simp [shr8] at a0 ⊢; omega
    have a1 := step 1 (by omega) (hj 1 (by omega)) b0 (by simp; omega) (by simp; omega)
    simp [shr8] at a1 ⊢; omega
  | 3, _ =>
    have a0 := step 0 (by omega) (hj 0 (by omega)) (by simp [numTo]) (by simp) (by simp)
    have b0 : numTo l 1 = n % 256 ^ 1 := by simp [shr8] at a0 ⊢; omega
    have a1 := step 1 (by omega) (hj 1 (by omega)) b0 (by simp; omega) (by simp; omega)
    have b1 : numTo l 2 = n % 256 ^ 2 := by simp [shr8] at a1 ⊢; omega
    have a2 := step 2 (by omega) (hj 2 (by omega)) b1 (by simp; omega) (by simp; omega)
    simp [shr8] at a2 ⊢; omega
  | 4, _ =>
    have a0 := step 0 (by omega) (hj 0 (by omega)) (by simp [numTo]) (by simp) (by simp)
    have b0 : numTo l 1 = n % 256 ^ 1 := by simp [shr8] at a0 ⊢; omega
    have a1 := step 1 (by omega) (hj 1 (by omega)) b0 (by simp; omega) (by simp; omega)
    have b1 : numTo l 2 = n % 256 ^ 2 := by simp [shr8] at a1 ⊢; omega
    have a2 := step 2 (by omega) (hj 2 (by omega)) b1 (by simp; omega) (by simp; omega)
    have b2 : numTo l 3 = n % 256 ^ 3 := by simp [shr8] at a2 ⊢; omega
    have a3 := step 3 (by omega) (hj 3 (by omega)) b2 (by simp; omega) (by simp; omega)
    simp [shr8] at a3 ⊢; omega
theorem lowL_get (n : Int) : ∀ (k j : Nat), j < k → (lowL n k).getD j 0 = shr8 j n % 256
  | k + 1, j, h => by
    by_cases e : j = k
    · subst e
      rw [lowL, List.getD, List.getElem?_append_right (by rw [lowL_length]; omega)]
      simp [lowL_length]
    · have := lowL_get n k j (by omega)
      rw [lowL, List.getD, List.getElem?_append_left (by rw [lowL_length]; omega)]
      exact this
theorem num_low4 (n : Int) : numTo (lowL n 4) 4 = n % 4294967296 := numTo_low n _ 4 (by omega) fun j hj => lowL_get n 4 j hj
theorem num_low2 (n : Int) : numTo (lowL n 2) 2 = n % 65536 := numTo_low n _ 2 (by omega) fun j hj => lowL_get n 2 j hj
theorem bits_u32 (op : BinOp) (a b : Int) : 0 ≤ bits op IntKind.u32 a b ∧ bits op IntKind.u32 a b < 4294967296 := by
  unfold bits
  have h : ∀ x, 0 ≤ IntKind.u32.wrap x ∧ IntKind.u32.wrap x < 4294967296 := fun x => by
    have : IntKind.u32.wrap x = x % 4294967296 := by simp [IntKind.wrap, IntKind.signed, IntKind.bits]
    omega
  exact h _
theorem crcOf_in (l : List Int) : 0 ≤ crcOf l ∧ crcOf l < 4294967296 := by
  unfold crcOf
  have := bits_u32 BinOp.xor IntKind.u32.max (crcTo l l.length)
  rw [wrap64_in (by omega)]
  exact this

set_option maxRecDepth 100000 in
set_option maxHeartbeats 800000 in
theorem num_any (l : List Int) (hl : l.length ≤ 4) (A : Option Addr) (c : Nat) (w : World) (h : RdV w (.slice A l.length c) (bys l)) : Calls Tryz.prog 48 #[.slice A l.length c] w fun e w' => e = .returned (.int .i64 (numTo l l.length)) ∧ w' = w := by
  have H := Lib.hid h
  have HL := Lib.hid hl
  clear h hl
  go_enter Tryz.func48, Tryz.ntmps48
  go_wp2
  go_loopg [3, 8] l.length (fun gk s3 s8 wx => ∃ i : Nat, s8 = .int .i64 i ∧ i ≤ l.length ∧ s3 = .int .i64 (numTo l i) ∧ wx = w ∧ gk = l.length - i)
  case atStart => exact ⟨0, rfl, Nat.zero_le _, rfl, rfl, rfl⟩
  case round =>
    obtain ⟨i, rfl, hil, rfl, rfl, rfl⟩ := hrel
    have hl4 := HL.out
    by_cases hlt : i < l.length
    · obtain ⟨b, o, c', hv, hcell⟩ := H.out.get (i := i) (by rw [bys_length]; exact hlt)
      have hA : A = some ⟨b, o, none⟩ := by injection hv
      subst hA
      have hcell2 : wr.cell? ⟨b, o + i, none⟩ = some (.int .u8 (l.getD i 0)) := by rw [hcell]; simp [bys, List.getD, hlt]
      clear hv hcell
      have hi4 : (i : Int) < 4 := by omega
      generalize hli : l.getD i 0 = li at hcell2
      have HLI := Lib.hid hli
      clear hli
      have HN := Lib.hid (show numTo l (i + 1) = bits BinOp.or IntKind.i64 (numTo l i) (wrap64 (wrap64 li * 2 ^ (8 * i))) by rw [← HLI.out]; rfl)
      generalize numTo l i = ni at HN
      go_wp2
      go_roundg (l.length - (i + 1))
      case measure => omega
      case rel => exact ⟨i + 1, by go_num, by omega, by rw [HN.out], rfl, rfl⟩
    · have hi : i = l.length := by omega
      subst hi
      go_wp2
      go_ret
      exact ⟨rfl, rfl⟩
end Go.Proofs.YtllpoaoboieijaaGreat
/-
  bytes.Equal of what is equal, bytes.Clone, Log, Synced.
-/
namespace Go.Proofs.YtllpoaoboieijaaGreat
open Go.RowKit

theorem rdv_cells {w : World} {b o n c : Nat} {l : List Int} (h : RdV w (.slice (some ⟨b, o, none⟩) n c) (bys l)) (hn : n = l.length) : ∀ i, i < n → w.cell? ((⟨b, o, none⟩ : Addr).add i) = some (.int .u8 (l.getD i 0)) := by
  intro i hi
  obtain ⟨b', o', c', hv, hc⟩ := h.get (i := i) (by rw [bys_length]; omega)
  have hbb : b' = b ∧ o' = o := by injection hv with e1; injection e1 with e1; injection e1 with e2 e3; exact ⟨e2.symm, e3.symm⟩
  obtain ⟨rfl, rfl⟩ := hbb
  rw [add_plain, hc]
  simp [bys, List.getD, show i < l.length by omega]
set_option maxRecDepth 100000 in
set_option maxHeartbeats 800000 in
theorem bytesEqual_same (l : List Int) (b1 o1 b2 o2 n c1 c2 : Nat) (hn : n = l.length) (w : World) (h1 : RdV w (.slice (some ⟨b1, o1, none⟩) n c1) (bys l)) (h2 : RdV w (.slice (some ⟨b2, o2, none⟩) n c2) (bys l)) :
    Calls Tryz.prog 50 #[.slice (some ⟨b1, o1, none⟩) n c1, .slice (some ⟨b2, o2, none⟩) n c2] w fun e w' => e = .returned (.bool true) ∧ w' = w := by
  have k1 := run_convert_bytes_arg (P := Tryz.prog) w 56 5 Tryz.underlying56 Tryz.underlying5 b1 o1 n c1 l hn.symm (fun i hi => by rw [← add_plain]; exact rdv_cells h1 hn i hi) 9 Tryz.underlying9
  have k2 := run_convert_bytes_arg (P := Tryz.prog) w 56 5 Tryz.underlying56 Tryz.underlying5 b2 o2 n c2 l hn.symm (fun i hi => by rw [← add_plain]; exact rdv_cells h2 hn i hi) 9 Tryz.underlying9
  clear h1 h2 hn
  go_enter Tryz.func50, Tryz.ntmps50
  go_wp2
  go_ret
  exact ⟨by simp, rfl⟩
theorem one_bys (l : List Int) : ∀ u ∈ bys l, u.oneCell' = true := by
  intro u hu
  obtain ⟨x, -, rfl⟩ := List.mem_map.1 hu
  rfl
set_option maxRecDepth 100000 in
set_option maxHeartbeats 800000 in
theorem bclone_any (l : List Int) (b o n c : Nat) (hn : n = l.length) (h0 : 0 < n) (hbig : n ≤ 100000000) (w : World) (h : RdV w (.slice (some ⟨b, o, none⟩) n c) (bys l)) :
    Calls Tryz.prog 53 #[.slice (some ⟨b, o, none⟩) n c] w fun e w' => ∃ g c', e = .returned (.slice (some ⟨g, 0, none⟩) n c') ∧ Hid (Below w.heap.size w w') ∧ Hid (w.heap.size ≤ g) ∧ Hid (RdV w' (.slice (some ⟨g, 0, none⟩) n c') (bys l)) := by
  have hcells := rdv_cells h hn
  have hnews : ∀ (j : Nat) u, (bys l)[j]? = some u → (w.alloc (.cells #[] 5)).cell? ((⟨b, o, none⟩ : Addr).add j) = some u := fun j u hj => by
    have hjl : j < l.length := by
      have := (List.getElem?_eq_some_iff.1 hj).1
      rw [bys_length] at this; exact this
    have hc := hcells j (by omega)
    have hlt := World.block_lt_of_cell? w _ hc
    rw [World.cell?_of_block (w := w) (Below.heap_alloc _ _ _ hlt), hc, ← hj]
    simp [bys, List.getD, hjl]
  have hown : (w.alloc (.cells #[] 5)).ownsRow w.heap.size 5 1 (.slice (some ⟨w.heap.size, 0, none⟩) 0 0) 0 [] :=
    ⟨rfl, .inr ⟨w.heap.size, 0, #[], rfl, Nat.le_refl _, heap_alloc_new w _, Nat.le_refl _, Nat.zero_le _, rfl, rfl⟩⟩
  have HNEWS := Lib.hid hnews
  have HOWN := Lib.hid hown
  have HN := Lib.hid (And.intro hn (And.intro h0 hbig))
  have HIL := Lib.hid (show (bys l).length = n * 1 by rw [bys_length]; omega)
  clear h hcells hnews hown hn h0 hbig
  obtain ⟨i0, hi, hz0, hz1, hz2⟩ := info_parts info5
  have heq : (binOp .eql 56 (.slice (some ⟨b, o, none⟩) n c) (.slice none 0 0)).run Tryz.prog w = .ok (.bool false) w := Lib.run_eql_slice_nil w 56 5 (some ⟨b, o, none⟩) n c 0 0 Tryz.underlying56
  go_enter Tryz.func53, Tryz.ntmps53
  go_wp2_with (at_builtin; refine wpList_append_lies _ rfl _ _ 56 rfl w.heap.size 5 i0 (.int .u8 0) 1 1 Tryz.underlying56 hi hz0 hz1 hz2 rfl (by decide) _ 0 [] rfl HOWN.out ⟨b, o, none⟩ n c (bys l) rfl HIL.out HNEWS.out (one_bys _) HN.out.2.1 (by have := HN.out.2.2; unfold maxLen; omega) (by have := HN.out.2.2; omega) (alloc_le _ _) _ rfl ?_; intro g cap w3 hown3 hgrow hat hlt3; have HO := Lib.hid hown3; have HG := Lib.hid hgrow; clear hown3 hgrow hat hlt3)
  go_ret
  have ho := HO.out
  simp only [List.nil_append, Nat.zero_add] at ho ⊢
  refine ⟨g, cap, rfl, Lib.hid (((Below.refl _ _).alloc (Nat.le_refl _) _).trans (Below.ofGrown HG.out (alloc_le _ _) (ownsRow_base HOWN.out))), Lib.hid ((ho.lt g rfl).1), Lib.hid ?_⟩
  have hl : (bys l).length = n := by have := HIL.out; omega
  rcases ho.2 with ⟨hv, -⟩ | ⟨g', cap', cur, hv, a3, a4, a5, a6, a7, a8⟩
  · cases hv
  · injection hv with e1 e2 e3
    injection e1 with e1
    injection e1 with e1
    subst e1 e3
    refine ⟨_, cap, by rw [hl], by omega, a6, fun _ => ⟨g, 0, rfl, fun i hi => ?_⟩⟩
    unfold World.cell?
    simp only [a4, Nat.zero_add]
    simp only [Nat.mul_one] at a8
    have : (bys l)[i]? = cur.toList[i]? := by rw [← a8, List.getElem?_take]; simp; omega
    rw [List.getElem?_eq_getElem hi] at this
    simpa using this.symm
theorem Owns.logrd {own : Nat → Lb} {lb : Lb} {w : World} {v : Value} {l : List Int} (h : Owns own lb w 5 1 v l.length (l.map (Value.int .u8))) (h0 : 0 < l.length) : ∃ g c, v = .slice (some ⟨g, 0, none⟩) l.length c ∧ RdV w v (bys l) ∧ own g = lb := by
  have hrd : RdV w v (bys l) := by
    have h' : Owns own lb w 5 1 v (bys l).length (bys l) := by rw [bys_length]; exact h
    exact h'.rdv
  obtain ⟨A, c, hv, -, e⟩ := h.shape
  rcases e with e | ⟨g, rfl⟩
  · omega
  · exact ⟨g, c, hv, hrd, h.2 g (by rw [hv]; rfl)⟩
set_option maxRecDepth 100000 in
set_option maxHeartbeats 800000 in
theorem log_any (own : Nat → Lb) (sb : Nat) (L : Lay) (S : Srv) (w : World) (h : SrvAt own w sb L S) (h0 : 0 < S.log.length) (hbig : S.log.length ≤ 100000000) :
    Calls Tryz.prog 23 #[.pointer (some ⟨sb, 0, none⟩)] w fun e w' => ∃ g c, e = .returned (.slice (some ⟨g, 0, none⟩) S.log.length c) ∧ Hid (Below w.heap.size w w') ∧ Hid (w.heap.size ≤ g) ∧ Hid (RdV w' (.slice (some ⟨g, 0, none⟩) S.log.length c) (bys S.log)) := by
  obtain ⟨g, c, hv, hrd, -⟩ := h.log.logrd h0
  have c2 := h.blk.cell
  simp only [srvCells] at c2
  rw [hv] at c2 hrd
  have HC := Lib.hid (bclone_any S.log g 0 S.log.length c rfl h0 hbig w hrd)
  clear hrd h0 hbig hv h
  go_enter Tryz.func23, Tryz.ntmps23
  go_wp2_with (go_at_call 53; refine HC.out.mono ?_; rintro e w1 ⟨g1, c1, rfl, HB, HG, HR⟩)
  go_ret
  exact ⟨g1, c1, rfl, HB, HG, HR⟩
end Go.Proofs.YtllpoaoboieijaaGreat
/-
  Cancel of a request.
-/
namespace Go.Proofs.YtllpoaoboieijaaGreat
open Go.RowKit

theorem two_rdv (w : World) (k x : Int) : RdV (w.alloc (.cells #[.int .i64 k, .int .i64 x] 3)) (.slice (some ⟨w.heap.size, 0, none⟩) (([x] : List Int).length + 1) 2) (ints (k :: [x])) := by
  refine ⟨_, 2, rfl, Nat.le_refl _, by unfold maxLen; omega, fun _ => ⟨w.heap.size, 0, rfl, fun i hi => ?_⟩⟩
  have hb := news_blk w [.int .i64 k, .int .i64 x] 3
  rw [Nat.zero_add]
  exact (hb.cell i).trans (List.getElem?_eq_getElem hi)
set_option maxRecDepth 100000 in
set_option maxHeartbeats 800000 in
theorem cancel_ended (own : Nat → Lb) (sb : Nat) (L : Lay) (S : Srv) (r : Req) (w : World) (h : SrvAt own w sb L S) (hg : S.get r.id = some r) (he : r.ended = true) :
    Calls Tryz.prog 21 #[.pointer (some ⟨sb, 0, none⟩), .int .i64 r.id] w fun e w' => e = .returned (.int .i64 17) ∧ ∃ k, w' = w.drewN k := by
  have c2 := h.blk.cell
  simp only [srvCells] at c2
  have d2 := (h.req r (get_mem hg).1).blk.cell
  simp only [reqCells] at d2
  rw [he] at d2
  have H := Lib.hid h
  have HG := Lib.hid hg
  clear h hg he
  go_enter Tryz.func21, Tryz.ntmps21
  go_wp2_with (at_lookup; refine wl_lookup H.out rfl _ _ rfl rfl r.id rfl ?_; rw [HG.out]; unfold ptrOf)
  go_ret
  exact ⟨rfl, ⟨0, rfl⟩⟩
set_option maxRecDepth 100000 in
set_option maxHeartbeats 1600000 in
theorem cancel_open (own : Nat → Lb) (sb : Nat) (L : Lay) (S : Srv) (r : Req) (w : World) (h : SrvAt own w sb L S) (hi : CInv S) (hrec : S.records ≤ 10000) (hg : S.get r.id = some r) (he : r.ended = false) :
    Calls Tryz.prog 21 #[.pointer (some ⟨sb, 0, none⟩), .int .i64 r.id] w fun e w' => e = .returned (.int .i64 0) ∧ Goes own sb L Tin (S.cancelled r) w w' := by
  have hm := (get_mem hg).1
  have hwr := hi.wf.req r hm
  have hent := hwr.ent
  have c2 := h.blk.cell
  simp only [srvCells] at c2
  have d2 := (h.req r hm).blk.cell
  simp only [reqCells] at d2
  rw [he] at d2
  have H := Lib.hid h
  have HG := Lib.hid hg
  have HF := Lib.hid (full_any own sb L S w h)
  have hfl : decide (20000 ≤ S.records) = false := decide_eq_false (by omega)
  rw [hfl] at HF
  have HE := Lib.hid (end_any own sb L S r 19 w h hm (fun k hk => hwr.hold k hk) hi.wf.n1 (by omega))
  have HLG := Lib.hid (show (S.endReq r 19).log.length ≤ 10000000 from by
    show S.log.length ≤ 10000000
    have := hi.log; omega)
  clear h hg he hfl hm hwr hent hi hrec
  go_enter Tryz.func21, Tryz.ntmps21
  go_wp2_with (first
    | (at_lookup; refine wl_lookup H.out rfl _ _ rfl rfl r.id rfl ?_; rw [HG.out]; unfold ptrOf)
    | (go_at_call 34; refine HF.out.mono ?_; rintro e w1 ⟨rfl, rfl⟩)
    | (go_at_call 36; refine HE.out.mono ?_; rintro e w1 ⟨rfl, own1, L1, h1, hrb1, x1⟩; have HR := Lib.hid (record_any _ sb L1 (S.endReq r 19) 2 [r.id] w1.heap.size 0 2 _ (h1.free (Ext.alloc (own := own1) (w := w1) (.cells #[.int .i64 2, .int .i64 r.id] 3) (fun _ => False) .other) (fun _ f => f.elim)) (two_rdv w1 2 r.id) (by simp) HLG.out); have XA := Lib.hid ((x1.mono (Tin_gb _)).trans (Ext.alloc (own := own1) (w := w1) (.cells #[.int .i64 2, .int .i64 r.id] 3) Tin .other)); have HRB1 := Lib.hid hrb1; clear h1 hrb1 x1)
    | (go_at_call 33; refine HR.out.mono ?_; rintro e w6 ⟨rfl, own6, L6, h6, hrb6, x6⟩; have H6 := Lib.hid h6; have HRB6 := Lib.hid hrb6; have X6 := Lib.hid x6; clear h6 hrb6 x6)
    | (go_at_call 38; refine (settle_any own6 sb L6 _ _ H6.out).mono ?_; rintro e w7 ⟨rfl, hg7⟩; have HG7 := Lib.hid hg7; clear hg7))
  go_ret
  obtain ⟨own7, L7, h7, hrb7, x7⟩ := HG7.out
  exact ⟨rfl, own7, L7, h7, (hrb7.trans HRB6.out).trans HRB1.out, (XA.out.trans X6.out).trans x7⟩
end Go.Proofs.YtllpoaoboieijaaGreat
/-
  readRecord.
-/
namespace Go.Proofs.YtllpoaoboieijaaGreat
open Go.RowKit

theorem num_at (l : List Int) (n : Nat) (hn : n = l.length) (h4 : n ≤ 4) (x : Int) (hx : numTo l n = x) (A : Option Addr) (c : Nat) (w : World) (h : RdV w (.slice A n c) (bys l)) : Calls Tryz.prog 48 #[.slice A n c] w fun e w' => e = .returned (.int .i64 x) ∧ w' = w := by
  subst hn; subst hx; exact num_any l h4 A c w h
theorem code_at (l : List Int) (n : Nat) (hn : n = l.length) (x : Int) (hx : crcOf l = x) (A : Option Addr) (c : Nat) (w : World) (h : RdV w (.slice A n c) (bys l)) : Calls Tryz.prog 49 #[.slice A n c] w fun e w' => e = .returned (.int .i64 x) ∧ w' = w := by
  subst hn; subst hx; exact code_any l A c w h
/-- A part of some bytes. -/
theorem rdv_part {w : World} {b o n c : Nat} {l : List Int} (h : RdV w (.slice (some ⟨b, o, none⟩) n c) (bys l)) (hn : n = l.length) (lo m : Nat) (hm : lo + m ≤ n) : RdV w (.slice (some ⟨b, o + lo, none⟩) m (c - lo)) (bys ((l.drop lo).take m)) := by
  have hcells := rdv_cells h hn
  obtain ⟨A0, c0, hv, h1, h2, -⟩ := h
  have hc : c = c0 := by injection hv
  subst hc
  rw [bys_length] at h1
  have hl : ((l.drop lo).take m).length = m := by simp; omega
  refine ⟨_, c - lo, by rw [bys_length, hl], by rw [bys_length, hl]; omega, by omega, fun _ => ⟨b, o + lo, rfl, fun i hi => ?_⟩⟩
  rw [bys_length, hl] at hi
  have := hcells (lo + i) (by omega)
  rw [add_plain, ← Nat.add_assoc] at this
  rw [this]
  simp [bys, List.getD, show lo + i < l.length by omega]
theorem rdv_first {w : World} {b o n c : Nat} {l : List Int} (h : RdV w (.slice (some ⟨b, o, none⟩) n c) (bys l)) (hn : n = l.length) (m : Nat) (hm : m ≤ n) : RdV w (.slice (some ⟨b, o, none⟩) m c) (bys (l.take m)) := by
  have := rdv_part h hn 0 m (by omega)
  simpa using this
/-- The rest of some bytes, wherever an empty rest lies. -/
theorem rdv_rest {w : World} {b o n c : Nat} {l : List Int} (h : RdV w (.slice (some ⟨b, o, none⟩) n c) (bys l)) (hn : n = l.length) (lo : Nat) (hm : lo ≤ n) (A : Option Addr) (hA : c ≠ lo → A = some ⟨b, o + lo, none⟩) : RdV w (.slice A (n - lo) (c - lo)) (bys (l.drop lo)) := by
  by_cases e : c = lo
  · obtain ⟨A0, c0, hv, h1, h2, -⟩ := h
    have hc : c = c0 := by injection hv
    subst hc
    rw [bys_length] at h1
    have hl : (l.drop lo).length = n - lo := by simp; omega
    exact ⟨A, c - lo, by rw [bys_length, hl], by rw [bys_length, hl]; omega, by omega, fun h0 => by rw [bys_length, hl] at h0; omega⟩
  · rw [hA e]
    have := rdv_part h hn lo (n - lo) (by omega)
    rwa [List.take_of_length_le (by simp; omega)] at this
theorem RdV.caps {w : World} {A : Option Addr} {n c : Nat} {xs : List Value} (h : RdV w (.slice A n c) xs) : n = xs.length ∧ n ≤ c ∧ c ≤ maxLen := by
  obtain ⟨A0, c0, hv, h1, h2, -⟩ := h
  injection hv with e1 e2 e3
  subst e2 e3
  exact ⟨rfl, h1, h2⟩

set_option maxRecDepth 100000 in
set_option maxHeartbeats 1600000 in
/-- Too few bytes. -/
theorem read_short (own : Nat → Lb) (sb : Nat) (L : Lay) (S : Srv) (w : World) (_h : SrvAt own w sb L S) (A : Option Addr) (n c : Nat) (hn : n < 10) :
    Calls Tryz.prog 51 #[.pointer (some ⟨sb, 0, none⟩), .slice A n c] w fun e w' => e = .returned (.tuple #[.slice none 0 0, .slice none 0 0, .bool false]) ∧ ∃ k, w' = w.drewN k := by
  have t1 : decide ((n : Int) < 10) = true := decide_eq_true (by omega)
  clear _h hn
  go_enter Tryz.func51, Tryz.ntmps51
  go_wp2
  go_ret3
  exact ⟨rfl, 0, rfl⟩
set_option maxRecDepth 100000 in
set_option maxHeartbeats 1600000 in
/-- A record that is not whole. -/
theorem read_part (own : Nat → Lb) (sb : Nat) (L : Lay) (S : Srv) (w : World) (_h : SrvAt own w sb L S) (l : List Int) (b o n c m : Nat) (hr : RdV w (.slice (some ⟨b, o, none⟩) n c) (bys l)) (h10 : 10 ≤ n) (hm : n < m + 10) (hbig : m ≤ 100000) (h2 : numTo (l.take 2) 2 = (m : Int)) :
    Calls Tryz.prog 51 #[.pointer (some ⟨sb, 0, none⟩), .slice (some ⟨b, o, none⟩) n c] w fun e w' => e = .returned (.tuple #[.slice none 0 0, .slice none 0 0, .bool false]) ∧ ∃ k, w' = w.drewN k := by
  have hcap := hr.caps
  have hn : n = l.length := by rw [hcap.1, bys_length]
  have t1 : decide ((n : Int) < 10) = false := decide_eq_false (by omega)
  have t2 : decide ((n : Int) < (m : Int) + 10) = true := decide_eq_true (by omega)
  have t3 : (2 : Int) ≤ (c : Int) := by omega
  have HN := Lib.hid (num_at (l.take 2) 2 (by simp; omega) (by omega) _ h2 (some ⟨b, o, none⟩) c w (rdv_first hr hn 2 (by omega)))
  have ws : IntKind.i64.wrap ((m : Int) + 10) = (m : Int) + 10 := IntWalk.i64_in _ (by omega)
  clear _h hr hcap hn h10 hm hbig h2
  go_enter Tryz.func51, Tryz.ntmps51
  go_upto_region 4 with (go_at_call 48; refine HN.out.mono ?_; rintro e w1 ⟨rfl, hw1⟩; subst hw1)
  go_quiet (fail)
  go_wp2
  go_ret3
  exact ⟨rfl, _, rfl⟩
end Go.Proofs.YtllpoaoboieijaaGreat
