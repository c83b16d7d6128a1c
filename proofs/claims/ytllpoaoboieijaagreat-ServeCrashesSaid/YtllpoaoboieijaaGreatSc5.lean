/-
  Resume: what is read of a log that was cut.
  Resume.
-/
import Derived.Test.YtllpoaoboieijaaGreatSc4
/-
  Resume: what is read of a log that was cut.
-/
namespace Go.Proofs.YtllpoaoboieijaaGreat
open Go.RowKit

structure RecFacts (rem : List Int) (j k : Int) (l : List Int) (rest : List Int) (m : Nat) : Prop where
  m1 : m = 1 + 4 * l.length
  h2 : rem.take 2 = lowL (m : Int) 2
  h6 : (rem.drop 2).take 4 = lowL j 4
  hs : (rem.drop (6 + m)).take 4 = lowL (crcOf (rem.take (6 + m))) 4
  bd : (rem.drop 6).take m = bodyL k l
  rs : rem.drop (10 + m) = rest
theorem take_app (a b : List Int) {n : Nat} (h : a.length = n) : (a ++ b).take n = a := by rw [← h]; simp
theorem drop_app (a b : List Int) {n : Nat} (h : a.length = n) : (a ++ b).drop n = b := by rw [← h]; simp
theorem rec_facts (j k : Int) (l : List Int) (rest : List Int) : RecFacts (recL j k l ++ rest) j k l rest (1 + 4 * l.length) := by
  have hb := bodyL_length k l
  have e : recL j k l ++ rest = lowL ((bodyL k l).length : Int) 2 ++ (lowL j 4 ++ (bodyL k l ++ (lowL (crcOf (headL j (bodyL k l))) 4 ++ rest))) := by
    simp only [recL, headL, List.append_assoc]
  have e6 : (recL j k l ++ rest).take (6 + (1 + 4 * l.length)) = headL j (bodyL k l) := by
    rw [recL, List.append_assoc]
    exact take_app _ _ (by simp only [headL, List.length_append, lowL_length, hb])
  refine ⟨rfl, ?_, ?_, ?_, ?_, ?_⟩
  · rw [e, take_app _ _ (lowL_length _ _), hb]
  · rw [e, drop_app _ _ (lowL_length _ _), take_app _ _ (lowL_length _ _)]
  · rw [e6]
    rw [recL, List.append_assoc, drop_app _ _ (by simp only [headL, List.length_append, lowL_length, hb]), take_app _ _ (lowL_length _ _)]
  · rw [e, ← List.append_assoc, drop_app _ _ (by simp [lowL_length]), take_app _ _ hb]
  · rw [show recL j k l ++ rest = recL j k l ++ rest from rfl, drop_app _ _ (by rw [recL_length]; omega)]
theorem part_facts (j k : Int) (l : List Int) (t : Nat) (h : 2 ≤ t) : ((recL j k l).take t).take 2 = lowL (((1 + 4 * l.length : Nat) : Int)) 2 := by
  have := (rec_facts j k l []).h2
  rw [List.append_nil] at this
  rw [List.take_take, Nat.min_eq_left h]; exact this
section
variable {cf : Cnf} {n : Nat} {c : Nat → Cmd} {f : Nat → Srv}
theorem Hist.log0 (h : Hist cf n c f) : (f 0).log = headB cf := by rw [h.zero]; rfl
theorem Hist.remA (h : Hist cf n c f) (hok : cf.ok = true) (hn : n ≤ 1000) {j k : Nat} (hj : j < n) (hk : (f (j + 1)).log.length ≤ k) :
    ((f n).log.take k).drop (f j).log.length = recL j (c j).kind (c j).args ++ ((f n).log.take k).drop (f (j + 1)).log.length := by
  obtain ⟨d, rfl⟩ : ∃ d, n = j + (d + 1) := ⟨n - j - 1, by omega⟩
  have e1 := h.tail hok hn (d + 1) j rfl
  have e2 := h.logs hok hn hj
  rw [Hist.rest, ← List.append_assoc, ← e2] at e1
  rw [e1, List.take_append, List.take_of_length_le hk, List.drop_append_of_le_length (by rw [e2]; simp), drop_app _ _ rfl, e2, drop_app _ _ rfl]
theorem Hist.remB (h : Hist cf n c f) (hok : cf.ok = true) (hn : n ≤ 1000) {j k : Nat} (hj : j < n) (hk0 : (f j).log.length ≤ k) (hk : k < (f (j + 1)).log.length) :
    ((f n).log.take k).drop (f j).log.length = (recL j (c j).kind (c j).args).take (k - (f j).log.length) ∧ k - (f j).log.length < (recL j (c j).kind (c j).args).length := by
  obtain ⟨d, rfl⟩ : ∃ d, n = j + (d + 1) := ⟨n - j - 1, by omega⟩
  have e1 := h.tail hok hn (d + 1) j rfl
  have e2 := h.logs hok hn hj
  have e3 : (f (j + 1)).log.length = (f j).log.length + (recL j (c j).kind (c j).args).length := by rw [e2, List.length_append]
  refine ⟨?_, by omega⟩
  rw [Hist.rest] at e1
  rw [e1, List.take_append, List.take_of_length_le hk0, drop_app _ _ rfl, List.take_append_of_le_length (by omega)]
theorem Hist.headk (h : Hist cf n c f) (hok : cf.ok = true) (hn : n ≤ 1000) {k : Nat} (hk : 28 ≤ k) : ((f n).log.take k).take 28 = headB cf := by
  have e1 := h.tail hok hn n 0 (by omega)
  rw [h.log0] at e1
  rw [List.take_take, Nat.min_eq_left hk, e1, take_app _ _ (headB_len cf)]
theorem headB_24 (cf : Cnf) : (headB cf).take 24 = headTo cf 4 := take_app _ _ (headTo_len cf 4)
theorem headB_28 (cf : Cnf) : ((headB cf).drop 24).take 4 = lowL (crcOf (headTo cf 4)) 4 := by
  rw [headB, drop_app _ _ (headTo_len cf 4), List.take_of_length_le (by rw [lowL_length]; omega)]
end
/-- One flag is stored. -/
theorem SrvAt.setReplay {own : Nat → Lb} {w : World} {sb : Nat} {L : Lay} {S : Srv} (h : SrvAt own w sb L S) (b : Bool) : SrvAt own (w.setCell ⟨sb, 22, none⟩ (.bool b)) sb L { S with replay := b } := by
  have x0 : Ext own w own (w.setCell ⟨sb, 22, none⟩ (.bool b)) (fun l => l = .srv) := Ext.setCell _ _ h.lab
  have hne0 : ∀ k, L.logv.ownBlock = some k → k ≠ sb := fun k hk e => by
    have := h.log.2 k hk
    rw [e, h.lab] at this; cases this
  exact h.srv_upd x0 (fun l t => .inl t) { S with replay := b } L.logv rfl rfl rfl (h.blk.set 22 _) (h.log.same (fun k hk => Below.heap_setCell _ _ _ _ (hne0 k hk)) (fun _ _ => rfl))
theorem SrvAt.setSynced {own : Nat → Lb} {w : World} {sb : Nat} {L : Lay} {S : Srv} (h : SrvAt own w sb L S) (x : Int) : SrvAt own (w.setCell ⟨sb, 21, none⟩ (.int .i64 x)) sb L { S with synced := x } := by
  have x0 : Ext own w own (w.setCell ⟨sb, 21, none⟩ (.int .i64 x)) (fun l => l = .srv) := Ext.setCell _ _ h.lab
  have hne0 : ∀ k, L.logv.ownBlock = some k → k ≠ sb := fun k hk e => by
    have := h.log.2 k hk
    rw [e, h.lab] at this; cases this
  exact h.srv_upd x0 (fun l t => .inl t) { S with synced := x } L.logv rfl rfl rfl (h.blk.set 21 _) (h.log.same (fun k hk => Below.heap_setCell _ _ _ _ (hne0 k hk)) (fun _ _ => rfl))
end Go.Proofs.YtllpoaoboieijaaGreat
/-
  Resume.
-/
namespace Go.Proofs.YtllpoaoboieijaaGreat
open Go.RowKit

/-- A server that was made from a log that was cut. -/
def ResGot (_cf : Cnf) (n : Nat) (f : Nat → Srv) (k : Nat) (w w' : World) (sb : Nat) : Prop :=
  ∃ own L R m, SrvAt own w' sb L R ∧ (∀ b, b < w.heap.size → own b = .other) ∧ m ≤ n ∧ R.fl 0 false = f m ∧ R.replay = false ∧ R.synced = (R.log.length : Int) ∧ (m < n → k < (f (m + 1)).log.length) ∧ (f m).log.length ≤ k
/-- The state of the loop. -/
structure RSt (cf : Cnf) (n : Nat) (f : Nat → Srv) (k g o : Nat) (w wx : World) (sb j : Nat) (own : Nat → Lb) (L : Lay) (A : Option Addr) (nn cc : Nat) : Prop where
  srv : SrvAt own wx sb L ((f j).fl 28 true)
  jn : j ≤ n
  jk : (f j).log.length ≤ k
  oth : ∀ b, b < w.heap.size → own b = .other
  bel : Below w.heap.size w wx
  rd : RdV wx (.slice A nn cc) (bys (((f n).log.take k).drop (f j).log.length))
  nn' : nn = k - (f j).log.length
  blk : 0 < nn → A.map (·.block) = some g ∧ g < w.heap.size
theorem quiet_add_same {P : Program} {f : FuncId} {args : Array Value} {w : World} {a n : Nat} {v : Value}
    (h : Calls P f args (w.drewN (a + n)) fun e w' => e = .returned v ∧ w' = w.drewN (a + n)) :
    Calls P f args (w.drewN (a + n)) fun e w'' => e = .returned v ∧ ∃ m, w'' = w.drewN (a + m) :=
  h.mono fun _ _ ⟨he, hm⟩ => ⟨he, n, hm⟩
theorem did_args {c : Cmd} {S T : Srv} (hi : CInv S) (h : Did c S T) : c.args.length ≤ 37 ∧ ∀ x, x ∈ c.args → -2147483648 ≤ x ∧ x ≤ 2147483647 := by
  cases c with
  | tick => exact ⟨Nat.zero_le _, fun x hx => by cases hx⟩
  | sub q =>
    have hok := askOk h.1
    have hv := hi.voc
    refine ⟨by have := hok.p1; show (q.prompt.length + 1 + 1 + 1 + 1 + 1) ≤ 37; omega, fun x hx => ?_⟩
    have a1 := hok.id0; have a2 := hok.id1; have a3 := hok.dl0; have a4 := hok.dl1; have a5 := hok.m0; have a6 := hok.m1; have a7 := hok.s0; have a8 := hok.s1; have a9 := hok.p1
    rcases List.mem_cons.1 (show x ∈ q.id :: q.deadline :: q.most :: q.seed :: (q.prompt.length : Int) :: q.prompt from hx) with e | hx
    · omega
    rcases List.mem_cons.1 hx with e | hx
    · omega
    rcases List.mem_cons.1 hx with e | hx
    · omega
    rcases List.mem_cons.1 hx with e | hx
    · omega
    rcases List.mem_cons.1 hx with e | hx
    · omega
    · have := hok.tok x hx; omega
  | can id =>
    obtain ⟨r, hg, -⟩ := h
    have hm := get_mem hg
    have hr := hi.wf.req r hm.1
    have a1 := hr.id0; have a2 := hr.id1; have a3 := hm.2
    refine ⟨by show 1 ≤ 37; omega, fun x hx => ?_⟩
    have : x = id := List.mem_singleton.1 hx
    omega
theorem mod_crc (l : List Int) : crcOf l % 4294967296 = crcOf l := by
  have := crcOf_in l
  generalize crcOf l = x at this ⊢
  omega
theorem head_28 {l H : List Int} (h : l.take 28 = H) : (l.drop 24).take 4 = (H.drop 24).take 4 := by
  rw [← h, List.drop_take, List.take_take]; rfl
theorem head_24 {l H : List Int} (h : l.take 28 = H) : l.take 24 = H.take 24 := by
  rw [← h, List.take_take]; rfl
set_option maxRecDepth 100000 in
set_option maxHeartbeats 6400000 in
theorem resume_any (p : MPl) (cf : Cnf) (hok : cf.ok = true) {n : Nat} {c : Nat → Cmd} {f : Nat → Srv} (hist : Hist cf n c f) (hn : n ≤ 1000) (k : Nat) (hk0 : 28 ≤ k) (hk1 : k ≤ (f n).log.length) (g o cp : Nat) (w : World) (hd : DemoAt w p) (hr : RdV w (.slice (some ⟨g, o, none⟩) k cp) (bys ((f n).log.take k))) :
    Calls Tryz.prog 22 #[.agg (demoCells p).toArray, cf.val, .slice (some ⟨g, o, none⟩) k cp] w fun e w' => ∃ sb, e = .returned (.tuple #[.pointer (some ⟨sb, 0, none⟩), .int .i64 0]) ∧ Hid (Below w.heap.size w w') ∧ Hid (ResGot cf n f k w w' sb) := by
  obtain ⟨w1, hw1, hb1, hm1, hc1⟩ : ∃ w1, (w.alloc (.cells (demoCells p).toArray 27)).alloc (.cells #[.int .i64 cf.pages, .int .i64 cf.size, .int .i64 cf.batch, .int .i64 cf.queue] 30) = w1 ∧ Below w.heap.size w w1 ∧ Blk w1 w.heap.size (demoCells p) 27 ∧ Blk w1 (w.heap.size + 1) [.int .i64 cf.pages, .int .i64 cf.size, .int .i64 cf.batch, .int .i64 cf.queue] 30 := by
    refine ⟨_, rfl, ?_, ?_, ?_⟩
    · exact ((Below.refl _ _).alloc (Nat.le_refl _) _).alloc (by simp only [World.size_alloc]; omega) _
    · exact (news_blk w (demoCells p) 27).alloc _
    · have := news_blk (w.alloc (.cells (demoCells p).toArray 27)) [.int .i64 cf.pages, .int .i64 cf.size, .int .i64 cf.batch, .int .i64 cf.queue] 30
      simp only [World.size_alloc] at this
      exact this
  have HN := Lib.hid (new_ok (fun _ => .other) p cf hok w1 (hd.below hb1))
  have m1 := hm1.cell
  have c1 := hc1.cell
  have hlen : ((f n).log.take k).length = k := by rw [List.length_take]; omega
  have hcp := hr.caps
  have hgw : g < w.heap.size := hr.lt (by rw [bys_length, hlen]; omega) g rfl
  have HB1 := Lib.hid hb1
  have HR1 := Lib.hid (hr.below hb1)
  have HH := Lib.hid (And.intro hist (And.intro hok hn))
  have HK := Lib.hid (And.intro hk0 (And.intro hk1 (And.intro hcp.2.1 (And.intro hcp.2.2 hgw))))
  have HLEN := Lib.hid hlen
  have tk : decide ((k : Int) < 28) = false := decide_eq_false (by omega)
  have k28 : (28 : Int) ≤ (k : Int) := by omega
  have c28 : (28 : Int) ≤ (cp : Int) := by omega
  have k24 : (24 : Int) ≤ (cp : Int) := by omega
  have n24 : ¬ cp = 24 := by omega
  clear hb1 hm1 hc1 hd hr hlen hist hok hn hk0 hk1 hcp hgw
  simp only [demoCells] at hw1 m1 HN
  simp only [Cnf.val] at HN
  simp only [demoCells, Cnf.val]
  go_enter Tryz.func22, Tryz.ntmps22
  go_upto_region 2 with (go_at_call 7; refine HN.out.mono ?_; rintro e w2 ⟨sb, own2, L2, rfl, h2, hsb, x2⟩)
  obtain ⟨lg, lc, hlv, hlr, hlo⟩ := h2.log.logrd (by rw [show (srv0 cf).log = headB cf from rfl, headB_len]; omega)
  rw [show (srv0 cf).log = headB cf from rfl, headB_len] at hlv
  rw [hlv, show (srv0 cf).log = headB cf from rfl] at hlr
  have d2 := h2.blk.cell
  have d3 := h2.blk.frozen
  simp only [srvCells] at d2
  rw [hlv] at d2
  have HB2 := Lib.hid (show Below w1.heap.size w1 w2 from ⟨x2.os, x2.tape, x2.output, x2.size, fun b hb => x2.keep b hb (fun e => e)⟩)
  have H2 := Lib.hid h2
  have X2 := Lib.hid x2
  have HSB2 := Lib.hid hsb
  have HLR := Lib.hid hlr
  have HLV := Lib.hid hlv
  have HR2 := Lib.hid (HR1.out.below HB2.out)
  have hhk := HH.out.1.headk HH.out.2.1 HH.out.2.2 HK.out.1
  have HN7 := Lib.hid (fun (q : Nat) => num_at (((f n).log.take k).drop 24 |>.take 4) 4 (by have := HLEN.out; have := HK.out; simp; omega) (by omega) (crcOf (headTo cf 4)) (by
      have e : (((f n).log.take k).drop 24).take 4 = lowL (crcOf (headTo cf 4)) 4 := by
        rw [← headB_28]; exact head_28 hhk
      rw [e, num_low4]
      have := crcOf_in (headTo cf 4)
      omega) (some ⟨g, o + 24, none⟩) (cp - 24) (w2.drewN q) (rdv_part (show RdV (w2.drewN q) _ _ from HR2.out) HLEN.out.symm 24 4 (by have := HK.out; omega)))
  have HC7 := Lib.hid (fun (q : Nat) => code_at (((f n).log.take k).take 24) 24 (by have := HLEN.out; have := HK.out; simp; omega) (crcOf (headTo cf 4)) (by
      rw [← headB_24, head_24 hhk]) (some ⟨g, o, none⟩) cp (w2.drewN q) (rdv_first (show RdV (w2.drewN q) _ _ from HR2.out) HLEN.out.symm 24 (by have := HK.out; omega)))
  have HE9 := Lib.hid (fun (q : Nat) => bytesEqual_same (headB cf) g o lg 0 28 cp lc (headB_len cf).symm (w2.drewN q) (by
      have := rdv_first (show RdV (w2.drewN q) _ _ from HR2.out) HLEN.out.symm 28 (by have := HK.out; omega)
      rw [hhk] at this; exact this) (show RdV (w2.drewN q) _ _ from HLR.out))
  generalize crcOf (headTo cf 4) = cr at HN7 HC7
  clear h2 hsb x2 hlv hlr hlo hhk
  go_upto_region 7 with fail
  go_quiet (first | (go_at_call 48; with_reducible exact Calls.quiet_of_same (HN7.out _)) | (go_at_call 49; with_reducible exact Calls.quiet_of_same (HC7.out _)))
  go_upto_region 9 with fail
  go_quiet ((go_at_call 50; with_reducible exact quiet_add_same (HE9.out _)))
  go_upto_region 11 with fail
  generalize hw3 : (w2.drewN _).drewN _ = w3
  have H3 := Lib.hid (show SrvAt own2 w3 sb L2 (srv0 cf) by rw [← hw3]; exact (H2.out.drewN _).drewN _)
  have HB3 := Lib.hid (show Below w1.heap.size w1 w3 by rw [← hw3]; exact ⟨HB2.out.os, HB2.out.tape, HB2.out.output, HB2.out.size, HB2.out.block⟩)
  have HSB := Lib.hid (show w1.heap.size ≤ sb ∧ (∀ b, b < w1.heap.size → own2 b = .other) from ⟨HSB2.out, fun b hb => X2.out.lab b hb⟩)
  have d5 := H3.out.blk.cell
  have d6 := H3.out.blk.frozen
  simp only [srvCells] at d5
  clear hw3 d2 d3 m1 c1 HN7 HC7 HE9 HN
  have H4 := Lib.hid (show SrvAt own2 (w3.setCell ⟨sb, 22, none⟩ (.bool true)) sb L2 ((f 0).fl 28 true) by
    have := H3.out.setReplay true
    rw [HH.out.1.zero]; exact this)
  have HB4 := Lib.hid (show Below w.heap.size w (w3.setCell ⟨sb, 22, none⟩ (.bool true)) from (HB1.out.trans (HB3.out.mono HB1.out.size)).setCell (by have := HB1.out.size; have := HSB.out.1; show w.heap.size ≤ sb; omega) _)
  have hl0 : (f 0).log.length = 28 := by rw [HH.out.1.log0, headB_len]
  have HRS := Lib.hid (fun (A : Option Addr) (hA : cp ≠ 28 → A = some ⟨g, o + 28, none⟩) => (show RSt cf n f k g o w (w3.setCell ⟨sb, 22, none⟩ (.bool true)) sb 0 own2 L2 A (k - 28) (cp - 28) from by
    have hg := HK.out.2.2.2.2
    have hs := HSB.out.1
    have hb := HB1.out.size
    have hrd : RdV (w3.setCell ⟨sb, 22, none⟩ (.bool true)) (.slice (some ⟨g, o, none⟩) k cp) (bys ((f n).log.take k)) := by
      have h := HR1.out.below HB3.out
      exact h.block fun b' hb' hv => Below.heap_setCell _ _ _ _ (by
        have : g = b' := by simpa [Value.ownBlock] using hv
        show b' ≠ sb
        omega)
    refine ⟨H4.out, Nat.zero_le _, by rw [hl0]; exact HK.out.1, fun b hb' => HSB.out.2 b (by omega), HB4.out, ?_, by rw [hl0], fun h0 => ?_⟩
    · rw [hl0]
      exact rdv_rest hrd HLEN.out.symm 28 HK.out.1 A hA
    · have hc := HK.out
      rw [hA (by omega)]
      exact ⟨rfl, hg⟩))
  clear hl0
  obtain rfl | hcp := Decidable.em (cp = 28)
  all_goals
    go_wp2
    clear d5 d6 tk k28 c28 k24
    go_loopg [2] n (fun gk s2 wx => ∃ (j : Nat) (own : Nat → Lb) (L : Lay) (A : Option Addr) (nn cc : Nat), s2 = .slice A nn cc ∧ Hid (RSt cf n f k g o w wx sb j own L A nn cc) ∧ gk = n - j)
    case atStart => exact ⟨0, own2, L2, _, _, _, rfl, Lib.hid (HRS.out _ (by first | exact fun e => absurd rfl e | exact fun _ => rfl)), rfl⟩
    case round =>
      obtain ⟨j, own, L, A, nn, cc, rfl, HRr, rfl⟩ := hrel
      by_cases hA : j < n ∧ (f (j + 1)).log.length ≤ k
      · have hrr := HRr.out
        have hnn := hrr.nn'
        have hat := HH.out.1.at' HH.out.2.1 HH.out.2.2 j hrr.jn
        have hst := HH.out.1.step j hA.1
        have hlog := HH.out.1.logs HH.out.2.1 HH.out.2.2 hA.1
        have hll : (f (j + 1)).log.length = (f j).log.length + (11 + 4 * (c j).args.length) := by rw [hlog, List.length_append, recL_length]
        have hrem := HH.out.1.remA HH.out.2.1 HH.out.2.2 hA.1 hA.2
        have hda := did_args hat.inv hst
        have hbig : nn ≤ 100000000 := by
          have h := HH.out.1.at' HH.out.2.1 HH.out.2.2 n (Nat.le_refl _)
          have h1 := h.inv.log
          have h2 := h.rcs
          have h3 := HH.out.2.2
          have h4 := HK.out.2.1
          omega
        have hrf := rec_facts j (c j).kind (c j).args (((f n).log.take k).drop (f (j + 1)).log.length)
        rw [← hrem] at hrf
        have hrd := hrr.rd
        have hlr : (((f n).log.take k).drop (f j).log.length).length = nn := by rw [List.length_drop, HLEN.out]; exact hnn.symm
        obtain ⟨A0, c0, hv, h1, h2, h3⟩ := id hrd
        obtain ⟨b', o', hA', -⟩ := h3 (by rw [bys_length, hlr]; omega)
        have hAA : A = some ⟨b', o', none⟩ := by injection hv with e1; rw [e1, hA']
        subst hAA
        obtain ⟨hbg, hgw⟩ := hrr.blk (by omega)
        obtain rfl : b' = g := by simpa using hbg
        obtain ⟨m, hm⟩ : ∃ m, 1 + 4 * (c j).args.length = m := ⟨_, rfl⟩
        rw [hm] at hrf
        have HREC := Lib.hid (read_ok own sb L ((f j).fl 28 true) wr hrr.srv _ b' o' nn cc m hrd (by omega) hbig (by rw [hrf.h2, num_low2]; omega) (by
          rw [hrf.h6, num_low4]
          show (j : Int) % 4294967296 = (f j).records
          have := hat.rcs; have := HH.out.2.2; omega) (by rw [hrf.hs, num_low4, mod_crc]))
        have hpart : ∀ q, RdO own (wr.drewN q) (.slice (some ⟨b', o' + 6, none⟩) m (cc - 6)) (bys (bodyL (c j).kind (c j).args)) := fun q => by
          refine ⟨?_, fun _ b hb => ?_⟩
          · have := rdv_part (show RdV (wr.drewN q) _ _ from hrd) hlr.symm 6 m (by omega)
            rw [hrf.bd] at this; exact this
          · have : b' = b := by simpa [Value.ownBlock] using hb
            rw [← this]; exact hrr.oth b' hgw
        have HCALL := Lib.hid (fun (q : Nat) => call_any own sb L ((f j).fl 28 true) ((f (j + 1)).fl 28 true) (wr.drewN q) (hrr.srv.drewN q) (c j) b' (o' + 6) m (cc - 6) (hpart q) hda.1 hda.2 (hat.inv.fl 28 true) (by show (f j).records ≤ 10000; have := hat.rcs; have := HH.out.2.2; omega) (did_fl 28 true hst))
        have HM := Lib.hid (And.intro hm (And.intro hll (And.intro hA hnn)))
        have HREST := Lib.hid (fun (q : Nat) (A' : Option Addr) (hA' : cc ≠ 10 + m → A' = some ⟨b', o' + (10 + m), none⟩) => (show RdO own (wr.drewN q) (.slice A' (nn - (10 + m)) (cc - (10 + m))) (bys (((f n).log.take k).drop (f (j + 1)).log.length)) from by
          refine ⟨?_, fun h0 b hb => ?_⟩
          · have := rdv_rest (show RdV (wr.drewN q) _ _ from hrd) hlr.symm (10 + m) (by omega) A' hA'
            rw [hrf.rs] at this; exact this
          · have hcc := hrd.caps
            rw [bys_length, List.length_drop, HLEN.out] at h0
            rw [hA' (by omega)] at hb
            have : b' = b := by simpa [Value.ownBlock] using hb
            rw [← this]; exact hrr.oth b' hgw))
        have HCC := Lib.hid (And.intro hrd.caps.2.1 hgw)
        clear hrr hnn hat hst hlog hll hrem hda hbig hrf hrd hlr hv h1 h2 h3 hA' hbg hgw hm hpart hA
        go_wp2_with (first
          | (go_at_call 51; refine HREC.out.mono ?_; rintro e w5 ⟨A', c', rfl, hc', hA', hq⟩; obtain ⟨q, rfl⟩ := hq; have HA' := Lib.hid (And.intro hc' hA'); clear hc' hA')
          | (go_at_call 52; refine (HCALL.out _).mono ?_; rintro e w6 ⟨rfl, hg6⟩; have HG6 := Lib.hid hg6; clear hg6))
        obtain ⟨own6, L6, h6, x6⟩ := HG6.out
        go_roundg (n - (j + 1))
        case measure => have := HM.out; omega
        case rel =>
          have hrr := HRr.out
          have hrest := (by have h := HREST.out q A' HA'.out.2; rw [← HA'.out.1] at h; exact h : RdO own (wr.drewN q) (.slice A' (nn - (10 + m)) c') _)
          refine ⟨j + 1, own6, L6, A', nn - (10 + m), c', rfl, Lib.hid ⟨h6, by have := HM.out; omega, HM.out.2.2.1.2, fun b hb => ?_, ?_, (hrest.ext x6 Tin_other).1, by have := HM.out; omega, fun h0 => ?_⟩, rfl⟩
          · rw [x6.lab b (Nat.lt_of_lt_of_le hb hrr.bel.size)]; exact hrr.oth b hb
          · exact hrr.bel.trans ⟨x6.os, x6.tape, x6.output, x6.size, fun b hb => x6.keep b (Nat.lt_of_lt_of_le hb hrr.bel.size) (by rw [hrr.oth b hb]; exact Tin_other)⟩
          · rw [HA'.out.2 (by have := HCC.out; omega)]
            exact ⟨rfl, HCC.out.2⟩
      · have hrr := HRr.out
        have hrc : Calls Tryz.prog 51 #[.pointer (some ⟨sb, 0, none⟩), .slice A nn cc] wr fun e w' => e = .returned (.tuple #[.slice none 0 0, .slice none 0 0, .bool false]) ∧ ∃ q, w' = wr.drewN q := by
          by_cases ht : nn < 10
          · exact read_short own sb L _ wr hrr.srv A nn cc ht
          · have hnn := hrr.nn'
            have hj : j < n := by
              rcases Nat.lt_or_ge j n with h | h
              · exact h
              · have : j = n := by have := hrr.jn; omega
                subst this
                have := HK.out; omega
            obtain ⟨hB, hlt⟩ := HH.out.1.remB HH.out.2.1 HH.out.2.2 hj hrr.jk (by omega)
            have hrd := hrr.rd
            rw [hB, ← hnn] at hrd
            rw [← hnn, recL_length] at hlt
            have ha := (did_args (HH.out.1.at' HH.out.2.1 HH.out.2.2 j hrr.jn).inv (HH.out.1.step j hj)).1
            obtain ⟨A0, c0, hv, h1, h2, h3⟩ := id hrd
            obtain ⟨b', o', hA', -⟩ := h3 (by rw [bys_length, List.length_take, recL_length]; omega)
            have hAA : A = some ⟨b', o', none⟩ := by injection hv with e1; rw [e1, hA']
            subst hAA
            exact read_part own sb L _ wr hrr.srv _ b' o' nn cc (1 + 4 * (c j).args.length) hrd (by omega) (by omega) (by omega) (by rw [part_facts _ _ _ _ (by omega), num_low2]; omega)
        have HRDC := Lib.hid hrc
        have HNA := Lib.hid hA
        have HR1' := Lib.hid hrr.srv
        obtain ⟨lg', lc', hlv', -, -⟩ := hrr.srv.log.logrd (by have := (HH.out.1.at' HH.out.2.1 HH.out.2.2 j hrr.jn).inv.log0; show 0 < (f j).log.length; omega)
        have e5 := hrr.srv.blk.cell
        have e6 := hrr.srv.blk.frozen
        simp only [srvCells] at e5
        rw [hlv'] at e5
        clear hrc hA hrr hlv'
        go_wp2_with (go_at_call 51; refine HRDC.out.mono ?_; rintro e w5 ⟨rfl, hq⟩; obtain ⟨q, rfl⟩ := hq)
        go_ret2
        have hrr := HRr.out
        have hs1 := ((hrr.srv.drewN q).setReplay false).setSynced (((f j).fl 28 true).log.length : Int)
        have hsbw : w.heap.size ≤ sb := by have := HB1.out.size; have := HSB.out.1; omega
        refine ⟨sb, rfl, Lib.hid ?_, Lib.hid ⟨own, L, _, j, hs1, hrr.oth, hrr.jn, ?_, rfl, rfl, fun h => ?_, hrr.jk⟩⟩
        · exact (((show Below w.heap.size w (wr.drewN q) from ⟨hrr.bel.os, hrr.bel.tape, hrr.bel.output, hrr.bel.size, hrr.bel.block⟩).setCell (show w.heap.size ≤ sb from hsbw) _).setCell (show w.heap.size ≤ sb from hsbw) _)
        · exact HH.out.1.flat j hrr.jn
        · have := HNA.out; omega
end Go.Proofs.YtllpoaoboieijaaGreat
