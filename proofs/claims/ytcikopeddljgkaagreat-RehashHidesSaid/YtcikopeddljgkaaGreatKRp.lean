/- Tables laid anew, and halves: plain law. -/
import Derived.Test.YtcikopeddljgkaaGreatKHut
import Derived.Test.YtcikopeddljgkaaGreatKHh
import Derived.Test.YtcikopeddljgkaaGreatKHlan
import Derived.Test.YtcikopeddljgkaaGreatKHma
import Derived.Test.YtcikopeddljgkaaGreatKHmet
import Derived.Test.YtcikopeddljgkaaGreatKHpa
import Derived.Test.YtcikopeddljgkaaGreatKHpb
import Derived.Test.YtcikopeddljgkaaGreatKHr
import Derived.Test.YtcikopeddljgkaaGreatKHcz
import Derived.Test.YtcikopeddljgkaaGreatKHtc
import Derived.Test.YtcikopeddljgkaaGreatKRn
import Derived.Test.YtcikopeddljgkaaGreatKHtm
import Derived.Test.YtcikopeddljgkaaGreatKRc
import Derived.Test.YtcikopeddljgkaaGreatKHtv
import Derived.Test.YtcikopeddljgkaaGreatKHnac
import Derived.Test.YtcikopeddljgkaaGreatKRm
import Derived.Test.YtcikopeddljgkaaGreatKRo
import Derived.Below
import Derived.BigQuiet
import Derived.Deep.Draws
import Derived.Deep.Light
import Derived.Deep.QuietTactic
import Derived.Deep.RegionHeld
import Derived.Laws.CopyRow
import Derived.Laws.Tables
import Derived.Lib.AppendZerosOnto
import Derived.Lib.Hide
import Derived.Lib.Tables
import Derived.Lib.Walk
import Derived.LoopIn
import Derived.LoopN
import Derived.LoopNIn
import Derived.Maps.AppendAt
import Derived.Maps.Views
import Derived.OwnWalkIn
import Derived.RangeFuncBox
import Derived.RangeFuncCalls
import Derived.RangeFuncRecord
import Derived.RangeFuncSeq
import Derived.Recover
import Derived.RegionTactic
import Derived.Shelf.Slices.Clone
import Derived.StillTail
import Derived.StillTailTactics
import Derived.TacticsInMore
import Derived.Test.YtcikopeddljgkaaGreatProg
import Derived.WalkKit
import Derived.WalkLawsBesides
import Derived.WalkMore
import Derived.WalkSpells
import Derived.Deep.OwnRows
import Derived.IntWalk
import Derived.Laws.CopyOwn
import Derived.Laws.StructEq
import Derived.OpenShut
import Derived.ProofKit
import Derived.ScopeJumps
set_option linter.unusedSimpArgs false
set_option linter.unusedVariables false
namespace Go.Proofs.Hc
open Go.RowKit
/-- A table none of whose slots is deleted. -/
def Clean (t : Tab) : Prop := ∀ j, j < 16 → bt t j ≠ 254#8
theorem clean_nFill {t : Tab} {s : BitVec 64} (m : May t s) (h : Clean t) : nFill t = nFull t := by
  unfold nFill nFull
  apply List.countP_congr
  intro j hj
  have hj16 : j < 16 := by simpa using hj
  rw [fillJ, fullJ, bne_iff_ne, decide_eq_true_iff]
  rcases m.ok j hj16 with e | e | e
  · exact ⟨fun _ => e, fun _ h => by rw [h] at e; exact absurd e (by decide)⟩
  · rw [e]; exact ⟨fun h => absurd rfl h, fun h => absurd h (by decide)⟩
  · exact absurd e (h j hj16)
theorem clean_can {t : Tab} {s : BitVec 64} (m : May t s) (h : Clean t) : t.can = 14 - t.live := by rw [m.can, m.live, clean_nFill m h]
theorem Clean.fill {t : Tab} (h : Clean t) (s k v : BitVec 64) (sl : Nat) : Clean (fillT t s k v sl) := by
  intro j hj
  rw [bt_fill]
  split
  · intro e
    have := hash2_lt (hashOf s k)
    rw [e] at this; exact absurd this (by decide)
  · exact h j hj
theorem bt_bare (c : BitVec 64) (d : Int) (p : BitVec 64) (j : Nat) : bt (bareT c d p) j = 128#8 := byteAt_tops _ (by omega)
theorem clean_bare (c : BitVec 64) (d : Int) (p : BitVec 64) : Clean (bareT c d p) := fun j _ => by rw [bt_bare]; decide
theorem bare_full (c : BitVec 64) (d : Int) (p : BitVec 64) (j : Nat) : fullJ (bareT c d p) j = false := by rw [fullJ, bt_bare]; decide
theorem bare_pairs (c : BitVec 64) (d : Int) (p : BitVec 64) (q : BitVec 64 × BitVec 64) : ¬ q ∈ pairsT (bareT c d p) := by
  rw [mem_pairs]
  rintro ⟨j, _, hf, _⟩
  rw [bare_full] at hf; cases hf
theorem bare_flat {c : BitVec 64} {d : Int} {p : BitVec 64} (h0 : 0 ≤ d) (h5 : d ≤ 5) (hp : N (p >>> d.toNat) = 0) : flatT (bareT c d p) = true :=
  (flatT_iff _).2 ⟨h0, h5, hp, by show (0 : Int) ≤ 14; omega, by show (14 : Int) ≤ 14; omega, by show (0 : Int) ≤ 0; omega, by show (0 : Int) ≤ 14; omega⟩
theorem bare_may {c : BitVec 64} {d : Int} {p : BitVec 64} (s : BitVec 64) (h : flatT (bareT c d p) = true) : May (bareT c d p) s := by
  have h1 : nFull (bareT c d p) = 0 := by
    unfold nFull
    rw [List.countP_eq_zero]
    intro j _
    rw [bare_full]; simp
  have h2 : nFill (bareT c d p) = 0 := by
    unfold nFill
    rw [List.countP_eq_zero]
    intro j _
    rw [fillJ, bt_bare]; decide
  refine ⟨h, fun j _ => .inr (.inl (bt_bare c d p j)), fun j _ hf => ?_, fun i j _ _ hf => ?_, ?_, ?_⟩
  · rw [bare_full] at hf; cases hf
  · rw [bare_full] at hf; cases hf
  · rw [h1]; rfl
  · rw [h2]; rfl
theorem has_fill {t : Tab} {s k v : BitVec 64} {sl : Nat} (m : May (fillT t s k v sl) s) {h : BitVec 64} (hh : hasT t h = true) : hasT (fillT t s k v sl) h = true :=
  hasT_of hh m.flat (fill_depth ..) (fill_pre ..)
/-- What pairs come to that are put one behind the other. -/
structure Laid (s : BitVec 64) (t0 : Tab) (l : List (BitVec 64 × BitVec 64)) (x : Tab) : Prop where
  eq : laidT s t0 l = .ok x
  may : May x s
  clean : Clean x
  mem : ∀ q, q ∈ pairsT x ↔ q ∈ l ∨ q ∈ pairsT t0
  live : x.live = t0.live + l.length
  depth : x.depth = t0.depth
  pre : x.pre = t0.pre
  count : x.count = t0.count
theorem laid_ok {s : BitVec 64} : ∀ (l : List (BitVec 64 × BitVec 64)) (t0 : Tab), May t0 s → Clean t0 → (∀ p ∈ l, hasT t0 (hashOf s p.1) = true) → ((l.map (·.1)).Nodup) → (∀ p ∈ l, ∀ q ∈ pairsT t0, q.1 ≠ p.1) → t0.live + l.length ≤ 14 → ∃ x, Laid s t0 l x
  | [], t0, m, hc, _, _, _, _ => ⟨t0, rfl, m, hc, fun q => by simp, by simp, rfl, rfl, rfl⟩
  | p :: l, t0, m, hc, hg, hn, hd, hl => by
    have hcan := clean_can m hc
    rw [List.length_cons] at hl
    rw [List.map_cons, List.nodup_cons] at hn
    have hno : hasKT t0 p.1 = false := by
      cases h : hasKT t0 p.1 with
      | false => rfl
      | true =>
        obtain ⟨j, hj, hf, hk⟩ := (hasKT_iff t0 p.1).1 h
        exact absurd hk (hd p (by simp) (t0.k j, t0.v j) ((mem_pairs t0 _).2 ⟨j, hj, hf, rfl⟩))
    obtain ⟨sl, hsl⟩ := place_room m (by omega) (hg p (by simp)) hno
    have hsp := place_spot hsl
    have m' := m.fill p.2 hsp
    have hp' := fill_pairs p.2 hsp
    obtain ⟨x, hx⟩ := laid_ok l (fillT t0 s p.1 p.2 sl) m' (hc.fill _ _ _ _) (fun q hq => has_fill m' (hg q (by simp [hq]))) hn.2 (fun q hq r hr => by
      rcases (hp' r).1 hr with rfl | hr
      · intro e; exact hn.1 (List.mem_map.2 ⟨q, hq, e.symm⟩)
      · exact hd q (by simp [hq]) r hr) (by show t0.live + 1 + _ ≤ 14; omega)
    refine ⟨x, ?_, hx.may, hx.clean, fun q => ?_, ?_, hx.depth.trans (fill_depth ..), hx.pre.trans (fill_pre ..), hx.count.trans (fill_count ..)⟩
    · rw [laidT_ok hsl]; exact hx.eq
    · rw [hx.mem q, hp' q, List.mem_cons]
      constructor
      · rintro (h | h | h)
        · exact .inl (.inr h)
        · exact .inl (.inl h)
        · exact .inr h
      · rintro ((h | h) | h)
        · exact .inr (.inl h)
        · exact .inl h
        · exact .inr (.inr h)
    · rw [hx.live]; show t0.live + 1 + (l.length : Int) = _; rw [List.length_cons]; omega
theorem live_le {t : Tab} {s : BitVec 64} (m : May t s) : ((pairsT t).length : Int) ≤ 14 := by
  rw [m.len]; exact ((flatT_iff t).1 m.flat).2.2.2.2.2.2
/-- A table that is laid anew. -/
theorem anew_ok {t : Tab} {s : BitVec 64} (m : May t s) : ∃ x, Laid s (bareT t.count t.depth t.pre) (pairsT t) x := by
  obtain ⟨a, b, c, _⟩ := (flatT_iff t).1 m.flat
  have hfl := bare_flat (c := t.count) a b c
  refine laid_ok _ _ (bare_may s hfl) (clean_bare _ _ _) (fun p hp => ?_) m.keys (fun p _ q hq => absurd hq (bare_pairs _ _ _ q)) ?_
  · obtain ⟨j, hj, hf, rfl⟩ := (mem_pairs t p).1 hp
    exact (hasT_iff _ _).2 ⟨hfl, ((hasT_iff _ _).1 (m.slot j hj hf).2.1).2⟩
  · show (0 : Int) + _ ≤ 14
    have := live_le m
    omega
end Go.Proofs.Hc
/- Package layout: Table. -/
namespace Go.Proofs.Hc
open Go.RowKit
attribute [local go_sem] wrap_u64 wrap_u8 bits_xor64 bits_and64 bits_or64 bits_not64 bits_xor8 bits_and8 bits_or8 signed64 signed8 ofInt_N BitVec.ofInt_add BitVec.ofInt_mul ofInt_sub' ofInt8_N64 ofInt64_N8 wide8 eqN neN shr_pow shr1 shr7 shr56
attribute [local go_sem high] bits_com64 shl_wrap
attribute [local go_sem] cell_heap ice_heap cellAt_cells iceAt_cells setAt_cells rowAt_cells canLay_cells laidAt_cells size_onObj size_setCell rowRes_some layRes_true
attribute [local go_sem] load26 load73 load23 store26 build73
attribute [local go_sem ↓] lrow26 lrow73 lrow23 srow26 zero26 brow73 heap_alloc heap_drew heap_drewN heap_setCell heap_onObj
attribute [local go_sem] tcells_size hcells_size tcells_get hcells_get tcells_one hcells_one hcells_table tcells_table hcells_all hcells_ctrl tcells_ctrl
attribute [local go_sem] nn2 nm2 nn3 nm3 nn4 nm4 nn5 nm5 nn6 nm6 nn7 nm7 nn8 nm8
attribute [local go_sem] loadA loadT2 storeA storeT2 buildA_ts buildA_sm assert_errno make_func acells_size t2cells_size acells_get t2cells_get acells_one t2cells_one acells_table acells_all t2cells_all t2cells_l t2cells_r
attribute [local go_sem ↓] lrowA lrowT2 srowA srowT2 browA zeroA_run zeroT2_run
attribute [local go_sem] nn2 nm2 nn3 nm3 nn4 nm4 nn5 nm5 nn6 nm6 nn7 nm7 nn8 nm8
attribute [local go_sem] Oper.semAt_some make_func1
attribute [local go_sem high] laidAt_t
attribute [local go_sem] build_zero
attribute [local go_sem ↓] brow26
/-- The table of words, or the error. -/
def readE (ws : Nat → BitVec 64) : Except Int Tab := if readOk ws then .ok (readTab ws) else .error 260
theorem readOk_parts {ws : Nat → BitVec 64} (h : readOk ws = true) : (ws 2).toNat ≤ 14 ∧ (ws 3).toNat ≤ 14 ∧ flatT (readTab ws) = true ∧ ws 38 = 0#64 ∧ ws 39 = 0#64 := by
  unfold readOk at h
  simp only [Bool.and_eq_true, decide_eq_true_eq, beq_iff_eq] at h
  exact ⟨h.1.1.1.1, h.1.1.1.2, h.1.1.2, h.1.2, h.2⟩
theorem enters_tbl1 (args : Array Value) (w : World) : (callFunc 105 args).run Tryz.prog w = .ok (.enter 105 args) w := Tryz.call105 args w
theorem tbl1_no (WB OB g o c : Nat) (cur : Array Value) (T : TypeId) (ws : Nat → BitVec 64) (hn : readOk ws = false) (hnc : 40 ≤ c) (hc : c ≤ 9223372036854775807) (w : World) (hW : w.heap[WB]? = some (.cells #[.slice (some ⟨g, o, none⟩) 40 c] 44 (0, 0))) (hO : w.heap[OB]? = some (.cells (tcells zeroT) 26 (0, 0))) (hg : w.heap[g]? = some (.cells cur T (0, 0))) (hw : AtW cur o ws) (hgo : ¬ g = OB) :
    Calls Tryz.prog 105 #[.pointer (some ⟨WB, 0, none⟩), .pointer (some ⟨OB, 0, none⟩)] w fun e w' => e = .panicked [{ v := .iface 244 (.agg #[]), recovered := false }] ∧ Ch [] w w' := by
  by_cases h2 : (ws 2).toNat ≤ 14
  · by_cases h3 : (ws 3).toNat ≤ 14
    · refine tbl1_rest WB OB g o c cur T ws h2 h3 ?_ hnc hc w hW hO hg hw hgo
      unfold readOk at hn
      rw [decide_eq_true h2, decide_eq_true h3, Bool.true_and, Bool.true_and] at hn
      exact hn
    · exact tbl1_num3 WB OB g o c cur T ws h2 (by omega) hnc hc w hW hO hg hw hgo
  · exact tbl1_num2 WB OB g o c cur T ws (by omega) hnc hc w hW hO hg hw hgo
set_option maxHeartbeats 1000000 in
set_option maxRecDepth 100000 in
theorem Table_err (a : Value) (w : World) (T1 : ∀ w1 : World, ∀ WB OB : Nat, Ch [] w w1 → w1.heap[WB]? = some (.cells #[a] 44 (0, 0)) → w1.heap[OB]? = some (.cells (tcells zeroT) 26 (0, 0)) → w.heap.size ≤ OB →
      Calls Tryz.prog 105 #[.pointer (some ⟨WB, 0, none⟩), .pointer (some ⟨OB, 0, none⟩)] w1 fun e w' => e = .panicked [{ v := .iface 244 (.agg #[]), recovered := false }] ∧ Ch [] w1 w') (ha : a.oneCell' = true) :
    Calls Tryz.prog 35 #[a] w fun e w' => e = .returned (.tuple #[.agg (tcells zeroT), I 260]) ∧ Ch [] w w' := by
  obtain ⟨W0, hW0⟩ : ∃ W, ((w.alloc (.cells #[a] 44)).alloc (.cells (tcells zeroT) 26)).alloc (.cells (tcells zeroT) 26) = W := ⟨_, rfl⟩
  have C0 : Ch [] w W0 := by rw [← hW0]; exact (((Ch.refl [] w).alloc _).alloc _).alloc _
  have a0 : W0.heap[w.heap.size]? = some (.cells #[a] 44 (0, 0)) := by rw [← hW0, heap_alloc, if_neg (by simp; omega), heap_alloc, if_neg (by simp), heap_alloc, if_pos rfl]
  have z0 : W0.heap[w.heap.size + 1]? = some (.cells (tcells zeroT) 26 (0, 0)) := by rw [← hW0, heap_alloc, if_neg (by simp), heap_alloc, if_pos (by simp)]
  have o0 : W0.heap[w.heap.size + 1 + 1]? = some (.cells (tcells zeroT) 26 (0, 0)) := by rw [← hW0, heap_alloc, if_pos (by simp)]
  have R1 := ltries_no 105 #[.pointer (some ⟨w.heap.size, 0, none⟩), .pointer (some ⟨w.heap.size + 1 + 1, 0, none⟩)] W0 enters_tbl1 (fun w1 c1 => T1 w1 _ _ (C0.trans c1) (hkeep c1 a0) (hkeep c1 o0) (by omega))
  go_enter Tryz.func35, Tryz.ntmps35
  go_wp2_with fail
  try rw [hW0]
  refine R1.mono ?_
  rintro e w1 ⟨rfl, hc1⟩
  have z1 := hkeep hc1 z0
  go_wp2
  refine bodyPost_ret (v := .tuple #[.agg (tcells zeroT), I 260]) (results_c0t Tryz.results35 _ _ _ rfl rfl (run_loadVar_row _ _ 26 26 (tcells zeroT) (0, 0) _ ?_ Tryz.underlying26 rfl (by rw [tcells_size]; kernel_rfl))) rfl ⟨rfl, ?_⟩
  · simp only [heap_onObj, if_true, z1, Option.map_some, laidAt_t]
  · exact (C0.trans hc1).onObj (.inr (by omega)) _
set_option maxHeartbeats 1000000 in
set_option maxRecDepth 100000 in
theorem Table_ok (g o c : Nat) (cur : Array Value) (T : TypeId) (ws : Nat → BitVec 64) (hok : readOk ws = true) (hnc : 40 ≤ c) (hc : c ≤ 9223372036854775807) (w : World) (hg : w.heap[g]? = some (.cells cur T (0, 0))) (hw : AtW cur o ws) :
    Calls Tryz.prog 35 #[.slice (some ⟨g, o, none⟩) 40 c] w fun e w' => e = .returned (.tuple #[.agg (tcells (readTab ws)), I 0]) ∧ Ch [] w w' := by
  obtain ⟨h2, h3, hf, h38, h39⟩ := readOk_parts hok
  obtain ⟨W0, hW0⟩ : ∃ W, ((w.alloc (.cells #[.slice (some ⟨g, o, none⟩) 40 c] 44)).alloc (.cells (tcells zeroT) 26)).alloc (.cells (tcells zeroT) 26) = W := ⟨_, rfl⟩
  have C0 : Ch [] w W0 := by rw [← hW0]; exact (((Ch.refl [] w).alloc _).alloc _).alloc _
  have a0 : W0.heap[w.heap.size]? = some (.cells #[.slice (some ⟨g, o, none⟩) 40 c] 44 (0, 0)) := by rw [← hW0, heap_alloc, if_neg (by simp; omega), heap_alloc, if_neg (by simp), heap_alloc, if_pos rfl]
  have z0 : W0.heap[w.heap.size + 1]? = some (.cells (tcells zeroT) 26 (0, 0)) := by rw [← hW0, heap_alloc, if_neg (by simp), heap_alloc, if_pos (by simp)]
  have o0 : W0.heap[w.heap.size + 1 + 1]? = some (.cells (tcells zeroT) 26 (0, 0)) := by rw [← hW0, heap_alloc, if_pos (by simp)]
  have hs0 : w.heap.size + 1 + 1 < W0.heap.size := (Array.getElem?_eq_some_iff.1 o0).1
  have hgl : g < w.heap.size := (Array.getElem?_eq_some_iff.1 hg).1
  have R1 := ltries_ok 105 #[.pointer (some ⟨w.heap.size, 0, none⟩), .pointer (some ⟨w.heap.size + 1 + 1, 0, none⟩)] (w.heap.size + 1 + 1) (.cells (tcells (readTab ws)) 26 (0, 0)) W0 hs0 enters_tbl1 (fun w1 c1 => tbl1_ok _ _ g o c cur T ws h2 h3 hf h38 h39 hnc hc w1 (hkeep c1 a0) (hkeep c1 o0) (hkeep (C0.trans c1) hg) hw (by omega))
  obtain ⟨tt, htt⟩ : ∃ t, readTab ws = t := ⟨_, rfl⟩
  rw [htt] at R1 ⊢
  clear htt hf hok hgl hs0 hg hw h2 h3 h38 h39
  go_enter Tryz.func35, Tryz.ntmps35
  go_wp2_with fail
  try rw [hW0]
  refine R1.mono ?_
  rintro e w1 ⟨rfl, hc1, o1⟩
  have z1 := (hc1.block (w.heap.size + 1) (Array.getElem?_eq_some_iff.1 z0).1 (by simp)).trans z0
  have C1 : Ch [] w w1 := C0.trans2 hc1 (by intro t ht; right; simp at ht; omega)
  go_wp2
  refine bodyPost_ret (v := .tuple #[.agg (tcells tt), I 0]) (results_c0t Tryz.results35 _ _ _ rfl rfl (run_loadVar_row _ _ 26 26 (tcells tt) (0, 0) _ ?_ Tryz.underlying26 rfl (by rw [tcells_size]; kernel_rfl))) rfl ⟨rfl, ?_⟩
  · simp only [heap_onObj, if_true, z1, Option.map_some, laidAt_t]
  · exact C1.onObj (.inr (by omega)) _
/-- The table of forty words. -/
theorem Table_any (g o c : Nat) (cur : Array Value) (T : TypeId) (ws : Nat → BitVec 64) (hnc : 40 ≤ c) (hc : c ≤ 9223372036854775807) (w : World) (hg : w.heap[g]? = some (.cells cur T (0, 0))) (hw : AtW cur o ws) :
    Calls Tryz.prog 35 #[.slice (some ⟨g, o, none⟩) 40 c] w fun e w' => e = .returned (tupOr (fun v => .agg (tcells v)) (.agg (tcells zeroT)) (readE ws)) ∧ Ch [] w w' := by
  unfold readE
  cases h : readOk ws with
  | true => rw [if_pos rfl]; exact Table_ok g o c cur T ws h hnc hc w hg hw
  | false =>
    rw [if_neg (by decide)]
    have hgl : g < w.heap.size := (Array.getElem?_eq_some_iff.1 hg).1
    exact Table_err _ w (fun w1 WB OB c1 hW hO hb => tbl1_no WB OB g o c cur T ws h hnc hc w1 hW hO (hkeep c1 hg) hw (by omega)) rfl
end Go.Proofs.Hc
