/- Panics that are recovered in package table: need, tries. -/
import Derived.Test.YtmfajobocpaimaaGreatKHmet
import Derived.Test.YtmfajobocpaimaaGreatKHj
import Derived.Test.YtmfajobocpaimaaGreatKHm
import Derived.Test.YtmfajobocpaimaaGreatKHma
import Derived.Test.YtmfajobocpaimaaGreatKHmy
import Derived.Test.YtmfajobocpaimaaGreatKHrw
import Derived.Test.YtmfajobocpaimaaGreatKHh
import Derived.Test.YtmfajobocpaimaaGreatKHtc
import Derived.Test.YtmfajobocpaimaaGreatKHni
import Derived.Test.YtmfajobocpaimaaGreatKHxh
import Derived.Below
import Derived.BigQuiet
import Derived.Deep.Draws
import Derived.Deep.Light
import Derived.Deep.QuietTactic
import Derived.Laws.CopyRow
import Derived.Laws.Tables
import Derived.Lib.AppendZerosOnto
import Derived.Lib.Hide
import Derived.Lib.Tables
import Derived.Lib.Walk
import Derived.LoopIn
import Derived.LoopN
import Derived.LoopNIn
import Derived.Maps.AppendAt
import Derived.Maps.Views
import Derived.OwnWalkIn
import Derived.RangeFuncBox
import Derived.RangeFuncCalls
import Derived.RangeFuncRecord
import Derived.RangeFuncSeq
import Derived.Recover
import Derived.RegionTactic
import Derived.Shelf.Slices.Clone
import Derived.StillTail
import Derived.TacticsInMore
import Derived.Test.YtmfajobocpaimaaGreatProg
import Derived.WalkKit
import Derived.WalkLawsBesides
import Derived.WalkMore
import Derived.WalkSpells
import Derived.Deep.RegionHeld
import Derived.StillTailTactics
set_option linter.unusedSimpArgs false
set_option linter.unusedVariables false
namespace Go.Proofs.Hc
open Go.RowKit
attribute [local go_sem] wrap_u64 wrap_u8 bits_xor64 bits_and64 bits_or64 bits_not64 bits_xor8 bits_and8 bits_or8 signed64 signed8 ofInt_N BitVec.ofInt_add BitVec.ofInt_mul ofInt_sub' ofInt8_N64 ofInt64_N8 wide8 eqN neN shr_pow shr1 shr7 shr56
attribute [local go_sem high] bits_com64 shl_wrap
attribute [local go_sem] cell_heap ice_heap cellAt_cells iceAt_cells setAt_cells rowAt_cells canLay_cells laidAt_cells size_onObj size_setCell rowRes_some layRes_true
attribute [local go_sem] load26 load73 load23 store26 build73
attribute [local go_sem ↓] lrow26 lrow73 lrow23 srow26 zero26 brow73 heap_alloc heap_drew heap_drewN heap_setCell heap_onObj
attribute [local go_sem] tcells_size hcells_size tcells_get hcells_get tcells_one hcells_one hcells_table tcells_table hcells_all hcells_ctrl tcells_ctrl
attribute [local go_sem] nn2 nm2 nn3 nm3 nn4 nm4 nn5 nm5 nn6 nm6 nn7 nm7 nn8 nm8
attribute [local go_sem] loadA loadT2 storeA storeT2 buildA_ts buildA_sm assert_errno make_func acells_size t2cells_size acells_get t2cells_get acells_one t2cells_one acells_table acells_all t2cells_all t2cells_l t2cells_r
attribute [local go_sem ↓] lrowA lrowT2 srowA srowT2 browA zeroA_run zeroT2_run
theorem tneed_yes (c : Int) (w : World) :
    Calls Tryz.prog 71 #[.bool true, I c] w fun e w' => e = .returned (.tuple #[]) ∧ w = w' := by
  go_enter Tryz.func71, Tryz.ntmps71
  go_wp2
  go_end0
  exact ⟨rfl, rfl⟩
theorem tneed_no (c : Int) (w : World) :
    Calls Tryz.prog 71 #[.bool false, I c] w fun e w' => e = .panicked [{ v := .iface 32 (I c), recovered := false }] ∧ w = w' := by
  go_enter Tryz.func71, Tryz.ntmps71
  go_wp2
  exact ⟨rfl, rfl, rfl⟩
theorem catch_idlep (p q : Nat) (w : World) :
    CallsD Tryz.prog 152 #[.pointer (some ⟨p, 0, none⟩), .pointer (some ⟨q, 0, none⟩)] .returning w fun e u' w' => e = .returned (.tuple #[]) ∧ u' = .returning ∧ w = w' := by
  refine callsD_of_wpS Tryz.func152 rfl fun c₀ cs hu => ?_
  simp only [Tryz.ntmps152, List.size_toArray, List.length_cons, List.length_nil, Nat.reduceAdd, Nat.reduceSub, Array.replicate_succ, Array.replicate_zero, List.push_toArray, List.append_toArray, List.nil_append, List.cons_append]
  apply wpS_seq
  apply wpS_region
  simp [wpOpsS, go_sem, recoverD, hu, Exit.thenS]
  refine wpS_of_wp ?_
  go_wp2_with fail
  exact ⟨rfl, .returning, by cases c₀; simp_all, _, results_none rfl _ _ _, rfl, rfl, rfl⟩
set_option maxRecDepth 100000 in
theorem catch_panicp (p q : Nat) (c : Int) (c1 : Value) (c2 : Value) (w : World)
    (hp : w.heap[p]? = some (.cells #[c1] 27 (0, 0))) (hq : w.heap[q]? = some (.cells #[c2] 32 (0, 0))) (hpq : (p = q) = False) :
    CallsD Tryz.prog 152 #[.pointer (some ⟨p, 0, none⟩), .pointer (some ⟨q, 0, none⟩)] (.panicking [{ v := .iface 32 (I c), recovered := false }]) w fun e u' w' =>
      e = .returned (.tuple #[]) ∧ u' = .panicking [{ v := .iface 32 (I c), recovered := true }] ∧ Ch [p, q] w w' ∧
      w'.heap[p]? = some (.cells #[.slice none 0 0] 27 (0, 0)) ∧ w'.heap[q]? = some (.cells #[I c] 32 (0, 0)) := by
  have hp1 : (p = w.heap.size) = False := by have := (Array.getElem?_eq_some_iff.1 hp).1; simp; omega
  have hq1 : (q = w.heap.size) = False := by have := (Array.getElem?_eq_some_iff.1 hq).1; simp; omega
  have hqp : (q = p) = False := by simpa [eq_comm] using hpq
  refine callsD_of_wpS Tryz.func152 rfl fun c₀ cs hu => ?_
  simp only [Tryz.ntmps152, List.size_toArray, List.length_cons, List.length_nil, Nat.reduceAdd, Nat.reduceSub, Array.replicate_succ, Array.replicate_zero, List.push_toArray, List.append_toArray, List.nil_append, List.cons_append]
  apply wpS_seq
  apply wpS_region
  simp [wpOpsS, go_sem, recoverD, hu, Exit.thenS]
  refine wpS_of_wp ?_
  go_wp2_with fail
  refine ⟨rfl, _, rfl, _, results_none rfl _ _ _, rfl, rfl, ?_, ?_, ?_⟩
  · exact ((Ch.refl [p, q] w).setCell (p := ⟨p, 0, none⟩) (.inl (by simp)) _).setCell (p := ⟨q, 0, none⟩) (.inl (by simp)) _
  · simp only [heap_setCell, hpq, hp, if_false, if_true, Option.map_some, setAt_cells]
    rfl
  · simp only [heap_setCell, hqp, hq, if_false, if_true, Option.map_some, setAt_cells]
    rfl
theorem results_triesp (tmps : Array Value) (p q : Nat) (w : World) (v : Value) (c : Int) (hp : tmps.getD 6 undef = .pointer (some ⟨p, 0, none⟩)) (hq : tmps.getD 7 undef = .pointer (some ⟨q, 0, none⟩))
    (h1 : w.heap[p]? = some (.cells #[v] 27 (0, 0))) (h2 : w.heap[q]? = some (.cells #[I c] 32 (0, 0))) :
    (results Tryz.f98 tmps).run Tryz.prog w = .ok (.tuple #[v, I c]) w := by
  exact results_cell2 Tryz.results98 tmps _ _ w hp hq (load_one Tryz.underlying27 rfl p w h1) (load_one Tryz.underlying32 rfl q w h2)
set_option maxRecDepth 100000 in
theorem triesp_any (t : Tab) (s : BitVec 64) (df : Nat) (cap : Array Value) (n : Nat) (xs : List Value) (w : World)
    (hdf : ∀ args w, (callFunc df args).run Tryz.prog w = .ok (.enter df args) w)
    (hdoes : mayT t s = true → ∀ b w1, w1.heap[b]? = some (.cells (hcells t s) 112 (0, 0)) → Ch [] w w1 → w.heap.size ≤ b →
      Calls Tryz.prog df (#[.pointer (some ⟨b, 0, none⟩)] ++ cap) w1 fun e w2 => ∃ a c, e = .returned (.slice a n c) ∧ w2.ownsRow w1.heap.size 31 2 (.slice a n c) n xs ∧ Ch [b] w1 w2) :
    Calls Tryz.prog 98 #[U s, .agg (tcells t), .func (.func df) #[] cap] w fun e w' =>
      ∃ a c, e = .returned (.tuple #[.slice a (if mayT t s then n else 0) c, I (if mayT t s then 0 else 270)]) ∧ (mayT t s = true → w'.ownsRow w.heap.size 31 2 (.slice a n c) n xs) ∧ (mayT t s = false → a = none) ∧ Ch [] w w' := by
  cases hm : mayT t s with
  | false =>
    have hm1 := may_any t s
    rw [hm] at hm1
    clear hdoes hm
    simp only [if_false, Bool.false_eq_true]
    go_enter_defers Tryz.func98, Tryz.ntmps98
    go_wp2_with fail
    refine (hm1 _ _ ?_).mono ?_
    · simp [go_sem]
    rintro e w1 ⟨rfl, hc1⟩
    go_wp2_with (go_at_call 71; refine (tneed_no _ _).mono ?_; rintro e w2 ⟨rfl, rfl⟩)
    refine leaves_cons (f := 152) (args := #[.pointer (some ⟨w.heap.size + 1, 0, none⟩), .pointer (some ⟨w.heap.size + 1 + 1, 0, none⟩)]) (by simp) (by simp [go_sem]) ?_
    refine (catch_panicp _ _ _ (.slice none 0 0) (I 0) _ ?_ ?_ ?_).mono ?_
    · exact (hc1.block _ (by simp) (by simp)).trans (by simp [go_sem])
    · exact (hc1.block _ (by simp) (by simp)).trans (by simp [go_sem])
    · simp
    rintro e u' w2 ⟨rfl, rfl, hc2, h1, h2⟩
    have hsz := hc1.size
    simp only [World.size_alloc] at hsz
    refine ⟨_, results_triesp _ _ _ _ _ _ rfl rfl h1 h2, none, 0, rfl, fun h => by simp at h, fun _ => rfl, ?_⟩
    exact (((((Ch.refl [] w).alloc _).alloc _).alloc _).alloc _ |>.pure hc1).trans2 hc2 (by simp <;> omega)
  | true =>
    have hm1 := may_any t s
    rw [hm] at hm1
    have hdoes := hdoes hm
    clear hm
    simp only [if_true]
    go_enter_defers Tryz.func98, Tryz.ntmps98
    go_wp2_with fail
    refine (hm1 _ _ ?_).mono ?_
    · simp [go_sem]
    rintro e w1 ⟨rfl, hc1⟩
    go_wp2_with (go_at_call 71; refine (tneed_yes _ _).mono ?_; rintro e w2 ⟨rfl, rfl⟩)
    have hsz := hc1.size
    simp only [World.size_alloc] at hsz
    refine (hdoes _ _ ((hc1.block _ (by simp) (by simp)).trans (by simp [go_sem])) (((((Ch.refl [] w).alloc _).alloc _).alloc _).alloc _ |>.pure hc1) (by omega)).mono ?_
    rintro e w2 ⟨a, c, rfl, hown, hc2⟩
    have hz2 := hc2.size
    have h6 : w2.heap[w.heap.size + 1]? = some (.cells #[.slice none 0 0] 27 (0, 0)) := (hc2.block _ (by omega) (by simp)).trans ((hc1.block _ (by simp) (by simp)).trans (by simp [go_sem]))
    have h7 : w2.heap[w.heap.size + 1 + 1]? = some (.cells #[I 0] 32 (0, 0)) := (hc2.block _ (by omega) (by simp)).trans ((hc1.block _ (by simp) (by simp)).trans (by simp [go_sem]))
    go_wp2
    refine leaves_cons (f := 152) (args := #[.pointer (some ⟨w.heap.size + 1, 0, none⟩), .pointer (some ⟨w.heap.size + 1 + 1, 0, none⟩)]) (by simp) (by simp [go_sem]) ?_
    refine (catch_idlep _ _ _).mono ?_
    rintro e u' w3 ⟨rfl, rfl, rfl⟩
    have n67 : (w.heap.size + 1 = w.heap.size + 1 + 1) = False := by simp
    have n76 : (w.heap.size + 1 + 1 = w.heap.size + 1) = False := by simp
    have hfin : Ch [w.heap.size + 1, w.heap.size + 1 + 1] w2 ((w2.setCell ⟨w.heap.size + 1, 0, none⟩ (.slice a n c)).setCell ⟨w.heap.size + 1 + 1, 0, none⟩ (I 0)) := ((Ch.refl _ w2).setCell (p := ⟨w.heap.size + 1, 0, none⟩) (.inl (by simp)) _).setCell (p := ⟨w.heap.size + 1 + 1, 0, none⟩) (.inl (by simp)) _
    have hown2 := own_mono (own_ch hown hfin (by simp <;> omega)) (base' := w.heap.size) (by omega)
    refine ⟨_, results_triesp _ _ _ _ (.slice a n c) _ rfl rfl ?g6 ?g7, a, c, rfl, fun _ => hown2, fun h => by simp at h, ?gc⟩
    case g6 =>
      simp only [heap_setCell, h6, n67, if_false, if_true, Option.map_some, setAt_cells]
      rfl
    case g7 =>
      simp only [heap_setCell, h7, n76, if_false, if_true, Option.map_some, setAt_cells]
      rfl
    case gc =>
      exact ((((((((Ch.refl [] w).alloc _).alloc _).alloc _).alloc _).pure hc1).trans2 hc2 (by simp <;> omega)).setCell (p := ⟨_, _, none⟩) (.inr (by simp <;> omega)) _).setCell (.inr (by simp <;> omega)) _
end Go.Proofs.Hc
/- Package table: the exported functions that look at a table. -/
namespace Go.Proofs.Hc
open Go.RowKit
attribute [local go_sem] wrap_u64 wrap_u8 bits_xor64 bits_and64 bits_or64 bits_not64 bits_xor8 bits_and8 bits_or8 signed64 signed8 ofInt_N BitVec.ofInt_add BitVec.ofInt_mul ofInt_sub' ofInt8_N64 ofInt64_N8 wide8 eqN neN shr_pow shr1 shr7 shr56
attribute [local go_sem high] bits_com64 shl_wrap
attribute [local go_sem] cell_heap ice_heap cellAt_cells iceAt_cells setAt_cells rowAt_cells canLay_cells laidAt_cells size_onObj size_setCell rowRes_some layRes_true
attribute [local go_sem] load26 load73 load23 store26 build73
attribute [local go_sem ↓] lrow26 lrow73 lrow23 srow26 zero26 brow73 heap_alloc heap_drew heap_drewN heap_setCell heap_onObj
attribute [local go_sem] tcells_size hcells_size tcells_get hcells_get tcells_one hcells_one hcells_table tcells_table hcells_all hcells_ctrl tcells_ctrl
attribute [local go_sem] nn2 nm2 nn3 nm3 nn4 nm4 nn5 nm5 nn6 nm6 nn7 nm7 nn8 nm8
attribute [local go_sem] loadA loadT2 storeA storeT2 buildA_ts buildA_sm assert_errno make_func acells_size t2cells_size acells_get t2cells_get acells_one t2cells_one acells_table acells_all t2cells_all t2cells_l t2cells_r
attribute [local go_sem ↓] lrowA lrowT2 srowA srowT2 browA zeroA_run zeroT2_run
attribute [local go_sem] nn2 nm2 nn3 nm3 nn4 nm4 nn5 nm5 nn6 nm6 nn7 nm7 nn8 nm8
attribute [local go_sem] Oper.semAt_some make_func1 ofInt_pow8
attribute [local go_sem] box26 tcells_idx cell0 cell1 cell2 cell3 cell4 hcells_idx hcells_pop
attribute [local go_sem] cell5 cell6
theorem enters_pairs (args : Array Value) (w : World) : (callFunc 68 args).run Tryz.prog w = .ok (.enter 68 args) w := by kernel_rfl
theorem may_ok {t : Tab} {s : BitVec 64} (h : mayT t s = true) : ctrlOk (t.c 0) = true ∧ ctrlOk (t.c 1) = true := by
  rw [mayT] at h
  simp only [Bool.and_eq_true] at h
  exact h.1.1.1.2
set_option maxRecDepth 100000 in
theorem check_any (t : Tab) (s : BitVec 64) (w : World) :
    Calls Tryz.prog 31 #[U s, .agg (tcells t)] w fun e w' => e = .returned (I (if mayT t s then 0 else 270)) ∧ Ch [] w w' := by
  have M1 := fun b w hb => may_any t s b w hb
  generalize mayT t s = m at *
  cases m
  all_goals
    go_enter Tryz.func31, Tryz.ntmps31
    go_wp2_with fail
    refine (M1 (w.heap.size + 1) _ (by simp [go_sem])).mono ?_
    rintro e w1 ⟨rfl, hc1⟩
    go_wp2
    go_ret
    exact ⟨rfl, (((Ch.refl [] w).alloc _).alloc _).trans hc1⟩
end Go.Proofs.Hc
/- Package table: Pairs. -/
namespace Go.Proofs.Hc
open Go.RowKit
attribute [local go_sem] wrap_u64 wrap_u8 bits_xor64 bits_and64 bits_or64 bits_not64 bits_xor8 bits_and8 bits_or8 signed64 signed8 ofInt_N BitVec.ofInt_add BitVec.ofInt_mul ofInt_sub' ofInt8_N64 ofInt64_N8 wide8 eqN neN shr_pow shr1 shr7 shr56
attribute [local go_sem high] bits_com64 shl_wrap
attribute [local go_sem] cell_heap ice_heap cellAt_cells iceAt_cells setAt_cells rowAt_cells canLay_cells laidAt_cells size_onObj size_setCell rowRes_some layRes_true
attribute [local go_sem] load26 load73 load23 store26 build73
attribute [local go_sem ↓] lrow26 lrow73 lrow23 srow26 zero26 brow73 heap_alloc heap_drew heap_drewN heap_setCell heap_onObj
attribute [local go_sem] tcells_size hcells_size tcells_get hcells_get tcells_one hcells_one hcells_table tcells_table hcells_all hcells_ctrl tcells_ctrl
attribute [local go_sem] nn2 nm2 nn3 nm3 nn4 nm4 nn5 nm5 nn6 nm6 nn7 nm7 nn8 nm8
attribute [local go_sem] loadA loadT2 storeA storeT2 buildA_ts buildA_sm assert_errno make_func acells_size t2cells_size acells_get t2cells_get acells_one t2cells_one acells_table acells_all t2cells_all t2cells_l t2cells_r
attribute [local go_sem ↓] lrowA lrowT2 srowA srowT2 browA zeroA_run zeroT2_run
attribute [local go_sem] nn2 nm2 nn3 nm3 nn4 nm4 nn5 nm5 nn6 nm6 nn7 nm7 nn8 nm8
attribute [local go_sem] Oper.semAt_some make_func1 ofInt_pow8
attribute [local go_sem] box26 tcells_idx cell0 cell1 cell2 cell3 cell4 hcells_idx hcells_pop
attribute [local go_sem] cell5 cell6
/-- What a row of pairs comes to, in a table that may be. -/
def PairsPost (w : World) (l : List (BitVec 64 × BitVec 64)) (e : Ending) (w' : World) : Prop := ∃ a c, e = .returned (.slice a l.length c) ∧ w'.ownsRow w.heap.size 31 2 (.slice a l.length c) l.length (pcells l) ∧ Ch [] w w'
set_option maxRecDepth 100000 in
theorem Pairs_yes (t : Tab) (s : BitVec 64) (w : World) (hm : mayT t s = true) :
    Calls Tryz.prog 34 #[U s, .agg (tcells t)] w (PairsPost w (pairsT t)) := by
  obtain ⟨h0, h1⟩ := may_ok hm
  have T1 := fun (w : World) hd => triesp_any t s 68 #[] (pairsT t).length (pcells (pairsT t)) w enters_pairs hd
  have D1 := fun b w hb => pairs_any t s b w h0 h1 hb
  rw [hm] at T1
  clear hm h0 h1
  generalize pairsT t = l at *
  go_enter Tryz.func34, Tryz.ntmps34
  go_wp2_with fail
  refine (T1 _ ?_).mono ?_
  · intro _ b w1 hb hc hle
    refine (D1 b w1 hb).mono ?_
    rintro e w2 ⟨a, c, rfl, ho, hc2⟩
    exact ⟨a, c, rfl, ho, hc2.of_nil⟩
  · rintro e w1 ⟨a, c, rfl, ho, -, hc1⟩
    have HO := Lib.hid (ho trivial)
    clear ho T1 D1
    simp only [if_true]
    go_wp2
    go_ret
    exact ⟨a, c, rfl, own_mono HO.out (base' := w.heap.size) (by simp), ((Ch.refl [] w).alloc _).trans hc1⟩
end Go.Proofs.Hc
