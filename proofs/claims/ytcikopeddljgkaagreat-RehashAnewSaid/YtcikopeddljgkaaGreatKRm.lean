/- Package layout: what is tried, and the reader of a table's words. -/
import Derived.Test.YtcikopeddljgkaaGreatKHcb
import Derived.Test.YtcikopeddljgkaaGreatKHma
import Derived.Test.YtcikopeddljgkaaGreatKHmet
import Derived.Test.YtcikopeddljgkaaGreatKHr
import Derived.Below
import Derived.BigQuiet
import Derived.Deep.Draws
import Derived.Deep.Light
import Derived.Deep.QuietTactic
import Derived.Deep.RegionHeld
import Derived.Laws.CopyOwn
import Derived.Laws.CopyRow
import Derived.Laws.Tables
import Derived.Lib.AppendZerosOnto
import Derived.Lib.Hide
import Derived.Lib.Tables
import Derived.Lib.Walk
import Derived.LoopIn
import Derived.LoopN
import Derived.LoopNIn
import Derived.Maps.AppendAt
import Derived.Maps.Views
import Derived.OpenShut
import Derived.OwnWalkIn
import Derived.ProofKit
import Derived.RangeFuncBox
import Derived.RangeFuncCalls
import Derived.RangeFuncRecord
import Derived.RangeFuncSeq
import Derived.Recover
import Derived.RegionTactic
import Derived.Shelf.Slices.Clone
import Derived.StillTail
import Derived.StillTailTactics
import Derived.TacticsInMore
import Derived.Test.YtcikopeddljgkaaGreatProg
import Derived.WalkKit
import Derived.WalkLawsBesides
import Derived.WalkMore
import Derived.WalkSpells
set_option linter.unusedSimpArgs false
set_option linter.unusedVariables false
namespace Go.Proofs.Hc
open Go.RowKit
attribute [local go_sem] wrap_u64 wrap_u8 bits_xor64 bits_and64 bits_or64 bits_not64 bits_xor8 bits_and8 bits_or8 signed64 signed8 ofInt_N BitVec.ofInt_add BitVec.ofInt_mul ofInt_sub' ofInt8_N64 ofInt64_N8 wide8 eqN neN shr_pow shr1 shr7 shr56
attribute [local go_sem high] bits_com64 shl_wrap
attribute [local go_sem] cell_heap ice_heap cellAt_cells iceAt_cells setAt_cells rowAt_cells canLay_cells laidAt_cells size_onObj size_setCell rowRes_some layRes_true
attribute [local go_sem] load26 load73 load23 store26 build73
attribute [local go_sem ↓] lrow26 lrow73 lrow23 srow26 zero26 brow73 heap_alloc heap_drew heap_drewN heap_setCell heap_onObj
attribute [local go_sem] tcells_size hcells_size tcells_get hcells_get tcells_one hcells_one hcells_table tcells_table hcells_all hcells_ctrl tcells_ctrl
attribute [local go_sem] nn2 nm2 nn3 nm3 nn4 nm4 nn5 nm5 nn6 nm6 nn7 nm7 nn8 nm8
attribute [local go_sem] nn2 nm2 nn3 nm3 nn4 nm4 nn5 nm5 nn6 nm6 nn7 nm7 nn8 nm8
attribute [local go_sem] Oper.semAt_some make_func1
theorem assert_wrong (v : Value) (w : World) : (Instr.typeAssert (.iface 244 v) 20 244 true).run Tryz.prog w = .ok (.tuple #[v, .bool true]) w := by kernel_rfl
attribute [local go_sem] assert_wrong
theorem lneed_yes (w : World) : Calls Tryz.prog 107 #[.bool true] w fun e w' => e = .returned (.tuple #[]) ∧ w = w' := by
  go_enter Tryz.func107, Tryz.ntmps107
  go_wp2
  go_end0
  exact ⟨rfl, rfl⟩
theorem lneed_no (w : World) : Calls Tryz.prog 107 #[.bool false] w fun e w' => e = .panicked [{ v := .iface 244 (.agg #[]), recovered := false }] ∧ w = w' := by
  go_enter Tryz.func107, Tryz.ntmps107
  go_wp2
  exact ⟨rfl, rfl, rfl⟩
theorem lcatch_idle (p : Nat) (w : World) :
    CallsD Tryz.prog 162 #[.pointer (some ⟨p, 0, none⟩)] .returning w fun e u' w' => e = .returned (.tuple #[]) ∧ u' = .returning ∧ w = w' := by
  refine callsD_of_wpS Tryz.func162 rfl fun c₀ cs hu => ?_
  simp only [Tryz.ntmps162, List.size_toArray, List.length_cons, List.length_nil, Nat.reduceAdd, Nat.reduceSub, Array.replicate_succ, Array.replicate_zero, List.push_toArray, List.append_toArray, List.nil_append, List.cons_append]
  apply wpS_seq
  apply wpS_region
  simp [wpOpsS, go_sem, recoverD, hu, Exit.thenS]
  refine wpS_of_wp ?_
  go_wp2_with fail
  exact ⟨rfl, .returning, by cases c₀; simp_all, _, results_none rfl _ _ _, rfl, rfl, rfl⟩
set_option maxRecDepth 100000 in
theorem lcatch_panic (p : Nat) (c : Value) (w : World) (hp : w.heap[p]? = some (.cells #[c] 4 (0, 0))) :
    CallsD Tryz.prog 162 #[.pointer (some ⟨p, 0, none⟩)] (.panicking [{ v := .iface 244 (.agg #[]), recovered := false }]) w fun e u' w' =>
      e = .returned (.tuple #[]) ∧ u' = .panicking [{ v := .iface 244 (.agg #[]), recovered := true }] ∧ Ch [p] w w' ∧ w'.heap[p]? = some (.cells #[.bool false] 4 (0, 0)) := by
  have hp1 : ¬ p = w.heap.size := by have := (Array.getElem?_eq_some_iff.1 hp).1; omega
  refine callsD_of_wpS Tryz.func162 rfl fun c₀ cs hu => ?_
  simp only [Tryz.ntmps162, List.size_toArray, List.length_cons, List.length_nil, Nat.reduceAdd, Nat.reduceSub, Array.replicate_succ, Array.replicate_zero, List.push_toArray, List.append_toArray, List.nil_append, List.cons_append]
  apply wpS_seq
  apply wpS_region
  simp [wpOpsS, go_sem, recoverD, hu, Exit.thenS]
  refine wpS_of_wp ?_
  go_wp2_with fail
  refine ⟨rfl, _, rfl, _, results_none rfl _ _ _, rfl, rfl, ?_, ?_⟩
  · exact ((Ch.refl [p] w).alloc _).setCell (p := ⟨p, 0, none⟩) (.inl (by simp)) _
  · simp only [heap_setCell, heap_alloc, if_neg hp1, hp, if_true, Option.map_some, setAt_cells]
    rfl
set_option maxRecDepth 100000 in
theorem ltries_ok (df : Nat) (cap : Array Value) (ob : Nat) (oo : Obj) (w : World) (ho : ob < w.heap.size)
    (hdf : ∀ args w, (callFunc df args).run Tryz.prog w = .ok (.enter df args) w)
    (hdoes : ∀ w1, Ch [] w w1 → Calls Tryz.prog df cap w1 fun e w2 => e = .returned (.tuple #[]) ∧ Ch [ob] w1 w2 ∧ w2.heap[ob]? = some oo) :
    Calls Tryz.prog 104 #[.func (.func df) #[] cap] w fun e w' => e = .returned (.bool true) ∧ Ch [ob] w w' ∧ w'.heap[ob]? = some oo := by
  have C0 : Ch [] w (w.alloc (.cells #[.bool false] 4)) := (Ch.refl [] w).alloc _
  have hd := hdoes _ C0
  go_enter_defers Tryz.func104, Tryz.ntmps104
  go_wp2_with fail
  refine hd.mono ?_
  rintro e w2 ⟨rfl, hc2, h2⟩
  have hz2 := hc2.size
  simp only [World.size_alloc] at hz2
  have h6 : w2.heap[w.heap.size]? = some (.cells #[.bool false] 4 (0, 0)) := (hc2.block _ (by simp) (by simp; omega)).trans (by simp [go_sem])
  go_wp2
  refine leaves_cons (f := 162) (args := #[.pointer (some ⟨w.heap.size, 0, none⟩)]) (by simp) (by simp [go_sem]) ?_
  refine (lcatch_idle _ _).mono ?_
  rintro e u' w3 ⟨rfl, rfl, rfl⟩
  have e6 : (w2.setCell ⟨w.heap.size, 0, none⟩ (.bool true)).heap[w.heap.size]? = some (.cells #[.bool true] 4 (0, 0)) := by
    simp only [heap_setCell, h6, if_true, Option.map_some, setAt_cells]
    rfl
  refine ⟨_, results_cell1 Tryz.results104 _ _ _ rfl (load_one Tryz.underlying4 rfl _ _ e6), rfl, ?_, ?_⟩
  · exact (C0.of_nil.trans hc2).setCell (p := ⟨w.heap.size, 0, none⟩) (.inr (by simp)) _
  · rw [heap_setCell, if_neg (by show ¬ ob = w.heap.size; omega)]; exact h2
set_option maxRecDepth 100000 in
theorem ltries_no (df : Nat) (cap : Array Value) (w : World)
    (hdf : ∀ args w, (callFunc df args).run Tryz.prog w = .ok (.enter df args) w)
    (hdoes : ∀ w1, Ch [] w w1 → Calls Tryz.prog df cap w1 fun e w2 => e = .panicked [{ v := .iface 244 (.agg #[]), recovered := false }] ∧ Ch [] w1 w2) :
    Calls Tryz.prog 104 #[.func (.func df) #[] cap] w fun e w' => e = .returned (.bool false) ∧ Ch [] w w' := by
  have C0 : Ch [] w (w.alloc (.cells #[.bool false] 4)) := (Ch.refl [] w).alloc _
  have hd := hdoes _ C0
  go_enter_defers Tryz.func104, Tryz.ntmps104
  go_wp2_with fail
  refine hd.mono ?_
  rintro e w2 ⟨rfl, hc2⟩
  have h6 : w2.heap[w.heap.size]? = some (.cells #[.bool false] 4 (0, 0)) := (hc2.block _ (by simp) (by simp)).trans (by simp [go_sem])
  refine leaves_cons (f := 162) (args := #[.pointer (some ⟨w.heap.size, 0, none⟩)]) (by simp) (by simp [go_sem]) ?_
  refine (lcatch_panic _ _ _ h6).mono ?_
  rintro e u' w3 ⟨rfl, rfl, hc3, h1⟩
  refine ⟨_, results_cell1 Tryz.results104 _ _ _ rfl (load_one Tryz.underlying4 rfl _ _ h1), rfl, ?_⟩
  exact (C0.trans hc2).trans2 hc3 (by simp)
/-- A reader: a table, and the words that are left. -/
def readC (t : Tab) (v : Value) : Array Value := Array.ofFn (n := 40) fun i => if i.1 = 39 then v else t.cell i.1
theorem readC_size (t : Tab) (v : Value) : (readC t v).size = 40 := by simp [readC]
theorem readC_get (t : Tab) (v : Value) (i : Nat) : (readC t v)[i]? = if i < 40 then some (if i = 39 then v else t.cell i) else none := by
  unfold readC; rw [Array.getElem?_ofFn]; simp
theorem readC_39 (t : Tab) (a : Option Addr) (n c : Nat) : (readC t (.slice a n c))[39]? = some (.slice a n c) := by rw [readC_get]; rfl
theorem readC_one (t : Tab) (a : Option Addr) (n c : Nat) : allOne (readC t (.slice a n c)) = true := by
  unfold allOne
  simp only [readC, Array.all_eq_true_iff_forall_mem, Array.mem_ofFn]; rintro v ⟨i, rfl⟩; split; rfl; exact cell_one ..
theorem readC_table (t : Tab) (v : Value) : (readC t v).extract 0 39 = tcells t := by
  apply Array.ext_getElem?; intro i
  rw [Array.getElem?_extract, tcells_get, readC_get, readC_size]
  by_cases h : i < 39
  · simp [h, show i < 40 by omega, show i ≠ 39 by omega]
  · simp [h]
theorem rset {t t' : Tab} {v : Value} {j : Nat} {x : Value} (hj : j < 39) (hx : t'.cell j = x) (ho : ∀ i, i < 39 → i ≠ j → t'.cell i = t.cell i) :
    (readC t v).setIfInBounds j x = readC t' v := by
  apply Array.ext_getElem?; intro i
  rw [Array.getElem?_setIfInBounds, readC_get, readC_get, readC_size]
  by_cases h : j = i
  · subst h; simp [show j < 40 by omega, show j ≠ 39 by omega, hx]
  · rw [if_neg h]
    by_cases h2 : i < 40
    · simp only [h2, if_true]
      by_cases h3 : i = 39
      · simp [h3]
      · simp only [h3, if_false]; rw [ho i (by omega) (fun e => h e.symm)]
    · simp [h2]
theorem rset_count (t : Tab) (v : Value) (x : BitVec 64) : (readC t v).setIfInBounds 0 (U x) = readC { t with count := x } v :=
  rset (by omega) rfl (fun i _ h => by unfold Tab.cell; split <;> first | rfl | omega)
theorem rset_depth (t : Tab) (v : Value) (x : Int) : (readC t v).setIfInBounds 1 (I x) = readC { t with depth := x } v :=
  rset (by omega) rfl (fun i _ h => by unfold Tab.cell; split <;> first | rfl | omega)
theorem rset_pre (t : Tab) (v : Value) (x : BitVec 64) : (readC t v).setIfInBounds 2 (U x) = readC { t with pre := x } v :=
  rset (by omega) rfl (fun i _ h => by unfold Tab.cell; split <;> first | rfl | omega)
theorem rset_can (t : Tab) (v : Value) (x : Int) : (readC t v).setIfInBounds 3 (I x) = readC { t with can := x } v :=
  rset (by omega) rfl (fun i _ h => by unfold Tab.cell; split <;> first | rfl | omega)
theorem rset_live (t : Tab) (v : Value) (x : Int) : (readC t v).setIfInBounds 4 (I x) = readC { t with live := x } v :=
  rset (by omega) rfl (fun i _ h => by unfold Tab.cell; split <;> first | rfl | omega)
theorem rset_rest (t : Tab) (v x : Value) : (readC t v).setIfInBounds 39 x = readC t x := by
  apply Array.ext_getElem?; intro i
  rw [Array.getElem?_setIfInBounds, readC_get, readC_get, readC_size]
  by_cases h : 39 = i
  · subst h; rfl
  · rw [if_neg h]
    by_cases h2 : i < 40
    · rw [if_pos h2, if_pos h2, if_neg (fun e => h e.symm), if_neg (fun e => h e.symm)]
    · rw [if_neg h2, if_neg h2]
/-- A part laid into a reader. -/
theorem rsplice {t t' : Tab} {v : Value} {o n : Nat} {f : Nat → BitVec 64} (hn : o + n ≤ 39) (hx : ∀ i, i < n → t'.cell (o + i) = U (f i)) (ho : ∀ i, i < 39 → ¬ (o ≤ i ∧ i < o + n) → t'.cell i = t.cell i) :
    ((readC t v).toList.take o ++ (List.range n).map (fun i => U (f i)) ++ (readC t v).toList.drop (o + ((List.range n).map (fun i => U (f i))).length)).toArray = readC t' v := by
  have hl1 : ((readC t v).toList.take o).length = o := by simp [readC_size]; omega
  have hl2 : ((List.range n).map (fun i => U (f i))).length = n := by simp
  apply Array.ext_getElem?; intro i
  rw [List.getElem?_toArray, hl2, readC_get t' v]
  by_cases h1 : i < o
  · rw [List.append_assoc, List.getElem?_append_left (by rw [hl1]; exact h1), List.getElem?_take, if_pos h1, Array.getElem?_toList, readC_get, if_pos (show i < 40 by omega), if_neg (show ¬ i = 39 by omega), if_pos (show i < 40 by omega), if_neg (show ¬ i = 39 by omega), ho i (by omega) (by omega)]
  · by_cases h2 : i < o + n
    · rw [List.append_assoc, List.getElem?_append_right (by rw [hl1]; omega), hl1, List.getElem?_append_left (by rw [hl2]; omega), List.getElem?_map, List.getElem?_range (by omega), if_pos (show i < 40 by omega), if_neg (show ¬ i = 39 by omega)]
      have := hx (i - o) (by omega)
      rw [show o + (i - o) = i by omega] at this
      rw [this]; rfl
    · rw [List.getElem?_append_right (by rw [List.length_append, hl1, hl2]; omega), List.length_append, hl1, hl2, List.getElem?_drop, Array.getElem?_toList, show o + n + (i - (o + n)) = i by omega, readC_get]
      by_cases h3 : i < 40
      · rw [if_pos h3, if_pos h3]
        by_cases h4 : i = 39
        · rw [if_pos h4, if_pos h4]
        · rw [if_neg h4, if_neg h4, ho i (by omega) (by omega)]
      · rw [if_neg h3, if_neg h3]
theorem rsplice_c (t : Tab) (v : Value) (f : Nat → BitVec 64) : ((readC t v).toList.take 5 ++ (List.range 2).map (fun i => U (f i)) ++ (readC t v).toList.drop (5 + ((List.range 2).map (fun i => U (f i))).length)).toArray = readC { t with c := fun g => if g < 2 then f g else 0#64 } v := by
  refine rsplice (by omega) (fun i hi => ?_) (fun i hi h => ?_)
  · match i, hi with
    | 0, _ => rfl
    | 1, _ => rfl
  · match i, hi with
    | 0, _ => rfl
    | 1, _ => rfl
    | 2, _ => rfl
    | 3, _ => rfl
    | 4, _ => rfl
    | 5, _ => exact absurd ⟨by omega, by omega⟩ h
    | 6, _ => exact absurd ⟨by omega, by omega⟩ h
    | i + 7, _ => rfl
theorem rsplice_k (t : Tab) (v : Value) (f : Nat → BitVec 64) : ((readC t v).toList.take 7 ++ (List.range 16).map (fun i => U (f i)) ++ (readC t v).toList.drop (7 + ((List.range 16).map (fun i => U (f i))).length)).toArray = readC { t with k := fun g => if g < 16 then f g else 0#64 } v := by
  refine rsplice (by omega) (fun i hi => ?_) (fun i hi h => ?_)
  · rw [Nat.add_comm]
    show (if i < 16 then U (if i < 16 then f i else 0#64) else _) = _
    rw [if_pos hi, if_pos hi]
  · match i, hi with
    | 0, _ => rfl
    | 1, _ => rfl
    | 2, _ => rfl
    | 3, _ => rfl
    | 4, _ => rfl
    | 5, _ => rfl
    | 6, _ => rfl
    | i + 7, _ =>
      show (if i < 16 then _ else U (t.v (i - 16))) = if i < 16 then _ else U (t.v (i - 16))
      rw [if_neg (by omega), if_neg (by omega)]
theorem rsplice_v (t : Tab) (v : Value) (f : Nat → BitVec 64) : ((readC t v).toList.take 23 ++ (List.range 16).map (fun i => U (f i)) ++ (readC t v).toList.drop (23 + ((List.range 16).map (fun i => U (f i))).length)).toArray = readC { t with v := fun g => if g < 16 then f g else 0#64 } v := by
  refine rsplice (by omega) (fun i hi => ?_) (fun i hi h => ?_)
  · rw [show 23 + i = (16 + i) + 7 by omega]
    show (if 16 + i < 16 then _ else U (if 16 + i - 16 < 16 then f (16 + i - 16) else 0#64)) = _
    rw [if_neg (by omega), if_pos (by omega), show 16 + i - 16 = i by omega]
  · match i, hi with
    | 0, _ => rfl
    | 1, _ => rfl
    | 2, _ => rfl
    | 3, _ => rfl
    | 4, _ => rfl
    | 5, _ => rfl
    | 6, _ => rfl
    | i + 7, _ =>
      show (if i < 16 then U (t.k i) else _) = if i < 16 then U (t.k i) else _
      rw [if_pos (by omega), if_pos (by omega)]
/-- A number that is at most 14. -/
theorem small_i64 (x : BitVec 64) (h : x.toNat ≤ 200) : IntKind.i64.wrap (N x) = N x := by
  unfold N
  have : x.toNat = 0 ∨ True := .inr trivial
  simp only [IntKind.wrap, IntKind.signed, IntKind.bits]
  simp
  omega
set_option maxRecDepth 100000 in
theorem number_yes (x : BitVec 64) (h : x.toNat ≤ 14) (w : World) : Calls Tryz.prog 108 #[U x, I 14] w fun e w' => e = .returned (I (x.toNat : Int)) ∧ w = w' := by
  have h1 : N x ≤ N (14#64) := by show ((x.toNat : Nat) : Int) ≤ ((14 : Nat) : Int); omega
  have h2 := small_i64 x (by omega)
  go_enter Tryz.func108, Tryz.ntmps108
  go_wp2_with (go_at_call 107; refine (lneed_yes _).mono ?_; rintro e w' ⟨rfl, rfl⟩)
  go_ret
  exact ⟨rfl, rfl⟩
set_option maxRecDepth 100000 in
theorem number_no (x : BitVec 64) (h : 14 < x.toNat) (w : World) : Calls Tryz.prog 108 #[U x, I 14] w fun e w' => e = .panicked [{ v := .iface 244 (.agg #[]), recovered := false }] ∧ w = w' := by
  have h1 : ¬ N x ≤ N (14#64) := by show ¬ ((x.toNat : Nat) : Int) ≤ ((14 : Nat) : Int); omega
  go_enter Tryz.func108, Tryz.ntmps108
  go_wp2_with (go_at_call 107; refine (lneed_no _).mono ?_; rintro e w' ⟨rfl, rfl⟩)
  exact ⟨rfl, rfl, rfl⟩
end Go.Proofs.Hc
