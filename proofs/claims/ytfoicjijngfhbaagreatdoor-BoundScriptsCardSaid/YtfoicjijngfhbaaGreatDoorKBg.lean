/- Package script: words, right. -/
import Derived.Test.YtfoicjijngfhbaaGreatDoorKBc
import Derived.Test.YtfoicjijngfhbaaGreatDoorKBf
import Derived.Test.YtfoicjijngfhbaaGreatDoorKDa
import Derived.Test.YtfoicjijngfhbaaGreatDoorKHm
import Derived.Test.YtfoicjijngfhbaaGreatDoorKHr
import Derived.Below
import Derived.BigQuiet
import Derived.Deep.Cut
import Derived.Deep.Draws
import Derived.Deep.QuietTactic
import Derived.Deep.RegionHeld
import Derived.Laws.CopyRow
import Derived.Laws.EntriesVeiled
import Derived.Laws.Tables
import Derived.Lib.Hide
import Derived.LoopIn
import Derived.LoopNIn
import Derived.OwnWalkIn
import Derived.RangeFuncCalls
import Derived.RangeFuncRecord
import Derived.RangeFuncSeq
import Derived.Recover
import Derived.TacticsInMore
import Derived.Test.YtfoicjijngfhbaaGreatDoorProg
import Derived.WalkKit
import Derived.WalkLawsBesides
set_option linter.unusedSimpArgs false
set_option linter.unusedVariables false
namespace Go.Proofs.Hc
open Go.RowKit
set_option linter.unusedVariables false
attribute [local go_sem] wrap_u64 wrap_u8 bits_xor64 bits_and64 bits_or64 bits_not64 bits_xor8 bits_and8 bits_or8 signed64 signed8 ofInt_N BitVec.ofInt_add BitVec.ofInt_mul ofInt_sub' ofInt8_N64 ofInt64_N8 wide8 eqN neN shr_pow shr1 shr7 shr56
attribute [local go_sem high] bits_com64 shl_wrap
attribute [local go_sem] nn2 nm2 nn3 nm3 nn4 nm4 nn5 nm5 nn6 nm6 nn7 nm7 nn8 nm8
attribute [local go_sem] Oper.semAt_some make_func1 make_funcB
theorem results_cellB1 {P : Program} {fn : Func} {p : Tmp} {T1 : TypeId} (h : fn.results = #[.cell p T1]) (tmps : Array Value) (a : Addr) (w : World) {x : Value}
    (hp : tmps.getD p undef = .pointer (some a)) (h1 : (loadVar T1 a).run P w = .ok x w) : (results fn tmps).run P w = .ok x w := by
  have hp' : tmps[p]?.getD undef = .pointer (some a) := by simpa using hp
  simp [results, h, hp', asAddr, h1]
theorem sconw_any (a o n c g : Nat) (P : Nat → Nat × Nat) (X : Nat → BitVec 64) (w : World) (hn : n ≤ 3) (hp : ∀ i, i < n → w.cell? ⟨a, o + i, none⟩ = some (.pointer (some ⟨(P i).1, (P i).2, none⟩))) (hx : ∀ i, i < n → w.cell? ⟨(P i).1, (P i).2, none⟩ = some (U (X i)))
    (hg : w.cell? ⟨g, 0, none⟩ = some (.func (.func 69) #[] #[])) (b : Bool) (hb : b = true ↔ ∃ i, i < n ∧ X i ≠ 0#64) :
    Calls Tryz.prog 87 #[.slice (some ⟨a, o, none⟩) n c, .func (.func 88) #[] #[.pointer (some ⟨g, 0, none⟩)]] w fun e w' => e = .returned (.bool b) ∧ w = w' := by
  have I1 := sidxw_any a o n c g P X w hn hp hx hg
  clear hp hx hg
  have HB := Lib.hid hb
  clear hb
  go_enter Tryz.func87, Tryz.ntmps87
  go_wp2_with fail
  refine I1.mono ?_
  rintro e w' ⟨r, rfl, hr, rfl⟩
  rcases hr with ⟨rfl, hz⟩ | ⟨hr, hz⟩
  · have e : b = false := by
      cases b with
      | false => rfl
      | true => obtain ⟨i, hi, hne⟩ := HB.out.1 rfl; exact absurd (hz i hi) hne
    subst e
    clear hz
    go_wp2
    go_ret
    exact ⟨rfl, rfl⟩
  · have e : b = true := HB.out.2 hz
    subst e
    clear hz
    go_wp2
    go_ret
    exact ⟨rfl, rfl⟩
attribute [local go_sem] cell_heap ice_heap cellAt_cells iceAt_cells setAt_cells size_setCell rowAt_cells canLay_cells laidAt_cells size_onObj rowRes_some layRes_true
attribute [local go_sem ↓] heap_alloc heap_drew heap_drewN heap_setCell heap_putObj heap_onObj
theorem sallws_any (a o n c : Nat) (P : Nat → Nat × Nat) (X : Nat → BitVec 64) (w : World) (hn : n ≤ 3) (hp : ∀ i, i < n → w.cell? ⟨a, o + i, none⟩ = some (.pointer (some ⟨(P i).1, (P i).2, none⟩))) (hx : ∀ i, i < n → w.cell? ⟨(P i).1, (P i).2, none⟩ = some (U (X i)))
    (b : Bool) (hb : b = true ↔ ∃ i, i < n ∧ X i ≠ 0#64) (ha : a < w.heap.size) (hP : ∀ i, i < n → (P i).1 < w.heap.size) :
    Calls Tryz.prog 68 #[.slice (some ⟨a, o, none⟩) n c, .func (.func 69) #[] #[]] w fun e w' => e = .returned (.bool (!b)) ∧ Ch [] w w' := by
  have C : Ch [] w (w.alloc (.cells #[.func (.func 69) #[] #[]] 86)) := (Ch.refl [] w).alloc _
  have hg : (w.alloc (.cells #[.func (.func 69) #[] #[]] 86)).cell? ⟨w.heap.size, 0, none⟩ = some (.func (.func 69) #[] #[]) := by
    rw [cell_heap, heap_alloc, if_pos rfl]; rfl
  have I1 := sconw_any a o n c w.heap.size P X _ hn (fun i hi => (C.cell _ _ ha).trans (hp i hi)) (fun i hi => (C.cell _ _ (hP i hi)).trans (hx i hi)) hg b hb
  clear hp hx hg hb hP
  go_enter Tryz.func68, Tryz.ntmps68
  go_wp2_with fail
  refine I1.mono ?_
  rintro e w' ⟨rfl, rfl⟩
  go_wp2
  go_ret
  exact ⟨rfl, C⟩
theorem srow3p (a : Addr) (v : Value) : storeVar 81 a v = storeRow 81 a v := rfl
theorem store3p (g o : Nat) (vs : Array Value) (w : World) : (storeRow 81 ⟨g, o, none⟩ (.agg vs)).run Tryz.prog w = layRes Tryz.prog 81 g o vs w (((w.heap[g]?).map (canLay o 3 vs)).getD false) :=
  run_lay (by kernel_rfl) g o vs w
theorem brow3p (ps : Array (Nat × Value)) : Instr.build 81 ps = buildRow 81 ps := rfl
theorem build3p (a b c : Option Addr) (w : World) : (buildRow 81 #[(0, .pointer a), (1, .pointer b), (2, .pointer c)]).run Tryz.prog w = .ok (.agg #[.pointer a, .pointer b, .pointer c]) w := by kernel_rfl
theorem one3p (a b c : Option Addr) : allOne #[.pointer a, .pointer b, .pointer c] = true := by simp [allOne, Value.oneCell']
attribute [local go_sem] store3p build3p one3p
attribute [local go_sem ↓] srow3p brow3p
def wp3 (B : Nat) : Array Value := #[.pointer (some ⟨B, 1, none⟩), .pointer (some ⟨B, 2, none⟩), .pointer (some ⟨B, 3, none⟩)]
theorem w3_world (B : Nat) (w : World) : ∃ W, w.alloc (.cells #[.pointer none, .pointer none, .pointer none] 81) = W ∧ Ch [] w W ∧ W.heap[w.heap.size]? = some (.cells #[.pointer none, .pointer none, .pointer none] 81 (0, 0)) :=
  ⟨_, rfl, (Ch.refl [] w).alloc _, by rw [heap_alloc, if_pos rfl]⟩
set_option maxRecDepth 100000 in
theorem swords_any (B : Nat) (w : World) :
    Calls Tryz.prog 67 #[.pointer (some ⟨B, 0, none⟩)] w fun e w' => e = .returned (.agg (wp3 B)) ∧ Ch [] w w' := by
  obtain ⟨W, hW, C, h0⟩ := w3_world B w
  go_enter Tryz.func67, Tryz.ntmps67
  go_wp2_with fail
  try rw [hW]
  clear hW
  have sP : (fun W' : World => Ch [] w W' ∧ W'.heap[w.heap.size]? = some (.cells #[.pointer none, .pointer none, .pointer none] 81 (0, 0))) W.drew := ⟨C.drew, h0⟩
  refine wp_region_held_drew (S := fun W' : World => Ch [] w W' ∧ ∃ cs, W'.heap[w.heap.size]? = some (.cells cs 81 (0, 0)) ∧ (cs = #[.pointer none, .pointer none, .pointer none] ∨ cs = wp3 B)) (by kernel_rfl) ⟨sP.1, _, sP.2, .inl rfl⟩ ?_
  intro _
  simp only [List.size_toArray, List.length_cons, List.length_nil, Nat.reduceAdd]
  clear C h0
  generalize W.drew = w2 at *
  refine wpAnyH_take (i := 0) (oi := ⟨some 3, _, _, _, _, none⟩) (v := ?_) rfl (by kernel_rfl) (by kernel_rfl) (by kernel_rfl) (fun _ _ _ h => h) (Or.inl ⟨by rfl, ?_⟩) ⟨sP.1, _, sP.2, .inl rfl⟩ ?_
  rotate_left
  · intro wq hSq
    first | (go_simp; done) | (go_simp; with_reducible rfl)
  try simp only [Act.put, List.setIfInBounds_toArray, List.set_cons_zero, List.set_cons_succ]
  refine wpAnyH_take (i := 1) (oi := ⟨some 4, _, _, _, _, none⟩) (v := ?_) rfl (by kernel_rfl) (by kernel_rfl) (by kernel_rfl) (fun _ _ _ h => h) (Or.inl ⟨by rfl, ?_⟩) ⟨sP.1, _, sP.2, .inl rfl⟩ ?_
  rotate_left
  · intro wq hSq
    first | (go_simp; done) | (go_simp; with_reducible rfl)
  try simp only [Act.put, List.setIfInBounds_toArray, List.set_cons_zero, List.set_cons_succ]
  refine wpAnyH_take (i := 2) (oi := ⟨some 5, _, _, _, _, none⟩) (v := ?_) rfl (by kernel_rfl) (by kernel_rfl) (by kernel_rfl) (fun _ _ _ h => h) (Or.inl ⟨by rfl, ?_⟩) ⟨sP.1, _, sP.2, .inl rfl⟩ ?_
  rotate_left
  · intro wq hSq
    first | (go_simp; done) | (go_simp; with_reducible rfl)
  try simp only [Act.put, List.setIfInBounds_toArray, List.set_cons_zero, List.set_cons_succ]
  refine wpAnyH_take (i := 3) (oi := ⟨some 6, _, _, _, _, none⟩) (v := ?_) rfl (by kernel_rfl) (by kernel_rfl) (by kernel_rfl) (fun _ _ _ h => h) (Or.inl ⟨by rfl, ?_⟩) ⟨sP.1, _, sP.2, .inl rfl⟩ ?_
  rotate_left
  · intro wq hSq
    first | (go_simp; done) | (go_simp; with_reducible rfl)
  try simp only [Act.put, List.setIfInBounds_toArray, List.set_cons_zero, List.set_cons_succ]
  refine wpAnyH_take (i := 4) (oi := ⟨some 7, _, _, _, _, none⟩) (v := ?_) rfl (by kernel_rfl) (by kernel_rfl) (by kernel_rfl) (fun _ _ _ h => h) (Or.inl ⟨by rfl, ?_⟩) ⟨sP.1, _, sP.2, .inl rfl⟩ ?_
  rotate_left
  · intro wq hSq
    first | (go_simp; done) | (go_simp; with_reducible rfl)
  try simp only [Act.put, List.setIfInBounds_toArray, List.set_cons_zero, List.set_cons_succ]
  refine wpAnyH_take (i := 5) (oi := ⟨some 8, _, _, _, _, none⟩) (v := ?_) rfl (by kernel_rfl) (by kernel_rfl) (by kernel_rfl) (fun _ _ _ h => h) (Or.inl ⟨by rfl, ?_⟩) ⟨sP.1, _, sP.2, .inl rfl⟩ ?_
  rotate_left
  · intro wq hSq
    first | (go_simp; done) | (go_simp; with_reducible rfl)
  try simp only [Act.put, List.setIfInBounds_toArray, List.set_cons_zero, List.set_cons_succ]
  refine wpAnyH_take (i := 6) (oi := ⟨some 9, _, _, _, _, none⟩) (v := ?_) rfl (by kernel_rfl) (by kernel_rfl) (by kernel_rfl) (fun _ _ _ h => h) (Or.inl ⟨by rfl, ?_⟩) ⟨sP.1, _, sP.2, .inl rfl⟩ ?_
  rotate_left
  · intro wq hSq
    first | (go_simp; done) | (go_simp; with_reducible rfl)
  try simp only [Act.put, List.setIfInBounds_toArray, List.set_cons_zero, List.set_cons_succ]
  refine wpAnyH_take (i := 7) (oi := ⟨some 10, _, _, _, _, none⟩) (v := ?_) rfl (by kernel_rfl) (by kernel_rfl) (by kernel_rfl) (fun _ _ _ h => h) (Or.inl ⟨by rfl, ?_⟩) ⟨sP.1, _, sP.2, .inl rfl⟩ ?_
  rotate_left
  · intro wq hSq
    first | (go_simp; done) | (go_simp; with_reducible rfl)
  try simp only [Act.put, List.setIfInBounds_toArray, List.set_cons_zero, List.set_cons_succ]
  refine wpAnyH_take (i := 8) (oi := ⟨some 11, _, _, _, _, none⟩) (v := ?_) rfl (by kernel_rfl) (by kernel_rfl) (by kernel_rfl) (fun _ _ _ h => h) (Or.inl ⟨by rfl, ?_⟩) ⟨sP.1, _, sP.2, .inl rfl⟩ ?_
  rotate_left
  · intro wq hSq
    first | (go_simp; done) | (go_simp; with_reducible rfl)
  try simp only [Act.put, List.setIfInBounds_toArray, List.set_cons_zero, List.set_cons_succ]
  refine wpAnyH_take (i := 9) (oi := ⟨some 12, _, _, _, _, none⟩) (v := ?_) rfl (by kernel_rfl) (by kernel_rfl) (by kernel_rfl) (fun _ _ _ h => h) (Or.inl ⟨by rfl, ?_⟩) ⟨sP.1, _, sP.2, .inl rfl⟩ ?_
  rotate_left
  · intro wq hSq
    first | (go_simp; done) | (go_simp; with_reducible rfl)
  try simp only [Act.put, List.setIfInBounds_toArray, List.set_cons_zero, List.set_cons_succ]
  have q2 := sP.2
  refine wpAnyH_ready (rs := [10]) (by kernel_rfl) (by simp) ?_
  refine AllReadyH.cons rfl (fun K hK => ?_) AllReadyH.nil
  go_simp
  have sQ : (fun W' : World => Ch [] w W' ∧ ∃ cs, W'.heap[w.heap.size]? = some (.cells cs 81 (0, 0)) ∧ (cs = #[.pointer none, .pointer none, .pointer none] ∨ cs = wp3 B)) (World.onObj w2 w.heap.size (laidAt 0 (wp3 B))) := by
    refine ⟨sP.1.onObj (.inr (Nat.le_refl _)) _, wp3 B, ?_, .inr rfl⟩
    rw [heap_onObj, if_pos rfl, sP.2]
    rfl
  refine hK.out _ _ sQ (fun _ => ?_)
  clear hK K
  refine wpAnyH_done (by kernel_rfl) ?_ _
  have hq : (World.onObj w2 w.heap.size (laidAt 0 (wp3 B))).heap[w.heap.size]? = some (.cells (wp3 B) 81 (0, 0)) := by
    rw [heap_onObj, if_pos rfl, sP.2]
    rfl
  go_wp2
  exact bodyPost_ret (v := .agg (wp3 B)) (results_cellB1 Tryz.results67 _ _ _ rfl (run_loadVar_row _ _ 81 81 (wp3 B) (0, 0) _ hq Tryz.underlying81 rfl (by kernel_rfl))) rfl ⟨rfl, sQ.1⟩
end Go.Proofs.Hc
