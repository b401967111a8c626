/- Package bound: tries, and what it serves (printed by gen_btries.py). -/
import Derived.Test.YtfoicjijngfhbaaGreatDoorKDa
import Derived.Test.YtfoicjijngfhbaaGreatDoorKHm
import Derived.Test.YtfoicjijngfhbaaGreatDoorKHr
import Derived.Below
import Derived.BigQuiet
import Derived.Deep.Cut
import Derived.Deep.Draws
import Derived.Deep.QuietTactic
import Derived.Laws.CopyRow
import Derived.Laws.Tables
import Derived.Lib.Hide
import Derived.LoopIn
import Derived.LoopNIn
import Derived.OwnWalkIn
import Derived.RangeFuncCalls
import Derived.RangeFuncRecord
import Derived.RangeFuncSeq
import Derived.Recover
import Derived.TacticsInMore
import Derived.Test.YtfoicjijngfhbaaGreatDoorProg
import Derived.WalkKit
import Derived.WalkLawsBesides
set_option linter.unusedSimpArgs false
set_option linter.unusedVariables false
namespace Go.Proofs.Hc
open Go.RowKit
set_option linter.unusedVariables false
attribute [local go_sem] wrap_u64 wrap_u8 bits_xor64 bits_and64 bits_or64 bits_not64 bits_xor8 bits_and8 bits_or8 signed64 signed8 ofInt_N BitVec.ofInt_add BitVec.ofInt_mul ofInt_sub' ofInt8_N64 ofInt64_N8 wide8 eqN neN shr_pow shr1 shr7 shr56
attribute [local go_sem high] bits_com64 shl_wrap
attribute [local go_sem] nn2 nm2 nn3 nm3 nn4 nm4 nn5 nm5 nn6 nm6 nn7 nm7 nn8 nm8
attribute [local go_sem] Oper.semAt_some make_func1
attribute [local go_sem] cell_heap ice_heap cellAt_cells iceAt_cells setAt_cells size_setCell
attribute [local go_sem ↓] heap_alloc heap_drew heap_drewN heap_setCell heap_putObj
theorem assert_errnoB (v : Value) (w : World) : (Instr.typeAssert (.iface 29 v) 20 29 true).run Tryz.prog w = .ok (.tuple #[v, .bool true]) w := by kernel_rfl
theorem make_funcB (fn : Fn) (first cap : Array Value) (w : World) : (Instr.makeFunc fn first cap).run Tryz.prog w = .ok (.func fn first cap) w := rfl
attribute [local go_sem] assert_errnoB make_funcB
theorem catch_idleBI (p q : Nat) (w : World) :
    CallsD Tryz.prog 47 #[.pointer (some ⟨p, 0, none⟩), .pointer (some ⟨q, 0, none⟩)] .returning w fun e u' w' => e = .returned (.tuple #[]) ∧ u' = .returning ∧ w = w' := by
  refine callsD_of_wpS Tryz.func47 rfl fun c₀ cs hu => ?_
  simp only [Tryz.ntmps47, List.size_toArray, List.length_cons, List.length_nil, Nat.reduceAdd, Nat.reduceSub, Array.replicate_succ, Array.replicate_zero, List.push_toArray, List.append_toArray, List.nil_append, List.cons_append]
  apply wpS_seq
  apply wpS_region
  simp [wpOpsS, go_sem, recoverD, hu, Exit.thenS]
  refine wpS_of_wp ?_
  go_wp2_with fail
  exact ⟨rfl, .returning, by cases c₀; simp_all, _, results_none rfl _ _ _, rfl, rfl, rfl⟩
set_option maxRecDepth 100000 in
theorem catch_panicBI (p q : Nat) (c : Int) (c1 : Value) (c2 : Value) (w : World)
    (hp : w.heap[p]? = some (.cells #[c1] 3 (0, 0))) (hq : w.heap[q]? = some (.cells #[c2] 29 (0, 0))) (hpq : (p = q) = False) :
    CallsD Tryz.prog 47 #[.pointer (some ⟨p, 0, none⟩), .pointer (some ⟨q, 0, none⟩)] (.panicking [{ v := .iface 29 (I c), recovered := false }]) w fun e u' w' =>
      e = .returned (.tuple #[]) ∧ u' = .panicking [{ v := .iface 29 (I c), recovered := true }] ∧ Ch [p, q] w w' ∧
      w'.heap[p]? = some (.cells #[I 0] 3 (0, 0)) ∧ w'.heap[q]? = some (.cells #[I c] 29 (0, 0)) := by
  have hp1 : (p = w.heap.size) = False := by have := (Array.getElem?_eq_some_iff.1 hp).1; simp; omega
  have hq1 : (q = w.heap.size) = False := by have := (Array.getElem?_eq_some_iff.1 hq).1; simp; omega
  have hqp : (q = p) = False := by simpa [eq_comm] using hpq
  refine callsD_of_wpS Tryz.func47 rfl fun c₀ cs hu => ?_
  simp only [Tryz.ntmps47, List.size_toArray, List.length_cons, List.length_nil, Nat.reduceAdd, Nat.reduceSub, Array.replicate_succ, Array.replicate_zero, List.push_toArray, List.append_toArray, List.nil_append, List.cons_append]
  apply wpS_seq
  apply wpS_region
  simp [wpOpsS, go_sem, recoverD, hu, Exit.thenS]
  refine wpS_of_wp ?_
  go_wp2_with fail
  refine ⟨rfl, _, rfl, _, results_none rfl _ _ _, rfl, rfl, ?_, ?_, ?_⟩
  · exact ((Ch.refl [p, q] w).setCell (p := ⟨p, 0, none⟩) (.inl (by simp)) _).setCell (p := ⟨q, 0, none⟩) (.inl (by simp)) _
  · simp only [heap_setCell, hpq, hp, if_false, if_true, Option.map_some, setAt_cells]
    rfl
  · simp only [heap_setCell, hqp, hq, if_false, if_true, Option.map_some, setAt_cells]
    rfl
theorem results_triesBI (tmps : Array Value) (p q : Nat) (w : World) (v : Value) (c : Int) (hp : tmps.getD 2 undef = .pointer (some ⟨p, 0, none⟩)) (hq : tmps.getD 3 undef = .pointer (some ⟨q, 0, none⟩))
    (h1 : w.heap[p]? = some (.cells #[v] 3 (0, 0))) (h2 : w.heap[q]? = some (.cells #[I c] 29 (0, 0))) :
    (results Tryz.f27 tmps).run Tryz.prog w = .ok (.tuple #[v, I c]) w := by
  exact results_cell2 Tryz.results27 tmps _ _ w hp hq (load_one Tryz.underlying3 rfl p w h1) (load_one Tryz.underlying29 rfl q w h2)
set_option maxRecDepth 100000 in
theorem try_keyBI (w : World) : ∃ W, (w.alloc (.cells #[I 0] 3)).alloc (.cells #[I 0] 29) = W ∧ Ch [] w W ∧ w.heap.size + 2 ≤ W.heap.size ∧ ∀ w2, Ch [] W w2 → Ch [] w w2 ∧ w2.heap[w.heap.size]? = some (.cells #[I 0] 3 (0, 0)) ∧ w2.heap[w.heap.size + 1]? = some (.cells #[I 0] 29 (0, 0)) :=
  ⟨_, rfl, ((Ch.refl [] w).alloc _).alloc _, by simp, fun w2 h => ⟨(((Ch.refl [] w).alloc _).alloc _).trans h, (h.block _ (by simp; omega) (by simp)).trans (by rw [heap_alloc, if_neg (by simp), heap_alloc, if_pos rfl]), (h.block _ (by simp) (by simp)).trans (by rw [heap_alloc, if_pos (by simp)])⟩⟩
set_option maxRecDepth 100000 in
/-- What tries comes to where it returns. -/
theorem triesBI_ok (df : Nat) (cap : Array Value) (w : World) (R : Int → World → Prop) (hR : ∀ x A B, R x A → Ch [w.heap.size, w.heap.size + 1] A B → R x B)
    (hdf : ∀ args w, (callFunc df args).run Tryz.prog w = .ok (.enter df args) w)
    (hdoes : ∀ w1, Ch [] w w1 → w.heap.size + 2 ≤ w1.heap.size → Calls Tryz.prog df cap w1 fun e w2 => ∃ x, e = .returned (I x) ∧ R x w2 ∧ Ch [] w1 w2) :
    Calls Tryz.prog 27 #[.func (.func df) #[] cap] w fun e w' => ∃ x, e = .returned (.tuple #[I x, I 0]) ∧ R x w' ∧ Ch [] w w' := by
  have n67 : (w.heap.size = w.heap.size + 1) = False := by simp
  have n76 : (w.heap.size + 1 = w.heap.size) = False := by simp
  obtain ⟨W, hW, hC, hz, key⟩ := try_keyBI w
  have hd := hdoes _ hC hz
  clear hdoes hC hz
  have HR := Lib.hid hR
  have KY := Lib.hid key
  clear hR key
  go_enter_defers Tryz.func27, Tryz.ntmps27
  go_upto_region 1 with (fail)
  try rw [hW]
  clear hW
  go_wp2_with fail
  refine hd.mono ?_
  rintro e w2 ⟨x, rfl, hr, hc⟩
  obtain ⟨hc2, h6, h7⟩ := KY.out _ hc
  go_wp2
  refine leaves_cons (f := 47) (args := #[.pointer (some ⟨w.heap.size, 0, none⟩), .pointer (some ⟨w.heap.size + 1, 0, none⟩)]) (by simp) (by simp [go_sem]) ?_
  refine (catch_idleBI _ _ _).mono ?_
  rintro e u' w3 ⟨rfl, rfl, rfl⟩
  refine ⟨_, results_triesBI _ _ _ _ _ _ rfl rfl ?g6 ?g7, x, rfl, HR.out _ _ _ hr ?gr, ?gc⟩
  case g6 =>
    simp only [heap_setCell, h6, n67, if_false, if_true, Option.map_some, setAt_cells]
    rfl
  case g7 =>
    simp only [heap_setCell, h7, n76, if_false, if_true, Option.map_some, setAt_cells]
    rfl
  case gr => exact ((Ch.refl _ _).setCell (p := ⟨_, _, none⟩) (.inl (by simp)) _).setCell (.inl (by simp)) _
  case gc => exact (hc2.setCell (p := ⟨_, _, none⟩) (.inr (by simp <;> omega)) _).setCell (.inr (by simp <;> omega)) _
set_option maxRecDepth 100000 in
/-- What tries comes to where an error is thrown. -/
theorem triesBI_err (c : Int) (df : Nat) (cap : Array Value) (w : World)
    (hdf : ∀ args w, (callFunc df args).run Tryz.prog w = .ok (.enter df args) w)
    (hdoes : ∀ w1, Ch [] w w1 → w.heap.size + 2 ≤ w1.heap.size → Calls Tryz.prog df cap w1 fun e w2 => e = .panicked [{ v := .iface 29 (I c), recovered := false }] ∧ Ch [] w1 w2) :
    Calls Tryz.prog 27 #[.func (.func df) #[] cap] w fun e w' => e = .returned (.tuple #[I 0, I c]) ∧ Ch [] w w' := by
  obtain ⟨W, hW, hC, hz, key⟩ := try_keyBI w
  have hd := hdoes _ hC hz
  clear hdoes hC hz
  have KY := Lib.hid key
  clear key
  go_enter_defers Tryz.func27, Tryz.ntmps27
  go_upto_region 1 with (fail)
  try rw [hW]
  clear hW
  go_wp2_with fail
  refine hd.mono ?_
  rintro e w2 ⟨rfl, hc⟩
  obtain ⟨hc2, h6, h7⟩ := KY.out _ hc
  refine leaves_cons (f := 47) (args := #[.pointer (some ⟨w.heap.size, 0, none⟩), .pointer (some ⟨w.heap.size + 1, 0, none⟩)]) (by simp) (by simp [go_sem]) ?_
  refine (catch_panicBI _ _ _ (I 0) (I 0) _ h6 h7 (by simp)).mono ?_
  rintro e u' w3 ⟨rfl, rfl, hc3, h1, h2⟩
  refine ⟨_, results_triesBI _ _ _ _ _ _ rfl rfl h1 h2, rfl, ?_⟩
  exact hc2.trans2 hc3 (by simp <;> omega)
theorem catch_idleBW (p q : Nat) (w : World) :
    CallsD Tryz.prog 44 #[.pointer (some ⟨p, 0, none⟩), .pointer (some ⟨q, 0, none⟩)] .returning w fun e u' w' => e = .returned (.tuple #[]) ∧ u' = .returning ∧ w = w' := by
  refine callsD_of_wpS Tryz.func44 rfl fun c₀ cs hu => ?_
  simp only [Tryz.ntmps44, List.size_toArray, List.length_cons, List.length_nil, Nat.reduceAdd, Nat.reduceSub, Array.replicate_succ, Array.replicate_zero, List.push_toArray, List.append_toArray, List.nil_append, List.cons_append]
  apply wpS_seq
  apply wpS_region
  simp [wpOpsS, go_sem, recoverD, hu, Exit.thenS]
  refine wpS_of_wp ?_
  go_wp2_with fail
  exact ⟨rfl, .returning, by cases c₀; simp_all, _, results_none rfl _ _ _, rfl, rfl, rfl⟩
set_option maxRecDepth 100000 in
theorem catch_panicBW (p q : Nat) (c : Int) (c1 : Value) (c2 : Value) (w : World)
    (hp : w.heap[p]? = some (.cells #[c1] 24 (0, 0))) (hq : w.heap[q]? = some (.cells #[c2] 29 (0, 0))) (hpq : (p = q) = False) :
    CallsD Tryz.prog 44 #[.pointer (some ⟨p, 0, none⟩), .pointer (some ⟨q, 0, none⟩)] (.panicking [{ v := .iface 29 (I c), recovered := false }]) w fun e u' w' =>
      e = .returned (.tuple #[]) ∧ u' = .panicking [{ v := .iface 29 (I c), recovered := true }] ∧ Ch [p, q] w w' ∧
      w'.heap[p]? = some (.cells #[.slice none 0 0] 24 (0, 0)) ∧ w'.heap[q]? = some (.cells #[I c] 29 (0, 0)) := by
  have hp1 : (p = w.heap.size) = False := by have := (Array.getElem?_eq_some_iff.1 hp).1; simp; omega
  have hq1 : (q = w.heap.size) = False := by have := (Array.getElem?_eq_some_iff.1 hq).1; simp; omega
  have hqp : (q = p) = False := by simpa [eq_comm] using hpq
  refine callsD_of_wpS Tryz.func44 rfl fun c₀ cs hu => ?_
  simp only [Tryz.ntmps44, List.size_toArray, List.length_cons, List.length_nil, Nat.reduceAdd, Nat.reduceSub, Array.replicate_succ, Array.replicate_zero, List.push_toArray, List.append_toArray, List.nil_append, List.cons_append]
  apply wpS_seq
  apply wpS_region
  simp [wpOpsS, go_sem, recoverD, hu, Exit.thenS]
  refine wpS_of_wp ?_
  go_wp2_with fail
  refine ⟨rfl, _, rfl, _, results_none rfl _ _ _, rfl, rfl, ?_, ?_, ?_⟩
  · exact ((Ch.refl [p, q] w).setCell (p := ⟨p, 0, none⟩) (.inl (by simp)) _).setCell (p := ⟨q, 0, none⟩) (.inl (by simp)) _
  · simp only [heap_setCell, hpq, hp, if_false, if_true, Option.map_some, setAt_cells]
    rfl
  · simp only [heap_setCell, hqp, hq, if_false, if_true, Option.map_some, setAt_cells]
    rfl
theorem results_triesBW (tmps : Array Value) (p q : Nat) (w : World) (v : Value) (c : Int) (hp : tmps.getD 2 undef = .pointer (some ⟨p, 0, none⟩)) (hq : tmps.getD 3 undef = .pointer (some ⟨q, 0, none⟩))
    (h1 : w.heap[p]? = some (.cells #[v] 24 (0, 0))) (h2 : w.heap[q]? = some (.cells #[I c] 29 (0, 0))) :
    (results Tryz.f23 tmps).run Tryz.prog w = .ok (.tuple #[v, I c]) w := by
  exact results_cell2 Tryz.results23 tmps _ _ w hp hq (load_one Tryz.underlying24 rfl p w h1) (load_one Tryz.underlying29 rfl q w h2)
set_option maxRecDepth 100000 in
theorem try_keyBW (w : World) : ∃ W, (w.alloc (.cells #[.slice none 0 0] 24)).alloc (.cells #[I 0] 29) = W ∧ Ch [] w W ∧ w.heap.size + 2 ≤ W.heap.size ∧ ∀ w2, Ch [] W w2 → Ch [] w w2 ∧ w2.heap[w.heap.size]? = some (.cells #[.slice none 0 0] 24 (0, 0)) ∧ w2.heap[w.heap.size + 1]? = some (.cells #[I 0] 29 (0, 0)) :=
  ⟨_, rfl, ((Ch.refl [] w).alloc _).alloc _, by simp, fun w2 h => ⟨(((Ch.refl [] w).alloc _).alloc _).trans h, (h.block _ (by simp; omega) (by simp)).trans (by rw [heap_alloc, if_neg (by simp), heap_alloc, if_pos rfl]), (h.block _ (by simp) (by simp)).trans (by rw [heap_alloc, if_pos (by simp)])⟩⟩
set_option maxRecDepth 100000 in
/-- What tries comes to where it returns. -/
theorem triesBW_ok (df : Nat) (cap : Array Value) (w : World) (R : (Option Addr × Nat × Nat) → World → Prop) (hR : ∀ x A B, R x A → Ch [w.heap.size, w.heap.size + 1] A B → R x B)
    (hdf : ∀ args w, (callFunc df args).run Tryz.prog w = .ok (.enter df args) w)
    (hdoes : ∀ w1, Ch [] w w1 → w.heap.size + 2 ≤ w1.heap.size → Calls Tryz.prog df cap w1 fun e w2 => ∃ x, e = .returned (.slice x.1 x.2.1 x.2.2) ∧ R x w2 ∧ Ch [] w1 w2) :
    Calls Tryz.prog 23 #[.func (.func df) #[] cap] w fun e w' => ∃ x, e = .returned (.tuple #[.slice x.1 x.2.1 x.2.2, I 0]) ∧ R x w' ∧ Ch [] w w' := by
  have n67 : (w.heap.size = w.heap.size + 1) = False := by simp
  have n76 : (w.heap.size + 1 = w.heap.size) = False := by simp
  obtain ⟨W, hW, hC, hz, key⟩ := try_keyBW w
  have hd := hdoes _ hC hz
  clear hdoes hC hz
  have HR := Lib.hid hR
  have KY := Lib.hid key
  clear hR key
  go_enter_defers Tryz.func23, Tryz.ntmps23
  go_upto_region 1 with (fail)
  try rw [hW]
  clear hW
  go_wp2_with fail
  refine hd.mono ?_
  rintro e w2 ⟨x, rfl, hr, hc⟩
  obtain ⟨hc2, h6, h7⟩ := KY.out _ hc
  go_wp2
  refine leaves_cons (f := 44) (args := #[.pointer (some ⟨w.heap.size, 0, none⟩), .pointer (some ⟨w.heap.size + 1, 0, none⟩)]) (by simp) (by simp [go_sem]) ?_
  refine (catch_idleBW _ _ _).mono ?_
  rintro e u' w3 ⟨rfl, rfl, rfl⟩
  refine ⟨_, results_triesBW _ _ _ _ _ _ rfl rfl ?g6 ?g7, x, rfl, HR.out _ _ _ hr ?gr, ?gc⟩
  case g6 =>
    simp only [heap_setCell, h6, n67, if_false, if_true, Option.map_some, setAt_cells]
    rfl
  case g7 =>
    simp only [heap_setCell, h7, n76, if_false, if_true, Option.map_some, setAt_cells]
    rfl
  case gr => exact ((Ch.refl _ _).setCell (p := ⟨_, _, none⟩) (.inl (by simp)) _).setCell (.inl (by simp)) _
  case gc => exact (hc2.setCell (p := ⟨_, _, none⟩) (.inr (by simp <;> omega)) _).setCell (.inr (by simp <;> omega)) _
set_option maxRecDepth 100000 in
/-- What tries comes to where an error is thrown. -/
theorem triesBW_err (c : Int) (df : Nat) (cap : Array Value) (w : World)
    (hdf : ∀ args w, (callFunc df args).run Tryz.prog w = .ok (.enter df args) w)
    (hdoes : ∀ w1, Ch [] w w1 → w.heap.size + 2 ≤ w1.heap.size → Calls Tryz.prog df cap w1 fun e w2 => e = .panicked [{ v := .iface 29 (I c), recovered := false }] ∧ Ch [] w1 w2) :
    Calls Tryz.prog 23 #[.func (.func df) #[] cap] w fun e w' => e = .returned (.tuple #[.slice none 0 0, I c]) ∧ Ch [] w w' := by
  obtain ⟨W, hW, hC, hz, key⟩ := try_keyBW w
  have hd := hdoes _ hC hz
  clear hdoes hC hz
  have KY := Lib.hid key
  clear key
  go_enter_defers Tryz.func23, Tryz.ntmps23
  go_upto_region 1 with (fail)
  try rw [hW]
  clear hW
  go_wp2_with fail
  refine hd.mono ?_
  rintro e w2 ⟨rfl, hc⟩
  obtain ⟨hc2, h6, h7⟩ := KY.out _ hc
  refine leaves_cons (f := 44) (args := #[.pointer (some ⟨w.heap.size, 0, none⟩), .pointer (some ⟨w.heap.size + 1, 0, none⟩)]) (by simp) (by simp [go_sem]) ?_
  refine (catch_panicBW _ _ _ (.slice none 0 0) (I 0) _ h6 h7 (by simp)).mono ?_
  rintro e u' w3 ⟨rfl, rfl, hc3, h1, h2⟩
  refine ⟨_, results_triesBW _ _ _ _ _ _ rfl rfl h1 h2, rfl, ?_⟩
  exact hc2.trans2 hc3 (by simp <;> omega)
end Go.Proofs.Hc
