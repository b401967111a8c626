/- Package table: may a table be? Ways that end before the full slots are looked at. -/
import Derived.Test.YtaddieimkpijeaaGreatKHreHsl
import Derived.Test.YtaddieimkpijeaaGreatKHmet
set_option linter.unusedSimpArgs false
set_option linter.unusedVariables false
namespace Go.Proofs.Hc
open Go.RowKit
attribute [local go_sem] wrap_u64 wrap_u8 bits_xor64 bits_and64 bits_or64 bits_not64 bits_xor8 bits_and8 bits_or8 signed64 signed8 ofInt_N BitVec.ofInt_add BitVec.ofInt_mul ofInt_sub' ofInt8_N64 ofInt64_N8 wide8 eqN neN shr_pow shr1 shr7 shr56
attribute [local go_sem high] bits_com64 shl_wrap
attribute [local go_sem] cell_heap ice_heap cellAt_cells iceAt_cells setAt_cells rowAt_cells canLay_cells laidAt_cells size_onObj size_setCell rowRes_some layRes_true
attribute [local go_sem] load26 load73 load23 store26 build73
attribute [local go_sem ↓] lrow26 lrow73 lrow23 srow26 zero26 brow73 heap_alloc heap_drew heap_drewN heap_setCell heap_onObj
attribute [local go_sem] tcells_size hcells_size tcells_get hcells_get tcells_one hcells_one hcells_table tcells_table hcells_all hcells_ctrl tcells_ctrl
attribute [local go_sem] nn2 nm2 nn3 nm3 nn4 nm4 nn5 nm5 nn6 nm6 nn7 nm7 nn8 nm8
attribute [local go_sem] nn2 nm2 nn3 nm3 nn4 nm4 nn5 nm5 nn6 nm6 nn7 nm7 nn8 nm8
attribute [local go_sem] Oper.semAt_some make_func1
attribute [local go_sem] box26 tcells_idx cell0 cell1 cell2 cell3 cell4 hcells_idx hcells_pop
attribute [local go_sem] cell5 cell6
attribute [local go_sem] index2_0 index2_1

theorem inR {P : Program} {f : FuncId} {args : Array Value} {w : World} {R : Ending → World → Prop} {l n : Nat} (h : Calls P f args w R) : CallsIn (Wd.inRound l) n P f args w R := CallsIn.inRound l (callsIn_wide.2 h)
theorem inW {P : Program} {f : FuncId} {args : Array Value} {w : World} {R : Ending → World → Prop} {n : Nat} (h : Calls P f args w R) : CallsIn Wd n P f args w R := callsIn_wide.2 h
theorem hkeep {W W' : World} (hc : Ch [] W W') {k : Nat} {o : Obj} (h : W.heap[k]? = some o) : W'.heap[k]? = some o := (hc.block k (Array.getElem?_eq_some_iff.1 h).1 (by simp)).trans h
theorem hkeepS {S : List Nat} {W W' : World} (hc : Ch S W W') {k : Nat} {o : Obj} (hk : k ∉ S) (h : W.heap[k]? = some o) : W'.heap[k]? = some o := (hc.block k (Array.getElem?_eq_some_iff.1 h).1 hk).trans h

/-- How many slots of a group are filled, or deleted. -/
def filledL (c : BitVec 64) : Nat := (lanesOf (fullM c ||| delM c)).length
/-- A full slot has its key's byte, its key goes to the table, and who looks for it comes to its group. -/
def slotOk (t : Tab) (s : BitVec 64) (x : Nat × Nat) : Bool :=
  byteAt (t.c x.2) (x.1 % 8) == hash2 (hashOf s (t.k x.1)) && (hasT t (hashOf s (t.k x.1)) && decide (x.2 ∈ rowT t s (t.k x.1)))
def goodAll (t : Tab) (s : BitVec 64) : List (BitVec 64) → List (Nat × Nat) → Bool
  | _, [] => true
  | seen, x :: l => !(seen.contains (t.k x.1)) && slotOk t s x && goodAll t s (t.k x.1 :: seen) l
/-- May a table be? -/
def mayT (t : Tab) (s : BitVec 64) : Bool :=
  flatT t && (ctrlOk (t.c 0) && ctrlOk (t.c 1)) && goodAll t s [] (slotsT t) && (t.live == ((slotsT t).length : Int)) && (t.can == 14 - ((filledL (t.c 0) + filledL (t.c 1) : Nat) : Int))

set_option maxRecDepth 100000 in
theorem may_flat (t : Tab) (s : BitVec 64) (b : Nat) (w : World) (hf : flatT t = false) (hb : w.heap[b]? = some (.cells (hcells t s) 73 (0, 0))) :
    Calls Tryz.prog 71 #[.pointer (some ⟨b, 0, none⟩)] w fun e w' => e = .returned (.bool false) ∧ Ch [] w w' := by
  have H1 := fun w => words_bad t hf w
  have hbl := (Array.getElem?_eq_some_iff.1 hb).1
  obtain ⟨W0, hW0⟩ : ∃ W0, ((w.alloc (.cells #[.pointer (some ⟨b, 0, none⟩)] 70)).alloc (.cells #[.bool false] 4)) = W0 := ⟨_, rfl⟩
  have hC0 : Ch [] w W0 := by rw [← hW0]; exact ((Ch.refl [] w).alloc _).alloc _
  have b0 : W0.heap[w.heap.size]? = some (.cells #[.pointer (some ⟨b, 0, none⟩)] 70 (0, 0)) := by rw [← hW0]; simp [go_sem]
  have b1 : W0.heap[w.heap.size + 1]? = some (.cells #[.bool false] 4 (0, 0)) := by rw [← hW0]; simp [go_sem]
  have bb := hkeep hC0 hb
  clear hf hbl hb
  refine (callsIn_wide (n := 3)).1 ?_
  refine callsIn_of_wp Tryz.func71 rfl trivial ?_
  simp only [Tryz.ntmps71, List.size_toArray, List.length_cons, List.length_nil, Nat.reduceAdd, Nat.reduceSub, Array.replicate_succ, Array.replicate_zero, List.push_toArray, List.append_toArray, List.nil_append, List.cons_append]
  gi_wp2_with (refine ⟨trivial, ?_⟩; gi_at_call 108; refine (inW (H1 _)).mono ?_; rintro e W1 ⟨rfl, hc1⟩; have d0 := hkeep hc1 b0; have d1 := hkeep hc1 b1; clear bb b0 b1 hW0)
  refine bodyPost_ret (results_cell1 Tryz.results71 _ _ _ rfl (load_one Tryz.underlying4 rfl _ _ (fr := (0, 0)) (t := 4) (x := .bool false) ?_)) rfl ⟨rfl, ?_⟩
  · simp only [heap_setCell, d1]; rfl
  · exact (hC0.trans hc1).setCell (.inr (by simp)) _
set_option maxRecDepth 100000 in
theorem may_bad0 (t : Tab) (s : BitVec 64) (b : Nat) (w : World) (hf : flatT t = true) (hc : ctrlOk (t.c 0) = false) (hb : w.heap[b]? = some (.cells (hcells t s) 73 (0, 0))) :
    Calls Tryz.prog 71 #[.pointer (some ⟨b, 0, none⟩)] w fun e w' => e = .returned (.bool false) ∧ Ch [] w w' := by
  have H1 := fun w => words_ok t hf w
  have C0 := fun w => ccheck_any (t.c 0) w
  rw [hc] at C0
  clear hc
  have hbl := (Array.getElem?_eq_some_iff.1 hb).1
  obtain ⟨W0, hW0⟩ : ∃ W0, ((w.alloc (.cells #[.pointer (some ⟨b, 0, none⟩)] 70)).alloc (.cells #[.bool false] 4)) = W0 := ⟨_, rfl⟩
  have hC0 : Ch [] w W0 := by rw [← hW0]; exact ((Ch.refl [] w).alloc _).alloc _
  have b0 : W0.heap[w.heap.size]? = some (.cells #[.pointer (some ⟨b, 0, none⟩)] 70 (0, 0)) := by rw [← hW0]; simp [go_sem]
  have b1 : W0.heap[w.heap.size + 1]? = some (.cells #[.bool false] 4 (0, 0)) := by rw [← hW0]; simp [go_sem]
  have bb := hkeep hC0 hb
  clear hf hbl hb
  refine (callsIn_wide (n := 3)).1 ?_
  refine callsIn_of_wp Tryz.func71 rfl trivial ?_
  simp only [Tryz.ntmps71, List.size_toArray, List.length_cons, List.length_nil, Nat.reduceAdd, Nat.reduceSub, Array.replicate_succ, Array.replicate_zero, List.push_toArray, List.append_toArray, List.nil_append, List.cons_append]
  gi_wp2_with (refine ⟨trivial, ?_⟩; gi_at_call 108; refine (inW (H1 _)).mono ?_; rintro e W1 ⟨v0, rfl, hc1⟩; have d0 := hkeep hc1 b0; have d1 := hkeep hc1 b1; have db := hkeep hc1 bb; clear bb b0 b1 hW0)
  have hC1 := hC0.trans hc1
  clear hc1 hC0
  refine wpIn_loop_rounds 3 ?_
  rw [roundsIn_succ]
  gi_wp2_with (refine ⟨trivial, ?_⟩; gi_at_call 109; refine (inW (C0 _)).mono ?_; rintro e w' ⟨rfl, rfl⟩)
  refine bodyPost_ret (results_cell1 Tryz.results71 _ _ _ rfl (load_one Tryz.underlying4 rfl _ _ (fr := (0, 0)) (t := 4) (x := .bool false) ?_)) rfl ⟨rfl, ?_⟩
  · simp only [heap_setCell, d1]; rfl
  · exact hC1.setCell (.inr (by simp)) _
set_option maxRecDepth 100000 in
theorem may_bad1 (t : Tab) (s : BitVec 64) (b : Nat) (w : World) (hf : flatT t = true) (hc0 : ctrlOk (t.c 0) = true) (hc : ctrlOk (t.c 1) = false) (hb : w.heap[b]? = some (.cells (hcells t s) 73 (0, 0))) :
    Calls Tryz.prog 71 #[.pointer (some ⟨b, 0, none⟩)] w fun e w' => e = .returned (.bool false) ∧ Ch [] w w' := by
  have H1 := fun w => words_ok t hf w
  have C0 := fun w => ccheck_any (t.c 0) w
  have C1 := fun w => ccheck_any (t.c 1) w
  have S0 := fun w => sets_ok (t.c 0) hc0 w
  have A0 := fun w => all_any (fullM (t.c 0) ||| delM (t.c 0)) w
  have L0 := lanes_le (fullM (t.c 0) ||| delM (t.c 0))
  rw [hc0] at C0
  rw [hc] at C1
  generalize lanesOf (fullM (t.c 0) ||| delM (t.c 0)) = l0 at *
  clear hc hc0
  have hbl := (Array.getElem?_eq_some_iff.1 hb).1
  obtain ⟨W0, hW0⟩ : ∃ W0, ((w.alloc (.cells #[.pointer (some ⟨b, 0, none⟩)] 70)).alloc (.cells #[.bool false] 4)) = W0 := ⟨_, rfl⟩
  have hC0 : Ch [] w W0 := by rw [← hW0]; exact ((Ch.refl [] w).alloc _).alloc _
  have b0 : W0.heap[w.heap.size]? = some (.cells #[.pointer (some ⟨b, 0, none⟩)] 70 (0, 0)) := by rw [← hW0]; simp [go_sem]
  have b1 : W0.heap[w.heap.size + 1]? = some (.cells #[.bool false] 4 (0, 0)) := by rw [← hW0]; simp [go_sem]
  have bb := hkeep hC0 hb
  clear hf hbl hb
  refine (callsIn_wide (n := 3)).1 ?_
  refine callsIn_of_wp Tryz.func71 rfl trivial ?_
  simp only [Tryz.ntmps71, List.size_toArray, List.length_cons, List.length_nil, Nat.reduceAdd, Nat.reduceSub, Array.replicate_succ, Array.replicate_zero, List.push_toArray, List.append_toArray, List.nil_append, List.cons_append]
  gi_wp2_with (refine ⟨trivial, ?_⟩; gi_at_call 108; refine (inW (H1 _)).mono ?_; rintro e W1 ⟨v0, rfl, hc1⟩; have d0 := hkeep hc1 b0; have d1 := hkeep hc1 b1; have db := hkeep hc1 bb; clear bb b0 b1 hW0)
  have hC1 := hC0.trans hc1
  clear hc1 hC0
  refine wpIn_loop_rounds 3 ?_
  rw [roundsIn_succ]
  gi_wp2_with (first
    | (refine ⟨trivial, ?_⟩; gi_at_call 109; refine (inW (C0 _)).mono ?_; rintro e w' ⟨rfl, rfl⟩)
    | (refine ⟨trivial, ?_⟩; gi_at_call 94; refine (inW (S0 _)).mono ?_; rintro e W2 ⟨rfl, hc2⟩; have e0 := hkeep hc2 d0; have e1 := hkeep hc2 d1; have eb := hkeep hc2 db; clear d0 d1 db)
    | (refine ⟨trivial, ?_⟩; gi_at_call 99; refine (inW (A0 _)).mono ?_; rintro e W3 ⟨v, rfl, hown, hc3⟩; obtain ⟨a, cap, cur, rfl, _, _⟩ := own_slice hown; clear hown; have d0 := hkeep hc3 e0; have d1 := hkeep hc3 e1; have db := hkeep hc3 eb; clear e0 e1 eb))
  have hC3 := (hC1.trans hc2).trans hc3
  clear hC1 hc2 hc3
  rw [roundsIn_succ]
  gi_wp2_with (refine ⟨trivial, ?_⟩; gi_at_call 109; refine (inW (C1 _)).mono ?_; rintro e w' ⟨rfl, rfl⟩)
  refine bodyPost_ret (results_cell1 Tryz.results71 _ _ _ rfl (load_one Tryz.underlying4 rfl _ _ (fr := (0, 0)) (t := 4) (x := .bool false) ?_)) rfl ⟨rfl, ?_⟩
  · simp only [heap_setCell, d1]; rfl
  · exact hC3.setCell (.inr (by simp)) _
end Go.Proofs.Hc
