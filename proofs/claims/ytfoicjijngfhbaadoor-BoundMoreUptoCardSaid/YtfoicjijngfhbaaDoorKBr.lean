/- Package hash: prefix, hashes of one key. -/
import Derived.Test.YtfoicjijngfhbaaDoorKBpBq
set_option linter.unusedSimpArgs false
set_option linter.unusedVariables false
namespace Go.Proofs.Hc
open Go.RowKit
set_option linter.unusedVariables false
attribute [local go_sem] wrap_u64 wrap_u8 bits_xor64 bits_and64 bits_or64 bits_not64 bits_xor8 bits_and8 bits_or8 signed64 signed8 ofInt_N BitVec.ofInt_add BitVec.ofInt_mul ofInt_sub' ofInt8_N64 ofInt64_N8 wide8 eqN neN shr_pow shr1 shr7 shr56
attribute [local go_sem high] bits_com64 shl_wrap
attribute [local go_sem] nn2 nm2 nn3 nm3 nn4 nm4 nn5 nm5 nn6 nm6 nn7 nm7 nn8 nm8
attribute [local go_sem] Oper.semAt_some make_func1 make_funcB
attribute [local go_sem] cell_heap ice_heap cellAt_cells iceAt_cells setAt_cells size_setCell rowAt_cells canLay_cells laidAt_cells size_onObj rowRes_some layRes_true
attribute [local go_sem ↓] heap_alloc heap_drew heap_drewN heap_setCell heap_putObj heap_onObj
theorem prefix0_any (h : BitVec 64) (w : World) : Calls Tryd.prog 48 #[U h, I 0] w fun e w' => e = .returned (U 0#64) ∧ w = w' := by
  have hz : N h / 18446744073709551616 = 0 := Int.ediv_eq_zero_of_lt (N_nonneg h) (by have := h.isLt; unfold N; omega)
  go_enter Tryd.func48, Tryd.ntmps48
  go_wp2
  go_ret
  exact ⟨rfl, rfl⟩
theorem boxSe (xs : Array Value) (w : World) : (Instr.box 71 (.agg xs)).run Tryd.prog w = .ok (.pointer (some ⟨w.heap.size, 0, none⟩)) (w.alloc (.cells xs 71)) := rfl
attribute [local go_sem] boxSe
theorem hashes_any (a : Option Addr) (n c : Nat) (sd : BitVec 64) (w : World) : Calls Tryd.prog 47 #[.agg #[.slice a n c, U sd]] w fun e w' => e = .returned (.func (.func 55) #[] #[.pointer (some ⟨w.heap.size, 0, none⟩)]) ∧ w'.heap[w.heap.size]? = some (.cells #[.slice a n c, U sd] 71 (0, 0)) ∧ Ch [] w w' := by
  go_enter Tryd.func47, Tryd.ntmps47
  go_wp2
  go_ret
  exact ⟨rfl, by rw [heap_alloc, if_pos rfl], (Ch.refl [] w).alloc _⟩
theorem enters_hashes (args : Array Value) (w : World) : (callFunc 55 args).run Tryd.prog w = .ok (.enter 55 args) w := by kernel_rfl
set_option maxHeartbeats 1000000 in
set_option maxRecDepth 100000 in
theorem hashes_yields (sd k : BitVec 64) (S q : Nat) (w : World) (hS : w.heap[S]? = some (.cells #[.slice (some ⟨q, 0, none⟩) 1 1, U sd] 71 (0, 0))) (hq : w.heap[q]? = some (.cells #[U k] 32 (0, 0))) :
    Yields Tryd.prog 55 #[.pointer (some ⟨S, 0, none⟩)] (fun h : BitVec 64 => #[U h]) [hashOf sd k] [] [] w := by
  intro n l J Jx W hW hk hJ hJx hY h0
  have s0 := bkeep hW hS
  have q0 := bkeep hW hq
  have O1 := fun w => hashOf_any sd k w
  obtain ⟨h, hh⟩ : ∃ h, hashOf sd k = h := ⟨_, rfl⟩
  rw [hh] at O1 hY ⊢
  have hmm := @run_makeMap Tryd.prog
  have hcm := cnt_made W
  have C1 : Ch [] W (W.alloc (.map #[] 0)) := (Ch.refl [] W).alloc _
  have j1 := hJ _ _ _ h0 C1
  have s1 := bkeep C1 s0
  have q1 := bkeep C1 q0
  obtain ⟨W1, hW1⟩ : ∃ W1, W.alloc (.map #[] 0) = W1 := ⟨_, rfl⟩
  rw [hW1] at hcm C1 j1 s1 q1
  obtain ⟨M, hM⟩ : ∃ M, W.heap.size = M := ⟨_, rfl⟩
  rw [hM] at hcm
  have hlk := cnt_look hcm k
  obtain ⟨W2, hu, hcn2, hc2, hz2⟩ := cnt_put hcm (by omega) k 1 (by decide) (by decide)
  have hlk2 := cnt_look hcn2 k
  rw [if_pos rfl] at hlk2
  have hC2 : Ch [] W W2 := C1.trans2 hc2 (fun t ht => .inr (by rw [List.mem_singleton.1 ht, hM]; exact Nat.le_refl _))
  have s2 := bkeep hC2 s0
  have j2 := hJ _ _ _ h0 hC2
  obtain ⟨fn, tmps, assign, body, hy, hR⟩ := hY [] h [] W2 rfl j2
  have HJ := Lib.hid hJ
  have HJX := Lib.hid hJx
  clear hW hk hJ hJx hY h0 s0 q0 hcm C1 j1 hcn2 hc2 hz2 hC2 j2 hS hq hh
  refine callsIn_of_wp Tryd.func55 rfl trivial ?_
  simp only [Tryd.ntmps55, List.size_toArray, List.length_cons, List.length_nil, Nat.reduceAdd, Nat.reduceSub, Array.replicate_succ, Array.replicate_zero, List.push_toArray, List.append_toArray, List.nil_append, List.cons_append]
  gi_wp2
  gi_loopw [10] (fun i wr => (i = I 0 ∧ wr = W1) ∨ (i = I 1 ∧ J [h] wr)) (fun i _ => 1 - (intOf i).toNat)
  case atStart => exact .inl ⟨rfl, rfl⟩
  case round =>
    rcases hrel with ⟨hi, hwr⟩ | ⟨hi, hj⟩
    · subst hi
      rw [hwr]
      clear hwr
      gi_wp2_with (refine ⟨trivial, ?_⟩; gi_at_call 56; refine (callsIn_wide.2 (O1 _)).mono ?_; rintro e w' ⟨rfl, rfl⟩)
      refine hR.mono ?_
      rintro e W3 (⟨rfl, hJ3, hz3, hk3⟩ | ⟨rfl, hJx3⟩)
      · clear hk3 hy
        gi_wp2
        go_roundw
        case rel => exact .inr ⟨rfl, hJ3⟩
        case measure => decide
      · gi_wp2
        refine bodyPost_ret (results_none rfl _ _ _) rfl ?_
        exact ⟨⟨_, rfl⟩, .inr hJx3⟩
    · subst hi
      gi_wp2
      refine bodyPost_end (results_none rfl _ _ _) rfl ?_
      exact ⟨⟨_, rfl⟩, .inl hj⟩
/-- Is a count more than so many? -/
theorem deep1_any (n m : Int) (b : Nat) (w : World) (hb : w.heap[b]? = some (.cells #[I m] 3 (0, 0))) : Calls Tryd.prog 41 #[I n, .pointer (some ⟨b, 0, none⟩)] w fun e w' => e = .returned (.bool (decide (m < n))) ∧ w = w' := by
  go_enter Tryd.func41, Tryd.ntmps41
  go_wp2
  go_ret
  exact ⟨rfl, rfl⟩
end Go.Proofs.Hc
