/- slices.Sort of one word. -/
import Derived.Test.YtfoicjijngfhbaaDoorKBo
import Derived.Lib.Tables
import Derived.Deep.OwnRows
import Derived.Laws.CopyOwn
set_option linter.unusedSimpArgs false
set_option linter.unusedVariables false
namespace Go.Proofs.Hc
open Go.RowKit
set_option linter.unusedVariables false
set_option maxRecDepth 100000 in
theorem len64_one (w : World) : Calls Tryd.prog 74 #[.int .u64 1] w fun e w' => e = .returned (I 1) ∧ w = w' := by
  have h1 : Lib.len8 1 = 1 := by decide +kernel
  go_enter Tryd.func74, Tryd.ntmps74
  go_wp2
  go_ret
  exact ⟨rfl, rfl⟩
attribute [local go_sem] wrap_u64 wrap_u8 bits_xor64 bits_and64 bits_or64 bits_not64 bits_xor8 bits_and8 bits_or8 signed64 signed8 ofInt_N BitVec.ofInt_add BitVec.ofInt_mul ofInt_sub' ofInt8_N64 ofInt64_N8 wide8 eqN neN shr_pow shr1 shr7 shr56
attribute [local go_sem high] bits_com64 shl_wrap
attribute [local go_sem] nn2 nm2 nn3 nm3 nn4 nm4 nn5 nm5 nn6 nm6 nn7 nm7 nn8 nm8
attribute [local go_sem] Oper.semAt_some make_func1 make_funcB
theorem len_one (w : World) : Calls Tryd.prog 54 #[.int .u64 1] w fun e w' => e = .returned (I 1) ∧ w = w' := by
  go_enter Tryd.func54, Tryd.ntmps54
  go_wp2_with (go_at_call 74; refine (len64_one _).mono ?_; rintro e w' ⟨rfl, rfl⟩)
  go_ret
  exact ⟨rfl, rfl⟩
theorem insert_one (a : Option Addr) (c : Nat) (w : World) : Calls Tryd.prog 64 #[.slice a 1 c, I 0, I 1] w fun e w' => e = .returned (.tuple #[]) ∧ w = w' := by
  go_enter Tryd.func64, Tryd.ntmps64
  go_wp2
  refine wp_loop_rounds 1 ?_
  rw [rounds_succ]
  go_wp2
  go_end0
  exact ⟨rfl, rfl⟩
theorem pdq_one (a : Option Addr) (c : Nat) (w : World) : Calls Tryd.prog 53 #[.slice a 1 c, I 0, I 1, I 1] w fun e w' => e = .returned (.tuple #[]) ∧ w = w' := by
  go_enter Tryd.func53, Tryd.ntmps53
  go_wp2
  refine wp_loop_rounds 1 ?_
  rw [rounds_succ]
  go_wp2_with (go_at_call 64; refine (insert_one _ _ _).mono ?_; rintro e w' ⟨rfl, rfl⟩)
  exact bodyPost_ret (results_none rfl _ _ _) rfl ⟨rfl, rfl⟩
theorem sort_one (k : BitVec 64) : SortC [k] [k] := by
  intro v w base hown
  obtain ⟨a, c, rfl⟩ := own_val hown
  have HO := Lib.hid hown
  clear hown
  show Calls Tryd.prog 46 #[.slice a 1 c] w _
  go_enter Tryd.func46, Tryd.ntmps46
  go_wp2_with (first
    | (go_at_call 54; refine (len_one _).mono ?_; rintro e w' ⟨rfl, rfl⟩)
    | (go_at_call 53; refine (pdq_one _ _ _).mono ?_; rintro e w' ⟨rfl, rfl⟩))
  go_end0
  exact ⟨rfl, HO.out, ⟨rfl, rfl, rfl, Nat.le_refl _, fun _ _ _ => rfl⟩⟩
end Go.Proofs.Hc
/- Package hash: of. -/
namespace Go.Proofs.Hc
open Go.RowKit
set_option linter.unusedVariables false
attribute [local go_sem] wrap_u64 wrap_u8 bits_xor64 bits_and64 bits_or64 bits_not64 bits_xor8 bits_and8 bits_or8 signed64 signed8 ofInt_N BitVec.ofInt_add BitVec.ofInt_mul ofInt_sub' ofInt8_N64 ofInt64_N8 wide8 eqN neN shr_pow shr1 shr7 shr56
attribute [local go_sem high] bits_com64 shl_wrap
attribute [local go_sem] nn2 nm2 nn3 nm3 nn4 nm4 nn5 nm5 nn6 nm6 nn7 nm7 nn8 nm8
attribute [local go_sem] Oper.semAt_some make_func1 make_funcB
attribute [local go_sem] cell_heap ice_heap cellAt_cells iceAt_cells setAt_cells size_setCell rowAt_cells canLay_cells laidAt_cells size_onObj rowRes_some layRes_true
attribute [local go_sem ↓] heap_alloc heap_drew heap_drewN heap_setCell heap_putObj heap_onObj
def bwords (l : List (BitVec 64)) : Array Value := (l.map fun x => U x).toArray
theorem browSe (ps : Array (Nat × Value)) : Instr.build 71 ps = buildRow 71 ps := rfl
theorem buildSe (a : Option Addr) (n c : Nat) (s : BitVec 64) (w : World) : (buildRow 71 #[(0, .slice a n c), (1, U s)]).run Tryd.prog w = .ok (.agg #[.slice a n c, U s]) w := by kernel_rfl
theorem browCr (ps : Array (Nat × Value)) : Instr.build 73 ps = buildRow 73 ps := rfl
theorem buildCr (a : Option Addr) (n c : Nat) (s : BitVec 64) (w : World) : (buildRow 73 #[(0, .agg #[.slice a n c, U s])]).run Tryd.prog w = .ok (.agg #[.slice a n c, U s, .map none]) w := by kernel_rfl
theorem boxCr (xs : Array Value) (w : World) : (Instr.box 73 (.agg xs)).run Tryd.prog w = .ok (.pointer (some ⟨w.heap.size, 0, none⟩)) (w.alloc (.cells xs 73)) := rfl
attribute [local go_sem] buildSe buildCr boxCr
attribute [local go_sem ↓] browSe browCr
theorem bwords_one (l : List (BitVec 64)) : ∀ v ∈ l.map (fun x => U x), v.oneCell' = true := by
  intro v hv
  obtain ⟨x, _, rfl⟩ := List.mem_map.1 hv
  rfl
set_option maxHeartbeats 1000000 in
set_option maxRecDepth 100000 in
theorem hof_any (sd : BitVec 64) (l : List (BitVec 64)) (g c : Nat) (cur : Array Value) (w : World) (hl : l.length ≤ 9000) (hb : w.heap[g]? = some (.cells cur 32 (0, 0))) (hw : ∀ (j : Nat) x, l[j]? = some x → cur[j]? = some (U x)) :
    Calls Tryd.prog 38 #[U sd, .slice (some ⟨g, 0, none⟩) l.length c] w fun e w' => ∃ p q, e = .returned (.pointer (some ⟨p, 0, none⟩)) ∧ w'.heap[p]? = some (.cells #[.slice (some ⟨q, 0, none⟩) l.length l.length, U sd, .map none] 73 (0, 0)) ∧ w'.heap[q]? = some (.cells (bwords l) 32 (0, 0)) ∧ w.heap.size ≤ p ∧ w.heap.size ≤ q ∧ Ch [] w w' := by
  have hm := fun w => run_make_row' (P := Tryd.prog) 34 32 (.int .u64 0) 8 Tryd.underlying34 infoU rfl .i64 .i64 l.length (by omega) (by omega) w
  have hgn : ¬ g = w.heap.size := by have := (Array.getElem?_eq_some_iff.1 hb).1; omega
  have hn : (w.alloc (.cells (madeCells #[.int .u64 0] l.length) 32)).heap[w.heap.size]? = some (.cells (madeCells #[.int .u64 0] l.length) 32 (0, 0)) := by rw [heap_alloc, if_pos rfl]
  have hlen : (l.map fun x => U x).length = l.length := List.length_map ..
  have hcp := run_copy_row (P := Tryd.prog) (w.alloc (.cells (madeCells #[.int .u64 0] l.length) 32)) 34 34 3 32 w.heap.size 0 l.length l.length ⟨g, 0, none⟩ l.length c (madeCells #[.int .u64 0] l.length) 32 (l.map fun x => U x) Tryd.underlying34 (by kernel_rfl) hn (by rw [hlen]; exact (Nat.min_self _).symm) (by
    intro j v hj
    rw [List.getElem?_map] at hj
    obtain ⟨x, hx, rfl⟩ := Option.map_eq_some_iff.1 hj
    rw [Addr.add_lit, cell_heap, heap_alloc, if_neg hgn, hb, Option.bind_some, cellAt_cells, Nat.zero_add]
    exact hw j x hx) (by rw [hlen, size_madeCells]; omega) (bwords_one l)
  have hrow : ((madeCells #[.int .u64 0] l.length).toList.take 0 ++ (l.map fun x => U x) ++ (madeCells #[.int .u64 0] l.length).toList.drop (0 + (l.map fun x => U x).length)).toArray = bwords l := by
    rw [List.take_zero, List.nil_append, List.drop_eq_nil_of_le (by rw [hlen, Array.length_toList, size_madeCells]; omega), List.append_nil]; rfl
  rw [hrow, hlen] at hcp
  have hh := setRow_heap (w.alloc (.cells (madeCells #[.int .u64 0] l.length) 32)) w.heap.size _ (bwords l) 32 (0, 0) hn
  have hC : Ch [] w ((w.alloc (.cells (madeCells #[.int .u64 0] l.length) 32)).setRow w.heap.size (bwords l)) := by
    refine ((Ch.refl [] w).alloc (.cells (madeCells #[.int .u64 0] l.length) 32)).trans2 (T := [w.heap.size]) ⟨rfl, rfl, rfl, by simp [World.setRow], fun k _ hk => setRow_other _ _ _ _ (by simpa using hk)⟩ (by simp)
  generalize (w.alloc (.cells (madeCells #[.int .u64 0] l.length) 32)).setRow w.heap.size (bwords l) = W2 at *
  clear hrow hn hb hw hgn
  have hh2 : (W2.alloc (.cells #[.slice (some ⟨w.heap.size, 0, none⟩) l.length l.length, U sd, .map none] 73)).heap[w.heap.size]? = some (.cells (bwords l) 32 (0, 0)) := bkeep ((Ch.refl [] W2).alloc _) hh
  have hh3 : (W2.alloc (.cells #[.slice (some ⟨w.heap.size, 0, none⟩) l.length l.length, U sd, .map none] 73)).heap[W2.heap.size]? = some (.cells #[.slice (some ⟨w.heap.size, 0, none⟩) l.length l.length, U sd, .map none] 73 (0, 0)) := by rw [heap_alloc, if_pos rfl]
  clear hh
  go_enter Tryd.func38, Tryd.ntmps38
  go_wp2
  go_ret
  exact ⟨_, _, rfl, hh3, hh2, hC.size, Nat.le_refl _, hC.trans ((Ch.refl [] W2).alloc _)⟩
end Go.Proofs.Hc
