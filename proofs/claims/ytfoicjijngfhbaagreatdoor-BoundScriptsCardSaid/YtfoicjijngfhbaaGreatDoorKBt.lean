/- Package hash: of. -/
import Derived.Test.YtfoicjijngfhbaaGreatDoorKBc
import Derived.Test.YtfoicjijngfhbaaGreatDoorKBd
import Derived.Test.YtfoicjijngfhbaaGreatDoorKBo
import Derived.Test.YtfoicjijngfhbaaGreatDoorKBr
import Derived.Test.YtfoicjijngfhbaaGreatDoorKBs
import Derived.Test.YtfoicjijngfhbaaGreatDoorKDa
import Derived.Test.YtfoicjijngfhbaaGreatDoorKEk
import Derived.Test.YtfoicjijngfhbaaGreatDoorKHm
import Derived.Test.YtfoicjijngfhbaaGreatDoorKHr
import Derived.Below
import Derived.BigQuiet
import Derived.Deep.Cut
import Derived.Deep.Draws
import Derived.Deep.OwnRows
import Derived.Deep.QuietTactic
import Derived.Deep.RegionHeld
import Derived.Laws.AppendOwn
import Derived.Laws.CopyOwn
import Derived.Laws.CopyRow
import Derived.Laws.EntriesVeiled
import Derived.Laws.Tables
import Derived.Lib.AppendZerosOnto
import Derived.Lib.Hide
import Derived.Lib.Tables
import Derived.LoopIn
import Derived.LoopNIn
import Derived.Maps.RangeWalk
import Derived.Maps.Views
import Derived.OwnWalkIn
import Derived.RangeFuncCalls
import Derived.RangeFuncRecord
import Derived.RangeFuncSeq
import Derived.Recover
import Derived.TacticsInMore
import Derived.Test.YtfoicjijngfhbaaGreatDoorProg
import Derived.WalkKit
import Derived.WalkLawsBesides
import Derived.StillTail
set_option linter.unusedSimpArgs false
set_option linter.unusedVariables false
namespace Go.Proofs.Hc
open Go.RowKit
set_option linter.unusedVariables false
attribute [local go_sem] wrap_u64 wrap_u8 bits_xor64 bits_and64 bits_or64 bits_not64 bits_xor8 bits_and8 bits_or8 signed64 signed8 ofInt_N BitVec.ofInt_add BitVec.ofInt_mul ofInt_sub' ofInt8_N64 ofInt64_N8 wide8 eqN neN shr_pow shr1 shr7 shr56
attribute [local go_sem high] bits_com64 shl_wrap
attribute [local go_sem] nn2 nm2 nn3 nm3 nn4 nm4 nn5 nm5 nn6 nm6 nn7 nm7 nn8 nm8
attribute [local go_sem] Oper.semAt_some make_func1 make_funcB
attribute [local go_sem] cell_heap ice_heap cellAt_cells iceAt_cells setAt_cells size_setCell rowAt_cells canLay_cells laidAt_cells size_onObj rowRes_some layRes_true
attribute [local go_sem ↓] heap_alloc heap_drew heap_drewN heap_setCell heap_putObj heap_onObj
def bwords (l : List (BitVec 64)) : Array Value := (l.map fun x => U x).toArray
theorem browSe (ps : Array (Nat × Value)) : Instr.build 100 ps = buildRow 100 ps := rfl
theorem buildSe (a : Option Addr) (n c : Nat) (s : BitVec 64) (w : World) : (buildRow 100 #[(0, .slice a n c), (1, U s)]).run Tryz.prog w = .ok (.agg #[.slice a n c, U s]) w := by kernel_rfl
theorem browCr (ps : Array (Nat × Value)) : Instr.build 102 ps = buildRow 102 ps := rfl
theorem buildCr (a : Option Addr) (n c : Nat) (s : BitVec 64) (w : World) : (buildRow 102 #[(0, .agg #[.slice a n c, U s])]).run Tryz.prog w = .ok (.agg #[.slice a n c, U s, .map none]) w := by kernel_rfl
theorem boxCr (xs : Array Value) (w : World) : (Instr.box 102 (.agg xs)).run Tryz.prog w = .ok (.pointer (some ⟨w.heap.size, 0, none⟩)) (w.alloc (.cells xs 102)) := rfl
attribute [local go_sem] buildSe buildCr boxCr
attribute [local go_sem ↓] browSe browCr
theorem bwords_one (l : List (BitVec 64)) : ∀ v ∈ l.map (fun x => U x), v.oneCell' = true := by
  intro v hv
  obtain ⟨x, _, rfl⟩ := List.mem_map.1 hv
  rfl
set_option maxHeartbeats 1000000 in
set_option maxRecDepth 100000 in
theorem hof_any (sd : BitVec 64) (l : List (BitVec 64)) (g c : Nat) (cur : Array Value) (w : World) (hl : l.length ≤ 9000) (hb : w.heap[g]? = some (.cells cur 22 (0, 0))) (hw : ∀ (j : Nat) x, l[j]? = some x → cur[j]? = some (U x)) :
    Calls Tryz.prog 57 #[U sd, .slice (some ⟨g, 0, none⟩) l.length c] w fun e w' => ∃ p q, e = .returned (.pointer (some ⟨p, 0, none⟩)) ∧ w'.heap[p]? = some (.cells #[.slice (some ⟨q, 0, none⟩) l.length l.length, U sd, .map none] 102 (0, 0)) ∧ w'.heap[q]? = some (.cells (bwords l) 22 (0, 0)) ∧ w.heap.size ≤ p ∧ w.heap.size ≤ q ∧ Ch [] w w' := by
  have hm := fun w => run_make_row' (P := Tryz.prog) 24 22 (.int .u64 0) 8 Tryz.underlying24 infoU rfl .i64 .i64 l.length (by omega) (by omega) w
  have hgn : ¬ g = w.heap.size := by have := (Array.getElem?_eq_some_iff.1 hb).1; omega
  have hn : (w.alloc (.cells (madeCells #[.int .u64 0] l.length) 22)).heap[w.heap.size]? = some (.cells (madeCells #[.int .u64 0] l.length) 22 (0, 0)) := by rw [heap_alloc, if_pos rfl]
  have hlen : (l.map fun x => U x).length = l.length := List.length_map ..
  have hcp := run_copy_row (P := Tryz.prog) (w.alloc (.cells (madeCells #[.int .u64 0] l.length) 22)) 24 24 3 22 w.heap.size 0 l.length l.length ⟨g, 0, none⟩ l.length c (madeCells #[.int .u64 0] l.length) 22 (l.map fun x => U x) Tryz.underlying24 (by kernel_rfl) hn (by rw [hlen]; exact (Nat.min_self _).symm) (by
    intro j v hj
    rw [List.getElem?_map] at hj
    obtain ⟨x, hx, rfl⟩ := Option.map_eq_some_iff.1 hj
    rw [Addr.add_lit, cell_heap, heap_alloc, if_neg hgn, hb, Option.bind_some, cellAt_cells, Nat.zero_add]
    exact hw j x hx) (by rw [hlen, size_madeCells]; omega) (bwords_one l)
  have hrow : ((madeCells #[.int .u64 0] l.length).toList.take 0 ++ (l.map fun x => U x) ++ (madeCells #[.int .u64 0] l.length).toList.drop (0 + (l.map fun x => U x).length)).toArray = bwords l := by
    rw [List.take_zero, List.nil_append, List.drop_eq_nil_of_le (by rw [hlen, Array.length_toList, size_madeCells]; omega), List.append_nil]; rfl
  rw [hrow, hlen] at hcp
  have hh := setRow_heap (w.alloc (.cells (madeCells #[.int .u64 0] l.length) 22)) w.heap.size _ (bwords l) 22 (0, 0) hn
  have hC : Ch [] w ((w.alloc (.cells (madeCells #[.int .u64 0] l.length) 22)).setRow w.heap.size (bwords l)) := by
    refine ((Ch.refl [] w).alloc (.cells (madeCells #[.int .u64 0] l.length) 22)).trans2 (T := [w.heap.size]) ⟨rfl, rfl, rfl, by simp [World.setRow], fun k _ hk => setRow_other _ _ _ _ (by simpa using hk)⟩ (by simp)
  generalize (w.alloc (.cells (madeCells #[.int .u64 0] l.length) 22)).setRow w.heap.size (bwords l) = W2 at *
  clear hrow hn hb hw hgn
  have hh2 : (W2.alloc (.cells #[.slice (some ⟨w.heap.size, 0, none⟩) l.length l.length, U sd, .map none] 102)).heap[w.heap.size]? = some (.cells (bwords l) 22 (0, 0)) := bkeep ((Ch.refl [] W2).alloc _) hh
  have hh3 : (W2.alloc (.cells #[.slice (some ⟨w.heap.size, 0, none⟩) l.length l.length, U sd, .map none] 102)).heap[W2.heap.size]? = some (.cells #[.slice (some ⟨w.heap.size, 0, none⟩) l.length l.length, U sd, .map none] 102 (0, 0)) := by rw [heap_alloc, if_pos rfl]
  clear hh
  go_enter Tryz.func57, Tryz.ntmps57
  go_wp2
  go_ret
  exact ⟨_, _, rfl, hh3, hh2, hC.size, Nat.le_refl _, hC.trans ((Ch.refl [] W2).alloc _)⟩
end Go.Proofs.Hc
/- Package hash: some, Deepest. -/
namespace Go.Proofs.Hc
open Go.RowKit
set_option linter.unusedVariables false
attribute [local go_sem] wrap_u64 wrap_u8 bits_xor64 bits_and64 bits_or64 bits_not64 bits_xor8 bits_and8 bits_or8 signed64 signed8 ofInt_N BitVec.ofInt_add BitVec.ofInt_mul ofInt_sub' ofInt8_N64 ofInt64_N8 wide8 eqN neN shr_pow shr1 shr7 shr56
attribute [local go_sem high] bits_com64 shl_wrap
attribute [local go_sem] nn2 nm2 nn3 nm3 nn4 nm4 nn5 nm5 nn6 nm6 nn7 nm7 nn8 nm8
attribute [local go_sem] Oper.semAt_some make_func1 make_funcB
attribute [local go_sem] cell_heap ice_heap cellAt_cells iceAt_cells setAt_cells size_setCell rowAt_cells canLay_cells laidAt_cells size_onObj rowRes_some layRes_true
attribute [local go_sem ↓] heap_alloc heap_drew heap_drewN heap_setCell heap_putObj heap_onObj
set_option maxHeartbeats 1000000 in
set_option maxRecDepth 100000 in
theorem some_any (M n : Nat) (f : BitVec 64 → Int) (m : Int) (b : Nat) (w : World) (hM : CntAt w M n f) (hn : n ≤ 1000) (hb : w.heap[b]? = some (.cells #[I m] 3 (0, 0))) :
    Calls Tryz.prog 58 #[.map (some M), .func (.func 60) #[] #[.pointer (some ⟨b, 0, none⟩)]] w fun e w' => ∃ r : Bool, e = .returned (.bool r) ∧ (r = true → ∃ p, m < f p) ∧ (r = false → ∀ p, f p ≠ 0 → f p ≤ m) ∧ Ch [] w w' := by
  obtain ⟨D, ho, hf⟩ := hM
  have hMr : M < w.heap.size := ho.lt
  go_enter Tryz.func58, Tryz.ntmps58
  go_wp2
  apply wp_scope_straight
  go_wp2
  apply wp_label
  go_wp2_with (first
    | (at_range; refine wpList_range_own _ rfl _ 61 rfl 22 3 keyLawB Tryz.underlying61 mapR M n D rfl ho ?_; intro w0 hrg0 hg0 hs0)
    | go_in)
  go_frame
  have C0 : Ch [] w w0 := Ch.of_grown hg0 (fun _ h => by cases h)
  have hb0 := bkeep C0 hb
  have hbw : b < w.heap.size := (Array.getElem?_eq_some_iff.1 hb).1
  obtain ⟨r, hr⟩ : ∃ r, w.heap.size = r := ⟨_, rfl⟩
  rw [hr] at hrg0 hs0 hMr hbw ⊢
  have HR := Lib.hid hr
  have HIM := Lib.hid (show Go.Maps.IsMap D from ⟨_, ho.choose_spec.choose_spec.2.2.2⟩)
  have HBW := Lib.hid hbw
  clear hg0 ho hr hb hbw hs0 hMr
  have HF := Lib.hid hf
  have hst : ∀ k : BitVec 64, f k ≠ 0 → Maps.has D (.int .u64 (N k)) = false → f k ≤ m := fun k hk h0 => by
    rw [(hf k).2, decide_eq_true hk] at h0; cases h0
  clear hf
  go_loopw [5] (fun v wr => ∃ (left : Lit → Bool) (cnt : Nat), v = .bool false ∧ wr.ranges Tryz.prog 22 mapR M r n D left cnt ∧ (∀ k : BitVec 64, f k ≠ 0 → left (.int .u64 (N k)) = false → f k ≤ m) ∧ Ch [] w wr ∧ wr.heap[b]? = some (.cells #[I m] 3 (0, 0))) (fun _ wr => wr.rangeLeft M r)
  case atStart => exact ⟨Maps.has D, Maps.size D, rfl, hrg0, hst, C0, hb0⟩
  case round =>
    obtain ⟨left, cnt, hv, hrg, hle, c2, hb2⟩ := hrel
    subst hv
    clear hrg0 C0 hst hb0
    go_wp2_with (first
      | (at_next; refine wpList_next_ranges_ii _ rfl _ rfl 22 3 .u64 .i64 keyLawB Tryz.underlying22 Tryz.underlying3 M r n _ _ _ rfl hrg ?_ ?_)
      | go_in)
    · intro hc0 hl0
      have hall : ∀ p, f p ≠ 0 → f p ≤ m := fun p hp => hle p hp (hl0 _)
      have HA := Lib.hid hall
      clear hall hle hrg hc0 hl0
      go_wp2
      rw [Exit.noGoto_ret]
      go_ret
      exact ⟨false, rfl, fun h => (by cases h), fun _ => HA.out, c2⟩
    · intro x cc w1 cnt1 hwx hwc hlx hat hrg1 hlt1 hg1 hs1 hen
      obtain ⟨k, rfl⟩ := u64_is hwx
      have hfk : f k = cc := by
        have h1 := (HF.out k).1
        rw [hat] at h1
        simpa using h1.symm
      have C1 : Ch [r] wr w1 := Ch.of_grown hg1 (fun b hb => by simpa using hb.symm)
      have hb1 : w1.heap[b]? = some (.cells #[I m] 3 (0, 0)) := (C1.block b (Array.getElem?_eq_some_iff.1 hb2).1 (by have := HBW.out; simp; omega)).trans hb2
      have c3 : Ch [] w w1 := c2.trans2 C1 (fun t ht => .inr (by rw [List.mem_singleton.1 ht, HR.out]; exact Nat.le_refl _))
      have D1 := fun w hb => deep1_any cc m b w hb
      by_cases hcc : m < cc
      · rw [decide_eq_true hcc] at D1
        have HX := Lib.hid (show ∃ p, m < f p from ⟨k, by rw [hfk]; exact hcc⟩)
        clear hcc hfk hat hle hrg hrg1 hlx hwx hwc hlt1 hg1 hs1 C1 c2 hb2
        go_wp2_with (first
          | (go_at_call 60; refine (D1 _ hb1).mono ?_; rintro e w' ⟨rfl, rfl⟩)
          | go_in)
        rw [Exit.noGoto_ret]
        go_ret
        exact ⟨true, rfl, fun _ => HX.out, fun h => (by cases h), c3⟩
      · rw [decide_eq_false hcc] at D1
        have hle2 : ∀ k' : BitVec 64, f k' ≠ 0 → (left (.int .u64 (N k')) && !(Lit.int .u64 (N k')).sameKey (.int .u64 (N k))) = false → f k' ≤ m := fun k' h0 h1 => by
          by_cases hk : k' = k
          · rw [hk, hfk]; omega
          · have hne : Lit.int .u64 (N k') ≠ Lit.int .u64 (N k) := fun e => hk ((N_inj _ _).1 (by simpa using e))
            rw [Go.Maps.sameKey_ne hne] at h1
            exact hle k' h0 (by simpa using h1)
        have HH := Lib.hid (And.intro hrg1 (And.intro hle2 (And.intro c3 hb1)))
        have HLT := Lib.hid (And.intro hrg1.left_eq (And.intro hrg.left_eq hlt1))
        clear hcc hfk hat hle hrg hrg1 hlx hwx hwc hlt1 hg1 hs1 C1 c2 hb2 hle2 c3
        go_wp2_with (first
          | (go_at_call 60; refine (D1 _ hb1).mono ?_; rintro e w' ⟨rfl, rfl⟩)
          | go_in)
        go_roundw
        case rel => exact ⟨_, cnt1, rfl, HH.out⟩
        case measure => rw [HLT.out.1, HLT.out.2.1]; exact HLT.out.2.2
set_option maxHeartbeats 1000000 in
set_option maxRecDepth 100000 in
/-- Of one key the deepest is nought. -/
theorem deepest_one (sd k : BitVec 64) (m : Int) (h1 : 1 ≤ m) (v : Value) (base : Nat) (w : World) (hown : w.ownsRow base 22 1 v 1 [U k]) :
    Calls Tryz.prog 48 #[U sd, I m, v] w fun e w' => e = .returned (.tuple #[I 0, I 0]) ∧ Ch [] w w' := by
  obtain ⟨_, ⟨_, h0⟩ | ⟨q, cap, cur, rfl, hbq, hq, hnc, hcm, hcs, htake⟩⟩ := hown
  · cases h0
  have hcur : ∀ (j : Nat) x, [k][j]? = some x → cur[j]? = some (U x) := fun j x hj => by
    match j with
    | 0 =>
      have hx : k = x := by simpa using hj
      rw [← hx]
      have := congrArg (fun l => l[0]?) htake
      simpa using this
    | j + 1 => simp at hj
  have C0 : Ch [] w (w.alloc (.cells #[I m] 3)) := (Ch.refl [] w).alloc _
  have hb0 : (w.alloc (.cells #[I m] 3)).heap[w.heap.size]? = some (.cells #[I m] 3 (0, 0)) := by rw [heap_alloc, if_pos rfl]
  have O1 := hof_any sd [k] q cap cur _ (by simp) (bkeep C0 hq) hcur
  obtain ⟨W, hW⟩ : ∃ W, w.alloc (.cells #[I m] 3) = W := ⟨_, rfl⟩
  rw [hW] at C0 hb0 O1
  obtain ⟨B, hB⟩ : ∃ B, w.heap.size = B := ⟨_, rfl⟩
  rw [hB] at hb0
  simp only [List.length_cons, List.length_nil, Nat.zero_add] at O1
  have hBW : B < W.heap.size := (Array.getElem?_eq_some_iff.1 hb0).1
  have hwB : w.heap.size ≤ W.heap.size := C0.size
  have HBW := Lib.hid hBW
  have HWB := Lib.hid hwB
  clear hcur htake hcs hcm hnc hq hbq hBW hwB
  go_enter Tryz.func48, Tryz.ntmps48
  go_wp2
  try rw [hW]
  try rw [hB]
  clear hW hB
  apply wp_scope_straight
  go_wp2_with fail
  refine O1.mono ?_
  rintro e w1 ⟨c, p, rfl, hc, hp, lc, lp, hc1⟩
  have hb1 := bkeep hc1 hb0
  have C1 := C0.trans hc1
  have hne : ¬ B = c := by have := HBW.out; omega
  have K1 := fun w h1 h2 => counted_one sd k c p (.map none) w h1 h2
  have hcw : w.heap.size ≤ c := by have := HWB.out; omega
  clear O1 C0 hb0 hc1 lp lc
  go_wp2
  apply wp_label
  go_wp2
  refine wp_loop_rounds 1 ?_
  rw [rounds_succ]
  go_wp2_with fail
  refine (K1 _ hc hp).mono ?_
  rintro e w2 ⟨M, rfl, hcn, hc2⟩
  have hb2 : w2.heap[B]? = some (.cells #[I m] 3 (0, 0)) := (hc2.block B (Array.getElem?_eq_some_iff.1 hb1).1 (by simpa using hne)).trans hb1
  have C2 : Ch [] w w2 := C1.trans2 hc2 (fun t ht => .inr (by rw [List.mem_singleton.1 ht]; exact hcw))
  have S1 := some_any M 1 _ m B w2 hcn (by omega) hb2
  clear K1 hc hp hc2 hb1 C1 hb2 hcn
  go_wp2_with fail
  refine S1.mono ?_
  rintro e w3 ⟨r, rfl, hr, -, hc3⟩
  have er : r = false := by
    cases r with
    | false => rfl
    | true =>
      obtain ⟨p, hp⟩ := hr rfl
      exfalso
      split at hp <;> omega
  subst er
  clear hr
  go_wp2
  rw [Exit.noGoto_ret]
  go_ret2
  exact ⟨rfl, C2.trans hc3⟩
end Go.Proofs.Hc
