/- Package table: Put. -/
import Derived.Test.YtmfajobocpaimaaGreatKHm
import Derived.Test.YtmfajobocpaimaaGreatKHj
import Derived.Test.YtmfajobocpaimaaGreatKHma
import Derived.Test.YtmfajobocpaimaaGreatKHn
import Derived.Test.YtmfajobocpaimaaGreatKHpa
import Derived.Test.YtmfajobocpaimaaGreatKHrw
import Derived.Test.YtmfajobocpaimaaGreatKHh
import Derived.Test.YtmfajobocpaimaaGreatKHxo
import Derived.Test.YtmfajobocpaimaaGreatKHtj
import Derived.Test.YtmfajobocpaimaaGreatKHtq
import Derived.Test.YtmfajobocpaimaaGreatKHtr
import Derived.Test.YtmfajobocpaimaaGreatKHxc
import Derived.Below
import Derived.BigQuiet
import Derived.Deep.Draws
import Derived.Deep.Light
import Derived.Deep.QuietTactic
import Derived.Deep.RegionHeld
import Derived.Laws.CopyRow
import Derived.Laws.Tables
import Derived.Lib.AppendZerosOnto
import Derived.Lib.Hide
import Derived.Lib.Tables
import Derived.Lib.Walk
import Derived.LoopIn
import Derived.LoopN
import Derived.LoopNIn
import Derived.Maps.AppendAt
import Derived.Maps.Views
import Derived.OwnWalkIn
import Derived.RangeFuncBox
import Derived.RangeFuncCalls
import Derived.RangeFuncRecord
import Derived.RangeFuncSeq
import Derived.Recover
import Derived.RegionTactic
import Derived.Shelf.Slices.Clone
import Derived.StillTail
import Derived.StillTailTactics
import Derived.TacticsInMore
import Derived.Test.YtmfajobocpaimaaGreatProg
import Derived.WalkKit
import Derived.WalkLawsBesides
import Derived.WalkMore
import Derived.WalkSpells
import Derived.Laws.StructEq
set_option linter.unusedSimpArgs false
set_option linter.unusedVariables false
namespace Go.Proofs.Hc
open Go.RowKit
attribute [local go_sem] wrap_u64 wrap_u8 bits_xor64 bits_and64 bits_or64 bits_not64 bits_xor8 bits_and8 bits_or8 signed64 signed8 ofInt_N BitVec.ofInt_add BitVec.ofInt_mul ofInt_sub' ofInt8_N64 ofInt64_N8 wide8 eqN neN shr_pow shr1 shr7 shr56
attribute [local go_sem high] bits_com64 shl_wrap
attribute [local go_sem] cell_heap ice_heap cellAt_cells iceAt_cells setAt_cells rowAt_cells canLay_cells laidAt_cells size_onObj size_setCell rowRes_some layRes_true
attribute [local go_sem] load26 load73 load23 store26 build73
attribute [local go_sem ↓] lrow26 lrow73 lrow23 srow26 zero26 brow73 heap_alloc heap_drew heap_drewN heap_setCell heap_onObj
attribute [local go_sem] tcells_size hcells_size tcells_get hcells_get tcells_one hcells_one hcells_table tcells_table hcells_all hcells_ctrl tcells_ctrl
attribute [local go_sem] nn2 nm2 nn3 nm3 nn4 nm4 nn5 nm5 nn6 nm6 nn7 nm7 nn8 nm8
attribute [local go_sem] loadA loadT2 storeA storeT2 buildA_ts buildA_sm assert_errno make_func acells_size t2cells_size acells_get t2cells_get acells_one t2cells_one acells_table acells_all t2cells_all t2cells_l t2cells_r
attribute [local go_sem ↓] lrowA lrowT2 srowA srowT2 browA zeroA_run zeroT2_run
attribute [local go_sem] nn2 nm2 nn3 nm3 nn4 nm4 nn5 nm5 nn6 nm6 nn7 nm7 nn8 nm8
attribute [local go_sem] Oper.semAt_some make_func1 ofInt_pow8
attribute [local go_sem] box26 tcells_idx cell0 cell1 cell2 cell3 cell4 hcells_idx hcells_pop
attribute [local go_sem] cell5 cell6 acells_idx acells_table
attribute [local go_sem high] laidAt_t laidAt_a
def putV (r : Except Int At) : Value := match r with
  | .ok y => .tuple #[.agg (tcells y.t), I y.slot, I 0]
  | .error c => .tuple #[.agg (tcells zeroT), I 0, I c]
theorem put_cases (r : Except Int At) : ∃ (y : At) (c : Int), tupOr (fun v => Value.agg (acells v)) (.agg (acells zeroA)) r = .tuple #[.agg (acells y), I c] ∧ putV r = .tuple #[.agg (tcells y.t), I y.slot, I c] := by
  cases r with
  | error c => exact ⟨zeroA, c, rfl, rfl⟩
  | ok y => exact ⟨y, 0, rfl, rfl⟩
theorem results_c0tt {P : Program} {fn : Func} {p q r : Tmp} {T1 : TypeId} (h : fn.results = #[.cell p T1, .tmp q, .tmp r]) (tmps : Array Value) (a : Addr) (w : World) {x y z : Value}
    (hp : tmps.getD p undef = .pointer (some a)) (hq : tmps.getD q undef = y) (hr : tmps.getD r undef = z) (h1 : (loadVar T1 a).run P w = .ok x w) :
    (results fn tmps).run P w = .ok (.tuple #[x, y, z]) w := by
  have hp' : tmps[p]?.getD undef = .pointer (some a) := by simpa using hp
  have hq' : tmps[q]?.getD undef = y := by simpa using hq
  have hr' : tmps[r]?.getD undef = z := by simpa using hr
  simp [results, h, hp', hq', hr', asAddr, h1]
set_option maxHeartbeats 1000000 in
set_option maxRecDepth 100000 in
theorem Put_any (t : Tab) (s k v : BitVec 64) (w : World) :
    Calls Tryz.prog 24 #[U s, .agg (tcells t), U k, U v] w fun e w' => e = .returned (putV (ifMay t s (putA t s k v))) ∧ Ch [] w w' := by
  have T1 : ∀ (w : World) (cap : Array Value), _ → Calls Tryz.prog 84 #[U s, .agg (tcells t), .func (.func 85) #[] cap] w fun e w' => e = .returned (tupOr (fun v => .agg (acells v)) (.agg (acells zeroA)) (ifMay t s (putA t s k v))) ∧ Ch [] w w' := fun w cap hd => tries91_any t s 85 cap (putA t s k v) w enters_put1 hd
  have D1 := fun b p q w hok hb hp hq => put1_any t s k v b p q w hok hb hp hq
  have hm := fun h => may_okT (t := t) (s := s) h
  generalize ifMay t s (putA t s k v) = R at *
  generalize putA t s k v = r at *
  obtain ⟨W0, hW0⟩ : ∃ W0, (((w.alloc (.cells (tcells t) 26)).alloc (.cells #[U k] 22)).alloc (.cells #[U v] 22)).alloc (.cells (tcells zeroT) 26) = W0 := ⟨_, rfl⟩
  have hC0 : Ch [] w W0 := by rw [← hW0]; exact ((((Ch.refl [] w).alloc _).alloc _).alloc _).alloc _
  have b0 : W0.heap[w.heap.size]? = some (.cells (tcells t) 26 (0, 0)) := by rw [← hW0]; simp [go_sem]
  have b1 : W0.heap[w.heap.size + 1]? = some (.cells #[U k] 22 (0, 0)) := by rw [← hW0]; simp [go_sem]
  have b2 : W0.heap[w.heap.size + 1 + 1]? = some (.cells #[U v] 22 (0, 0)) := by rw [← hW0]; simp [go_sem]
  have b3 : W0.heap[w.heap.size + 1 + 1 + 1]? = some (.cells (tcells zeroT) 26 (0, 0)) := by rw [← hW0]; simp [go_sem]
  go_enter Tryz.func24, Tryz.ntmps24
  go_wp2_with fail
  refine (T1 W0 #[.pointer (some ⟨w.heap.size + 1, 0, none⟩), .pointer (some ⟨w.heap.size + 1 + 1, 0, none⟩)] ?_).mono ?_
  · intro hmt b w1 hb hc hle
    exact D1 b (w.heap.size + 1) (w.heap.size + 1 + 1) w1 (hm hmt) hb (hkeep hc b1) (hkeep hc b2)
  · rintro e w1 ⟨rfl, hc1⟩
    have d3 := hkeep hc1 b3
    clear T1 D1 hm b0 b1 b2 b3
    obtain ⟨y, c, htup, hput⟩ := put_cases R
    rw [htup]
    have HPUT := Lib.hid hput
    clear htup hput
    go_wp2
    have hz1 := hc1.size
    have hA : ((World.onObj (w1.alloc (.cells (acells zeroA) 130)) w1.heap.size (laidAt 0 (acells y)))).heap[w1.heap.size]? = some (.cells (acells y) 130 (0, 0)) := by
      simp only [heap_onObj, if_true, heap_alloc, Option.map_some, laidAt_a]
    have hlt3 := (Array.getElem?_eq_some_iff.1 d3).1
    have hD : ((World.onObj (w1.alloc (.cells (acells zeroA) 130)) w1.heap.size (laidAt 0 (acells y)))).heap[w.heap.size + 1 + 1 + 1]? = some (.cells (tcells zeroT) 26 (0, 0)) := by
      rw [heap_onObj, if_neg (by omega), heap_alloc, if_neg (by omega)]; exact d3
    have hcf : Ch [] w (World.onObj (w1.alloc (.cells (acells zeroA) 130)) w1.heap.size (laidAt 0 (acells y))) := ((hC0.trans hc1).alloc _).onObj (.inr (by have := (hC0.trans hc1).size; exact this)) _
    generalize World.onObj (w1.alloc (.cells (acells zeroA) 130)) w1.heap.size (laidAt 0 (acells y)) = W2 at *
    have hne : ¬ w1.heap.size = w.heap.size + 1 + 1 + 1 := by omega
    have hne2 : ¬ w.heap.size + 1 + 1 + 1 = w1.heap.size := by omega
    generalize w1.heap.size = X at *
    clear hc1 hC0 hW0 d3 hz1
    refine wp_region_held_drew (S := fun W' => W'.heap[X]? = some (.cells (acells y) 130 (0, 0))) (by kernel_rfl) hA ?_
    intro hS
    simp only [List.size_toArray, List.length_cons, List.length_nil, Nat.reduceAdd]
    refine wpAnyH_take (i := 0) (v := ?_) rfl (by kernel_rfl) (by kernel_rfl) (by kernel_rfl) (fun _ _ _ h => h) (Or.inl ⟨by rfl, ?_⟩) hS ?_
    rotate_left
    · intro wq hSq
      first | (go_simp; done) | (go_simp; with_reducible rfl)
    try simp only [Act.put, List.setIfInBounds_toArray, List.set_cons_zero, List.set_cons_succ]
    refine wpAnyH_take (i := 1) (v := ?_) rfl (by kernel_rfl) (by kernel_rfl) (by kernel_rfl) (fun _ _ _ h => h) (Or.inl ⟨by rfl, ?_⟩) hS ?_
    rotate_left
    · intro wq hSq
      first | (go_simp; done) | (go_simp; with_reducible rfl)
    try simp only [Act.put, List.setIfInBounds_toArray, List.set_cons_zero, List.set_cons_succ]
    refine wpAnyH_take (i := 2) (v := ?_) rfl (by kernel_rfl) (by kernel_rfl) (by kernel_rfl) (fun _ _ _ h => h) (Or.inl ⟨by rfl, ?_⟩) hS ?_
    rotate_left
    · intro wq hSq
      first | (go_simp; done) | (go_simp; with_reducible rfl)
    try simp only [Act.put, List.setIfInBounds_toArray, List.set_cons_zero, List.set_cons_succ]
    refine wpAnyH_take (i := 3) (v := ?_) rfl (by kernel_rfl) (by kernel_rfl) (by kernel_rfl) (fun _ _ _ h => h) (Or.inl ⟨by rfl, ?_⟩) hS ?_
    rotate_left
    · intro wq hSq
      first | (go_simp; done) | (go_simp; with_reducible rfl)
    try simp only [Act.put, List.setIfInBounds_toArray, List.set_cons_zero, List.set_cons_succ]
    refine wpAnyH_take (i := 4) (v := ?_) rfl (by kernel_rfl) (by kernel_rfl) (by kernel_rfl) (fun _ _ _ h => h) (Or.inl ⟨by rfl, ?_⟩) hS ?_
    rotate_left
    · intro wq hSq
      first | (go_simp; done) | (go_simp; with_reducible rfl)
    try simp only [Act.put, List.setIfInBounds_toArray, List.set_cons_zero, List.set_cons_succ]
    refine wpAnyH_ready (rs := [5]) (by kernel_rfl) (by simp) ?_
    refine AllReadyH.cons (o := ⟨none, .store 26 (.tmp 8) (.tmp 21), 0, _, _, none⟩) rfl (fun K hK => ?_) AllReadyH.nil
    go_simp
    try simp only [laidAt_t]
    have hS9 : (World.onObj W2 (w.heap.size + 1 + 1 + 1) (laidAt 0 (tcells y.t))).heap[X]? = some (.cells (acells y) 130 (0, 0)) := by rw [heap_onObj, if_neg (by omega)]; exact hA
    refine hK.out _ _ hS9 (fun hS2 => ?_)
    refine wpAnyH_take (i := 6) (oi := ⟨some 9, .assign (.tmp 23), 3, _, _, none⟩) (v := ?_) rfl (by kernel_rfl) (by kernel_rfl) (by kernel_rfl) (fun _ _ _ h => h) (Or.inl ⟨by rfl, ?_⟩) hS9 ?_
    rotate_left
    · intro wq hSq
      first | (go_simp; done) | (go_simp; with_reducible rfl)
    try simp only [Act.put, List.setIfInBounds_toArray, List.set_cons_zero, List.set_cons_succ]
    refine wpAnyH_take (i := 7) (oi := ⟨some 10, .assign (.tmp 24), 32, _, _, none⟩) (v := ?_) rfl (by kernel_rfl) (by kernel_rfl) (by kernel_rfl) (fun _ _ _ h => h) (Or.inl ⟨by rfl, ?_⟩) hS9 ?_
    rotate_left
    · intro wq hSq
      first | (go_simp; done) | (go_simp; with_reducible rfl)
    try simp only [Act.put, List.setIfInBounds_toArray, List.set_cons_zero, List.set_cons_succ]
    refine wpAnyH_done (by kernel_rfl) ?_ _
    have hD2 : (World.onObj W2.drew (w.heap.size + 1 + 1 + 1) (laidAt 0 (tcells y.t))).heap[w.heap.size + 1 + 1 + 1]? = some (.cells (tcells y.t) 26 (0, 0)) := by
      rw [heap_onObj, if_pos rfl, heap_drew, hD, Option.map_some, laidAt_t]
    have hC2 : Ch [] w (World.onObj W2.drew (w.heap.size + 1 + 1 + 1) (laidAt 0 (tcells y.t))) := (hcf.drew).onObj (.inr (by omega)) _
    generalize World.onObj W2.drew (w.heap.size + 1 + 1 + 1) (laidAt 0 (tcells y.t)) = W3 at *
    go_wp2
    refine bodyPost_ret (v := .tuple #[.agg (tcells y.t), I y.slot, I c]) (results_c0tt Tryz.results24 _ _ _ rfl rfl rfl (run_loadVar_row _ _ 26 26 (tcells y.t) (0, 0) _ hD2 Tryz.underlying26 rfl (by rw [tcells_size]; kernel_rfl))) rfl ⟨?_, hC2⟩
    rw [HPUT.out]
end Go.Proofs.Hc
/- Package table: Drop. -/
namespace Go.Proofs.Hc
open Go.RowKit
attribute [local go_sem] wrap_u64 wrap_u8 bits_xor64 bits_and64 bits_or64 bits_not64 bits_xor8 bits_and8 bits_or8 signed64 signed8 ofInt_N BitVec.ofInt_add BitVec.ofInt_mul ofInt_sub' ofInt8_N64 ofInt64_N8 wide8 eqN neN shr_pow shr1 shr7 shr56
attribute [local go_sem high] bits_com64 shl_wrap
attribute [local go_sem] cell_heap ice_heap cellAt_cells iceAt_cells setAt_cells rowAt_cells canLay_cells laidAt_cells size_onObj size_setCell rowRes_some layRes_true
attribute [local go_sem] load26 load73 load23 store26 build73
attribute [local go_sem ↓] lrow26 lrow73 lrow23 srow26 zero26 brow73 heap_alloc heap_drew heap_drewN heap_setCell heap_onObj
attribute [local go_sem] tcells_size hcells_size tcells_get hcells_get tcells_one hcells_one hcells_table tcells_table hcells_all hcells_ctrl tcells_ctrl
attribute [local go_sem] nn2 nm2 nn3 nm3 nn4 nm4 nn5 nm5 nn6 nm6 nn7 nm7 nn8 nm8
attribute [local go_sem] loadA loadT2 storeA storeT2 buildA_ts buildA_sm assert_errno make_func acells_size t2cells_size acells_get t2cells_get acells_one t2cells_one acells_table acells_all t2cells_all t2cells_l t2cells_r
attribute [local go_sem ↓] lrowA lrowT2 srowA srowT2 browA zeroA_run zeroT2_run
attribute [local go_sem] nn2 nm2 nn3 nm3 nn4 nm4 nn5 nm5 nn6 nm6 nn7 nm7 nn8 nm8
attribute [local go_sem] Oper.semAt_some make_func1 ofInt_pow8
attribute [local go_sem] box26 tcells_idx cell0 cell1 cell2 cell3 cell4 hcells_idx hcells_pop
attribute [local go_sem] cell5 cell6 acells_idx acells_table
attribute [local go_sem high] laidAt_t laidAt_a
set_option maxHeartbeats 1000000 in
set_option maxRecDepth 100000 in
theorem Drop_any (t : Tab) (s k : BitVec 64) (w : World) :
    Calls Tryz.prog 26 #[U s, .agg (tcells t), U k] w fun e w' => e = .returned (putV (ifMay t s (dropE t s k))) ∧ Ch [] w w' := by
  have T1 : ∀ (w : World) (cap : Array Value), _ → Calls Tryz.prog 84 #[U s, .agg (tcells t), .func (.func 89) #[] cap] w fun e w' => e = .returned (tupOr (fun v => .agg (acells v)) (.agg (acells zeroA)) (ifMay t s (dropE t s k))) ∧ Ch [] w w' := fun w cap hd => tries91_any t s 89 cap (dropE t s k) w enters_drop1 hd
  have D1 := fun b p w hok hb hp => drop1_any t s k b p w hok hb hp
  have hm := fun h => may_okT (t := t) (s := s) h
  generalize ifMay t s (dropE t s k) = R at *
  generalize dropE t s k = r at *
  obtain ⟨W0, hW0⟩ : ∃ W0, ((w.alloc (.cells (tcells t) 26)).alloc (.cells #[U k] 22)).alloc (.cells (tcells zeroT) 26) = W0 := ⟨_, rfl⟩
  have hC0 : Ch [] w W0 := by rw [← hW0]; exact (((Ch.refl [] w).alloc _).alloc _).alloc _
  have b0 : W0.heap[w.heap.size]? = some (.cells (tcells t) 26 (0, 0)) := by rw [← hW0]; simp [go_sem]
  have b1 : W0.heap[w.heap.size + 1]? = some (.cells #[U k] 22 (0, 0)) := by rw [← hW0]; simp [go_sem]
  have b3 : W0.heap[w.heap.size + 1 + 1]? = some (.cells (tcells zeroT) 26 (0, 0)) := by rw [← hW0]; simp [go_sem]
  go_enter Tryz.func26, Tryz.ntmps26
  go_wp2_with fail
  refine (T1 W0 #[.pointer (some ⟨w.heap.size + 1, 0, none⟩)] ?_).mono ?_
  · intro hmt b w1 hb hc hle
    exact D1 b (w.heap.size + 1) w1 (hm hmt) hb (hkeep hc b1)
  · rintro e w1 ⟨rfl, hc1⟩
    have d3 := hkeep hc1 b3
    clear T1 D1 hm b0 b1 b3
    obtain ⟨y, c, htup, hput⟩ := put_cases R
    rw [htup]
    have HPUT := Lib.hid hput
    clear htup hput
    go_wp2
    have hz1 := hc1.size
    have hA : ((World.onObj (w1.alloc (.cells (acells zeroA) 130)) w1.heap.size (laidAt 0 (acells y)))).heap[w1.heap.size]? = some (.cells (acells y) 130 (0, 0)) := by
      simp only [heap_onObj, if_true, heap_alloc, Option.map_some, laidAt_a]
    have hlt3 := (Array.getElem?_eq_some_iff.1 d3).1
    have hD : ((World.onObj (w1.alloc (.cells (acells zeroA) 130)) w1.heap.size (laidAt 0 (acells y)))).heap[w.heap.size + 1 + 1]? = some (.cells (tcells zeroT) 26 (0, 0)) := by
      rw [heap_onObj, if_neg (by omega), heap_alloc, if_neg (by omega)]; exact d3
    have hcf : Ch [] w (World.onObj (w1.alloc (.cells (acells zeroA) 130)) w1.heap.size (laidAt 0 (acells y))) := ((hC0.trans hc1).alloc _).onObj (.inr (by have := (hC0.trans hc1).size; exact this)) _
    generalize World.onObj (w1.alloc (.cells (acells zeroA) 130)) w1.heap.size (laidAt 0 (acells y)) = W2 at *
    have hne : ¬ w1.heap.size = w.heap.size + 1 + 1 := by omega
    have hne2 : ¬ w.heap.size + 1 + 1 = w1.heap.size := by omega
    generalize w1.heap.size = X at *
    clear hc1 hC0 hW0 d3 hz1
    refine wp_region_held_drew (S := fun W' => W'.heap[X]? = some (.cells (acells y) 130 (0, 0))) (by kernel_rfl) hA ?_
    intro hS
    simp only [List.size_toArray, List.length_cons, List.length_nil, Nat.reduceAdd]
    refine wpAnyH_take (i := 0) (v := ?_) rfl (by kernel_rfl) (by kernel_rfl) (by kernel_rfl) (fun _ _ _ h => h) (Or.inl ⟨by rfl, ?_⟩) hS ?_
    rotate_left
    · intro wq hSq
      first | (go_simp; done) | (go_simp; with_reducible rfl)
    try simp only [Act.put, List.setIfInBounds_toArray, List.set_cons_zero, List.set_cons_succ]
    refine wpAnyH_take (i := 1) (v := ?_) rfl (by kernel_rfl) (by kernel_rfl) (by kernel_rfl) (fun _ _ _ h => h) (Or.inl ⟨by rfl, ?_⟩) hS ?_
    rotate_left
    · intro wq hSq
      first | (go_simp; done) | (go_simp; with_reducible rfl)
    try simp only [Act.put, List.setIfInBounds_toArray, List.set_cons_zero, List.set_cons_succ]
    refine wpAnyH_take (i := 2) (v := ?_) rfl (by kernel_rfl) (by kernel_rfl) (by kernel_rfl) (fun _ _ _ h => h) (Or.inl ⟨by rfl, ?_⟩) hS ?_
    rotate_left
    · intro wq hSq
      first | (go_simp; done) | (go_simp; with_reducible rfl)
    try simp only [Act.put, List.setIfInBounds_toArray, List.set_cons_zero, List.set_cons_succ]
    refine wpAnyH_take (i := 3) (v := ?_) rfl (by kernel_rfl) (by kernel_rfl) (by kernel_rfl) (fun _ _ _ h => h) (Or.inl ⟨by rfl, ?_⟩) hS ?_
    rotate_left
    · intro wq hSq
      first | (go_simp; done) | (go_simp; with_reducible rfl)
    try simp only [Act.put, List.setIfInBounds_toArray, List.set_cons_zero, List.set_cons_succ]
    refine wpAnyH_take (i := 4) (v := ?_) rfl (by kernel_rfl) (by kernel_rfl) (by kernel_rfl) (fun _ _ _ h => h) (Or.inl ⟨by rfl, ?_⟩) hS ?_
    rotate_left
    · intro wq hSq
      first | (go_simp; done) | (go_simp; with_reducible rfl)
    try simp only [Act.put, List.setIfInBounds_toArray, List.set_cons_zero, List.set_cons_succ]
    refine wpAnyH_ready (rs := [5]) (by kernel_rfl) (by simp) ?_
    refine AllReadyH.cons (o := ⟨none, .store 26 (.tmp 6) (.tmp 19), 0, _, _, none⟩) rfl (fun K hK => ?_) AllReadyH.nil
    go_simp
    try simp only [laidAt_t]
    have hS9 : (World.onObj W2 (w.heap.size + 1 + 1) (laidAt 0 (tcells y.t))).heap[X]? = some (.cells (acells y) 130 (0, 0)) := by rw [heap_onObj, if_neg (by omega)]; exact hA
    refine hK.out _ _ hS9 (fun hS2 => ?_)
    refine wpAnyH_take (i := 6) (oi := ⟨some 7, .assign (.tmp 21), 3, _, _, none⟩) (v := ?_) rfl (by kernel_rfl) (by kernel_rfl) (by kernel_rfl) (fun _ _ _ h => h) (Or.inl ⟨by rfl, ?_⟩) hS9 ?_
    rotate_left
    · intro wq hSq
      first | (go_simp; done) | (go_simp; with_reducible rfl)
    try simp only [Act.put, List.setIfInBounds_toArray, List.set_cons_zero, List.set_cons_succ]
    refine wpAnyH_take (i := 7) (oi := ⟨some 8, .assign (.tmp 22), 32, _, _, none⟩) (v := ?_) rfl (by kernel_rfl) (by kernel_rfl) (by kernel_rfl) (fun _ _ _ h => h) (Or.inl ⟨by rfl, ?_⟩) hS9 ?_
    rotate_left
    · intro wq hSq
      first | (go_simp; done) | (go_simp; with_reducible rfl)
    try simp only [Act.put, List.setIfInBounds_toArray, List.set_cons_zero, List.set_cons_succ]
    refine wpAnyH_done (by kernel_rfl) ?_ _
    have hD2 : (World.onObj W2.drew (w.heap.size + 1 + 1) (laidAt 0 (tcells y.t))).heap[w.heap.size + 1 + 1]? = some (.cells (tcells y.t) 26 (0, 0)) := by
      rw [heap_onObj, if_pos rfl, heap_drew, hD, Option.map_some, laidAt_t]
    have hC2 : Ch [] w (World.onObj W2.drew (w.heap.size + 1 + 1) (laidAt 0 (tcells y.t))) := (hcf.drew).onObj (.inr (by omega)) _
    generalize World.onObj W2.drew (w.heap.size + 1 + 1) (laidAt 0 (tcells y.t)) = W3 at *
    go_wp2
    refine bodyPost_ret (v := .tuple #[.agg (tcells y.t), I y.slot, I c]) (results_c0tt Tryz.results26 _ _ _ rfl rfl rfl (run_loadVar_row _ _ 26 26 (tcells y.t) (0, 0) _ hD2 Tryz.underlying26 rfl (by rw [tcells_size]; kernel_rfl))) rfl ⟨?_, hC2⟩
    rw [HPUT.out]
end Go.Proofs.Hc
/- slices.DeleteFunc at rows of pairs: what the walk needs. -/
namespace Go.Proofs.Hc
open Go.RowKit
theorem pcells_set : ∀ (L : List (BitVec 64 × BitVec 64)) (i : Nat) (p : BitVec 64 × BitVec 64), i < L.length → (pcells L).take (2 * i) ++ [U p.1, U p.2] ++ (pcells L).drop (2 * i + 2) = pcells (L.set i p)
  | [], i, p, h => by simp at h
  | q :: L, 0, p, _ => rfl
  | q :: L, i + 1, p, h => by
    have ih := pcells_set L i p (by simpa using h)
    have e : pcells (q :: L) = U q.1 :: U q.2 :: pcells L := rfl
    have e2 : pcells ((q :: L).set (i + 1) p) = U q.1 :: U q.2 :: pcells (L.set i p) := rfl
    rw [e, e2, ← ih, show 2 * (i + 1) = 2 * i + 1 + 1 by omega, show 2 * i + 1 + 1 + 2 = (2 * i + 2) + 1 + 1 by omega]
    simp
/-- An own row, block and all. -/
structure RowOf (W : World) (base g n cap : Nat) (L : List (BitVec 64 × BitVec 64)) (cur : Array Value) : Prop where
  heap : W.heap[g]? = some (.cells cur 31 (0, 0))
  size : cur.size = cap * 2
  len : L.length = n
  le : n ≤ cap
  max : cap ≤ maxLen
  base : base ≤ g
  cells : cur.toList.take (2 * n) = pcells L
theorem RowOf.own {W : World} {base g n cap : Nat} {L : List (BitVec 64 × BitVec 64)} {cur : Array Value} (h : RowOf W base g n cap L cur) : W.ownsRow base 31 2 (.slice (some ⟨g, 0, none⟩) n cap) n (pcells L) :=
  ⟨by rw [pcells_len, h.len], .inr ⟨g, cap, cur, rfl, h.base, h.heap, h.le, h.max, h.size, by rw [Nat.mul_comm]; exact h.cells⟩⟩
theorem RowOf.row {W : World} {base g n cap : Nat} {L : List (BitVec 64 × BitVec 64)} {cur : Array Value} (h : RowOf W base g n cap L cur) {i : Nat} {p : BitVec 64 × BitVec 64} (hp : L[i]? = some p) : rowAt (i * 2) 2 (.cells cur 31 (0, 0)) = some #[U p.1, U p.2] := by
  obtain ⟨cur', h1, h2, h3⟩ := pairs_at h.len.symm h.own
  have h4 := (h3 g rfl).2
  rw [h.heap] at h4
  have : cur = cur' := by simpa using h4
  subst this
  rw [Nat.mul_comm]
  exact h1 i p hp
/-- A pair that is stored. -/
theorem RowOf.put {W : World} {base g n cap : Nat} {L : List (BitVec 64 × BitVec 64)} {cur : Array Value} (h : RowOf W base g n cap L cur) {i : Nat} (hi : i < n) (p : BitVec 64 × BitVec 64) :
    ∃ cur', RowOf (World.onObj W g (laidAt (i * 2) #[U p.1, U p.2])) base g n cap (L.set i p) cur' := by
  have hsz := h.size
  have hle := h.le
  have hlen := h.len
  refine ⟨cur.extract 0 (i * 2) ++ #[U p.1, U p.2] ++ cur.extract (i * 2 + 2) cur.size, ?_, ?_, by rw [List.length_set]; exact hlen, hle, h.max, h.base, ?_⟩
  · rw [heap_onObj, if_pos rfl, h.heap]; rfl
  · simp only [Array.size_append, Array.size_extract, List.size_toArray, List.length_cons, List.length_nil]
    omega
  · rw [← pcells_set L i p (by omega), ← h.cells]
    have hcl : cur.toList.length = cap * 2 := by simpa using hsz
    have h1 : (cur.extract 0 (i * 2) ++ #[U p.1, U p.2] ++ cur.extract (i * 2 + 2) cur.size).toList = cur.toList.take (2 * i) ++ [U p.1, U p.2] ++ cur.toList.drop (2 * i + 2) := by
      simp only [Array.toList_append, Array.toList_extract, List.extract_eq_take_drop, Nat.sub_zero, List.drop_zero, Nat.mul_comm i 2]
      rw [List.take_of_length_le (l := List.drop (2 * i + 2) cur.toList) (by rw [List.length_drop, Array.length_toList]; omega)]
    rw [h1]
    generalize cur.toList = cl at *
    rw [show (cl.take (2 * n)).take (2 * i) = cl.take (2 * i) by rw [List.take_take, Nat.min_eq_left (by omega)]]
    have e : (cl.take (2 * i) ++ [U p.1, U p.2]).length = 2 * i + 2 := by simp; omega
    rw [List.take_append, e, List.take_of_length_le (by rw [e]; omega), List.drop_take]
end Go.Proofs.Hc
/- slices.DeleteFunc at rows of pairs, by the statement's own test. -/
namespace Go.Proofs.Hc
open Go.RowKit
attribute [local go_sem] wrap_u64 wrap_u8 bits_xor64 bits_and64 bits_or64 bits_not64 bits_xor8 bits_and8 bits_or8 signed64 signed8 ofInt_N BitVec.ofInt_add BitVec.ofInt_mul ofInt_sub' ofInt8_N64 ofInt64_N8 wide8 eqN neN shr_pow shr1 shr7 shr56
attribute [local go_sem high] bits_com64 shl_wrap
attribute [local go_sem] cell_heap ice_heap cellAt_cells iceAt_cells setAt_cells rowAt_cells canLay_cells laidAt_cells size_onObj size_setCell rowRes_some layRes_true
attribute [local go_sem] load26 load73 load23 store26 build73
attribute [local go_sem ↓] lrow26 lrow73 lrow23 srow26 zero26 brow73 heap_alloc heap_drew heap_drewN heap_setCell heap_onObj
attribute [local go_sem] tcells_size hcells_size tcells_get hcells_get tcells_one hcells_one hcells_table tcells_table hcells_all hcells_ctrl tcells_ctrl
attribute [local go_sem] nn2 nm2 nn3 nm3 nn4 nm4 nn5 nm5 nn6 nm6 nn7 nm7 nn8 nm8
attribute [local go_sem] nn2 nm2 nn3 nm3 nn4 nm4 nn5 nm5 nn6 nm6 nn7 nm7 nn8 nm8
attribute [local go_sem] Oper.semAt_some make_func1
attribute [local go_sem] loadP storeP allOne_pair
attribute [local go_sem high] laidAt_p
attribute [local go_sem ↓] lrowP srowP zeroP
theorem RowOf.ch {W W' : World} {S : List Nat} {base g n cap : Nat} {L : List (BitVec 64 × BitVec 64)} {cur : Array Value} (h : RowOf W base g n cap L cur) (c : Ch S W W') (hg : g ∉ S) : RowOf W' base g n cap L cur := ⟨hkeepS c hg h.heap, h.size, h.len, h.le, h.max, h.base, h.cells⟩
end Go.Proofs.Hc
/- What the law of keeping needs of tables: plain law. -/
namespace Go.Proofs.Hc
open Go.RowKit
theorem find_hit {n : Tab} {s k : BitVec 64} {j mm : Nat} (m : May n s) (h : foundE n s k = .ok (j, mm)) (w : World) : Calls Tryz.prog 35 #[U s, .agg (tcells n), U k] w fun e w' => e = .returned (.tuple #[I j, I mm, I 0]) ∧ Ch [] w w' := by
  have := Find_any n s k w
  rw [ifMay, if_pos ((may_iff n s).2 m), h] at this
  exact this
theorem find_miss {n : Tab} {s k : BitVec 64} (m : May n s) (h : foundE n s k = .error 4) (w : World) : Calls Tryz.prog 35 #[U s, .agg (tcells n), U k] w fun e w' => e = .returned (.tuple #[I 0, I 0, I 4]) ∧ Ch [] w w' := by
  have := Find_any n s k w
  rw [ifMay, if_pos ((may_iff n s).2 m), h] at this
  exact this
theorem drop_hit {n : Tab} {s k : BitVec 64} {j mm : Nat} (m : May n s) (h : foundE n s k = .ok (j, mm)) (w : World) : Calls Tryz.prog 26 #[U s, .agg (tcells n), U k] w fun e w' => e = .returned (.tuple #[.agg (tcells (dropT n j)), I j, I 0]) ∧ Ch [] w w' := by
  have := Drop_any n s k w
  rw [ifMay, if_pos ((may_iff n s).2 m), dropE, h] at this
  exact this
theorem set_hit {n : Tab} {s k v : BitVec 64} {j mm : Nat} (m : May n s) (h : foundE n s k = .ok (j, mm)) (w : World) : Calls Tryz.prog 25 #[U s, .agg (tcells n), U k, U v] w fun e w' => e = .returned (.tuple #[.agg (tcells (setT n j v)), I 0]) ∧ Ch [] w w' := by
  have := Set_any n s k v w
  rw [ifMay, if_pos ((may_iff n s).2 m), setE, h] at this
  exact this
end Go.Proofs.Hc
