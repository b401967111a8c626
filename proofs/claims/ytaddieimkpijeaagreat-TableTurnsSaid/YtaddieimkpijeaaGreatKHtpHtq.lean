/- Package table: Put. -/
import Derived.Test.YtaddieimkpijeaaGreatKHtkHtlHto
set_option linter.unusedSimpArgs false
set_option linter.unusedVariables false
namespace Go.Proofs.Hc
open Go.RowKit
attribute [local go_sem] wrap_u64 wrap_u8 bits_xor64 bits_and64 bits_or64 bits_not64 bits_xor8 bits_and8 bits_or8 signed64 signed8 ofInt_N BitVec.ofInt_add BitVec.ofInt_mul ofInt_sub' ofInt8_N64 ofInt64_N8 wide8 eqN neN shr_pow shr1 shr7 shr56
attribute [local go_sem high] bits_com64 shl_wrap
attribute [local go_sem] cell_heap ice_heap cellAt_cells iceAt_cells setAt_cells rowAt_cells canLay_cells laidAt_cells size_onObj size_setCell rowRes_some layRes_true
attribute [local go_sem] load26 load73 load23 store26 build73
attribute [local go_sem ↓] lrow26 lrow73 lrow23 srow26 zero26 brow73 heap_alloc heap_drew heap_drewN heap_setCell heap_onObj
attribute [local go_sem] tcells_size hcells_size tcells_get hcells_get tcells_one hcells_one hcells_table tcells_table hcells_all hcells_ctrl tcells_ctrl
attribute [local go_sem] nn2 nm2 nn3 nm3 nn4 nm4 nn5 nm5 nn6 nm6 nn7 nm7 nn8 nm8
attribute [local go_sem] loadA loadT2 storeA storeT2 buildA_ts buildA_sm assert_errno make_func acells_size t2cells_size acells_get t2cells_get acells_one t2cells_one acells_table acells_all t2cells_all t2cells_l t2cells_r
attribute [local go_sem ↓] lrowA lrowT2 srowA srowT2 browA zeroA_run zeroT2_run
attribute [local go_sem] nn2 nm2 nn3 nm3 nn4 nm4 nn5 nm5 nn6 nm6 nn7 nm7 nn8 nm8
attribute [local go_sem] Oper.semAt_some make_func1 ofInt_pow8
attribute [local go_sem] box26 tcells_idx cell0 cell1 cell2 cell3 cell4 hcells_idx hcells_pop
attribute [local go_sem] cell5 cell6 acells_idx acells_table
attribute [local go_sem high] laidAt_t laidAt_a
def putV (r : Except Int At) : Value := match r with
  | .ok y => .tuple #[.agg (tcells y.t), I y.slot, I 0]
  | .error c => .tuple #[.agg (tcells zeroT), I 0, I c]
theorem put_cases (r : Except Int At) : ∃ (y : At) (c : Int), tupOr (fun v => Value.agg (acells v)) (.agg (acells zeroA)) r = .tuple #[.agg (acells y), I c] ∧ putV r = .tuple #[.agg (tcells y.t), I y.slot, I c] := by
  cases r with
  | error c => exact ⟨zeroA, c, rfl, rfl⟩
  | ok y => exact ⟨y, 0, rfl, rfl⟩
theorem results_c0tt {P : Program} {fn : Func} {p q r : Tmp} {T1 : TypeId} (h : fn.results = #[.cell p T1, .tmp q, .tmp r]) (tmps : Array Value) (a : Addr) (w : World) {x y z : Value}
    (hp : tmps.getD p undef = .pointer (some a)) (hq : tmps.getD q undef = y) (hr : tmps.getD r undef = z) (h1 : (loadVar T1 a).run P w = .ok x w) :
    (results fn tmps).run P w = .ok (.tuple #[x, y, z]) w := by
  have hp' : tmps[p]?.getD undef = .pointer (some a) := by simpa using hp
  have hq' : tmps[q]?.getD undef = y := by simpa using hq
  have hr' : tmps[r]?.getD undef = z := by simpa using hr
  simp [results, h, hp', hq', hr', asAddr, h1]
set_option maxHeartbeats 1000000 in
set_option maxRecDepth 100000 in
theorem Put_any (t : Tab) (s k v : BitVec 64) (w : World) :
    Calls Tryz.prog 19 #[U s, .agg (tcells t), U k, U v] w fun e w' => e = .returned (putV (ifMay t s (putA t s k v))) ∧ Ch [] w w' := by
  have T1 : ∀ (w : World) (cap : Array Value), _ → Calls Tryz.prog 58 #[U s, .agg (tcells t), .func (.func 59) #[] cap] w fun e w' => e = .returned (tupOr (fun v => .agg (acells v)) (.agg (acells zeroA)) (ifMay t s (putA t s k v))) ∧ Ch [] w w' := fun w cap hd => tries91_any t s 59 cap (putA t s k v) w enters_put1 hd
  have D1 := fun b p q w hok hb hp hq => put1_any t s k v b p q w hok hb hp hq
  have hm := fun h => may_okT (t := t) (s := s) h
  generalize ifMay t s (putA t s k v) = R at *
  generalize putA t s k v = r at *
  obtain ⟨W0, hW0⟩ : ∃ W0, (((w.alloc (.cells (tcells t) 26)).alloc (.cells #[U k] 22)).alloc (.cells #[U v] 22)).alloc (.cells (tcells zeroT) 26) = W0 := ⟨_, rfl⟩
  have hC0 : Ch [] w W0 := by rw [← hW0]; exact ((((Ch.refl [] w).alloc _).alloc _).alloc _).alloc _
  have b0 : W0.heap[w.heap.size]? = some (.cells (tcells t) 26 (0, 0)) := by rw [← hW0]; simp [go_sem]
  have b1 : W0.heap[w.heap.size + 1]? = some (.cells #[U k] 22 (0, 0)) := by rw [← hW0]; simp [go_sem]
  have b2 : W0.heap[w.heap.size + 1 + 1]? = some (.cells #[U v] 22 (0, 0)) := by rw [← hW0]; simp [go_sem]
  have b3 : W0.heap[w.heap.size + 1 + 1 + 1]? = some (.cells (tcells zeroT) 26 (0, 0)) := by rw [← hW0]; simp [go_sem]
  go_enter Tryz.func19, Tryz.ntmps19
  go_wp2_with fail
  refine (T1 W0 #[.pointer (some ⟨w.heap.size + 1, 0, none⟩), .pointer (some ⟨w.heap.size + 1 + 1, 0, none⟩)] ?_).mono ?_
  · intro hmt b w1 hb hc hle
    exact D1 b (w.heap.size + 1) (w.heap.size + 1 + 1) w1 (hm hmt) hb (hkeep hc b1) (hkeep hc b2)
  · rintro e w1 ⟨rfl, hc1⟩
    have d3 := hkeep hc1 b3
    clear T1 D1 hm b0 b1 b2 b3
    obtain ⟨y, c, htup, hput⟩ := put_cases R
    rw [htup]
    have HPUT := Lib.hid hput
    clear htup hput
    go_wp2
    have hz1 := hc1.size
    have hA : ((World.onObj (w1.alloc (.cells (acells zeroA) 91)) w1.heap.size (laidAt 0 (acells y)))).heap[w1.heap.size]? = some (.cells (acells y) 91 (0, 0)) := by
      simp only [heap_onObj, if_true, heap_alloc, Option.map_some, laidAt_a]
    have hlt3 := (Array.getElem?_eq_some_iff.1 d3).1
    have hD : ((World.onObj (w1.alloc (.cells (acells zeroA) 91)) w1.heap.size (laidAt 0 (acells y)))).heap[w.heap.size + 1 + 1 + 1]? = some (.cells (tcells zeroT) 26 (0, 0)) := by
      rw [heap_onObj, if_neg (by omega), heap_alloc, if_neg (by omega)]; exact d3
    have hcf : Ch [] w (World.onObj (w1.alloc (.cells (acells zeroA) 91)) w1.heap.size (laidAt 0 (acells y))) := ((hC0.trans hc1).alloc _).onObj (.inr (by have := (hC0.trans hc1).size; exact this)) _
    generalize World.onObj (w1.alloc (.cells (acells zeroA) 91)) w1.heap.size (laidAt 0 (acells y)) = W2 at *
    have hne : ¬ w1.heap.size = w.heap.size + 1 + 1 + 1 := by omega
    have hne2 : ¬ w.heap.size + 1 + 1 + 1 = w1.heap.size := by omega
    generalize w1.heap.size = X at *
    clear hc1 hC0 hW0 d3 hz1
    refine wp_region_held_drew (S := fun W' => W'.heap[X]? = some (.cells (acells y) 91 (0, 0))) (by kernel_rfl) hA ?_
    intro hS
    simp only [List.size_toArray, List.length_cons, List.length_nil, Nat.reduceAdd]
    refine wpAnyH_take (i := 0) (v := ?_) rfl (by kernel_rfl) (by kernel_rfl) (by kernel_rfl) (fun _ _ _ h => h) (Or.inl ⟨by rfl, ?_⟩) hS ?_
    rotate_left
    · intro wq hSq
      first | (go_simp; done) | (go_simp; with_reducible rfl)
    try simp only [Act.put, List.setIfInBounds_toArray, List.set_cons_zero, List.set_cons_succ]
    refine wpAnyH_take (i := 1) (v := ?_) rfl (by kernel_rfl) (by kernel_rfl) (by kernel_rfl) (fun _ _ _ h => h) (Or.inl ⟨by rfl, ?_⟩) hS ?_
    rotate_left
    · intro wq hSq
      first | (go_simp; done) | (go_simp; with_reducible rfl)
    try simp only [Act.put, List.setIfInBounds_toArray, List.set_cons_zero, List.set_cons_succ]
    refine wpAnyH_take (i := 2) (v := ?_) rfl (by kernel_rfl) (by kernel_rfl) (by kernel_rfl) (fun _ _ _ h => h) (Or.inl ⟨by rfl, ?_⟩) hS ?_
    rotate_left
    · intro wq hSq
      first | (go_simp; done) | (go_simp; with_reducible rfl)
    try simp only [Act.put, List.setIfInBounds_toArray, List.set_cons_zero, List.set_cons_succ]
    refine wpAnyH_take (i := 3) (v := ?_) rfl (by kernel_rfl) (by kernel_rfl) (by kernel_rfl) (fun _ _ _ h => h) (Or.inl ⟨by rfl, ?_⟩) hS ?_
    rotate_left
    · intro wq hSq
      first | (go_simp; done) | (go_simp; with_reducible rfl)
    try simp only [Act.put, List.setIfInBounds_toArray, List.set_cons_zero, List.set_cons_succ]
    refine wpAnyH_take (i := 4) (v := ?_) rfl (by kernel_rfl) (by kernel_rfl) (by kernel_rfl) (fun _ _ _ h => h) (Or.inl ⟨by rfl, ?_⟩) hS ?_
    rotate_left
    · intro wq hSq
      first | (go_simp; done) | (go_simp; with_reducible rfl)
    try simp only [Act.put, List.setIfInBounds_toArray, List.set_cons_zero, List.set_cons_succ]
    refine wpAnyH_ready (rs := [5]) (by kernel_rfl) (by simp) ?_
    refine AllReadyH.cons (o := ⟨none, .store 26 (.tmp 8) (.tmp 21), 0, _, _, none⟩) rfl (fun K hK => ?_) AllReadyH.nil
    go_simp
    try simp only [laidAt_t]
    have hS9 : (World.onObj W2 (w.heap.size + 1 + 1 + 1) (laidAt 0 (tcells y.t))).heap[X]? = some (.cells (acells y) 91 (0, 0)) := by rw [heap_onObj, if_neg (by omega)]; exact hA
    refine hK.out _ _ hS9 (fun hS2 => ?_)
    refine wpAnyH_take (i := 6) (oi := ⟨some 9, .assign (.tmp 23), 3, _, _, none⟩) (v := ?_) rfl (by kernel_rfl) (by kernel_rfl) (by kernel_rfl) (fun _ _ _ h => h) (Or.inl ⟨by rfl, ?_⟩) hS9 ?_
    rotate_left
    · intro wq hSq
      first | (go_simp; done) | (go_simp; with_reducible rfl)
    try simp only [Act.put, List.setIfInBounds_toArray, List.set_cons_zero, List.set_cons_succ]
    refine wpAnyH_take (i := 7) (oi := ⟨some 10, .assign (.tmp 24), 32, _, _, none⟩) (v := ?_) rfl (by kernel_rfl) (by kernel_rfl) (by kernel_rfl) (fun _ _ _ h => h) (Or.inl ⟨by rfl, ?_⟩) hS9 ?_
    rotate_left
    · intro wq hSq
      first | (go_simp; done) | (go_simp; with_reducible rfl)
    try simp only [Act.put, List.setIfInBounds_toArray, List.set_cons_zero, List.set_cons_succ]
    refine wpAnyH_done (by kernel_rfl) ?_ _
    have hD2 : (World.onObj W2.drew (w.heap.size + 1 + 1 + 1) (laidAt 0 (tcells y.t))).heap[w.heap.size + 1 + 1 + 1]? = some (.cells (tcells y.t) 26 (0, 0)) := by
      rw [heap_onObj, if_pos rfl, heap_drew, hD, Option.map_some, laidAt_t]
    have hC2 : Ch [] w (World.onObj W2.drew (w.heap.size + 1 + 1 + 1) (laidAt 0 (tcells y.t))) := (hcf.drew).onObj (.inr (by omega)) _
    generalize World.onObj W2.drew (w.heap.size + 1 + 1 + 1) (laidAt 0 (tcells y.t)) = W3 at *
    go_wp2
    refine bodyPost_ret (v := .tuple #[.agg (tcells y.t), I y.slot, I c]) (results_c0tt Tryz.results19 _ _ _ rfl rfl rfl (run_loadVar_row _ _ 26 26 (tcells y.t) (0, 0) _ hD2 Tryz.underlying26 rfl (by rw [tcells_size]; kernel_rfl))) rfl ⟨?_, hC2⟩
    rw [HPUT.out]
end Go.Proofs.Hc
/- Package table: Set. -/
namespace Go.Proofs.Hc
open Go.RowKit
attribute [local go_sem] wrap_u64 wrap_u8 bits_xor64 bits_and64 bits_or64 bits_not64 bits_xor8 bits_and8 bits_or8 signed64 signed8 ofInt_N BitVec.ofInt_add BitVec.ofInt_mul ofInt_sub' ofInt8_N64 ofInt64_N8 wide8 eqN neN shr_pow shr1 shr7 shr56
attribute [local go_sem high] bits_com64 shl_wrap
attribute [local go_sem] cell_heap ice_heap cellAt_cells iceAt_cells setAt_cells rowAt_cells canLay_cells laidAt_cells size_onObj size_setCell rowRes_some layRes_true
attribute [local go_sem] load26 load73 load23 store26 build73
attribute [local go_sem ↓] lrow26 lrow73 lrow23 srow26 zero26 brow73 heap_alloc heap_drew heap_drewN heap_setCell heap_onObj
attribute [local go_sem] tcells_size hcells_size tcells_get hcells_get tcells_one hcells_one hcells_table tcells_table hcells_all hcells_ctrl tcells_ctrl
attribute [local go_sem] nn2 nm2 nn3 nm3 nn4 nm4 nn5 nm5 nn6 nm6 nn7 nm7 nn8 nm8
attribute [local go_sem] loadA loadT2 storeA storeT2 buildA_ts buildA_sm assert_errno make_func acells_size t2cells_size acells_get t2cells_get acells_one t2cells_one acells_table acells_all t2cells_all t2cells_l t2cells_r
attribute [local go_sem ↓] lrowA lrowT2 srowA srowT2 browA zeroA_run zeroT2_run
attribute [local go_sem] nn2 nm2 nn3 nm3 nn4 nm4 nn5 nm5 nn6 nm6 nn7 nm7 nn8 nm8
attribute [local go_sem] Oper.semAt_some make_func1 ofInt_pow8
attribute [local go_sem] box26 tcells_idx cell0 cell1 cell2 cell3 cell4 hcells_idx hcells_pop
attribute [local go_sem] cell5 cell6
attribute [local go_sem high] laidAt_t
theorem scan_mem (f : Nat → Bool) : ∀ (l : List Nat) (n : Nat) (y : Nat × Nat), scan f n l = some y → y.1 ∈ l ∧ f y.1 = true
  | [], n, y, h => by cases h
  | x :: l, n, y, h => by
    rw [scan] at h
    by_cases hf : f x = true
    · rw [if_pos hf] at h
      cases h
      exact ⟨by simp, hf⟩
    · rw [if_neg hf] at h
      obtain ⟨h1, h2⟩ := scan_mem f l (n + 1) y h
      exact ⟨by simp [h1], h2⟩
theorem cand_lt {t : Tab} {s k : BitVec 64} {h2 : BitVec 8} {j : Nat} (h : j ∈ (rowT t s k).flatMap (candG t h2)) : j < 16 := by
  obtain ⟨g, hg, hj⟩ := List.mem_flatMap.1 h
  have := row_bound t s k g hg
  unfold candG at hj
  obtain ⟨x, hx, rfl⟩ := List.mem_map.1 hj
  have := ((mem_lanes _ _).1 hx).1
  omega
theorem foundT_lt {t : Tab} {s k : BitVec 64} {y : Nat × Nat} (h : foundT t s k = some y) : y.1 < 16 := cand_lt (scan_mem _ _ _ _ h).1
theorem foundE_lt {t : Tab} {s k : BitVec 64} {y : Nat × Nat} (h : foundE t s k = .ok y) : y.1 < 16 := by
  rw [foundE_eq] at h
  cases hf : foundT t s k with
  | none => rw [hf] at h; cases h
  | some z => rw [hf] at h; cases h; exact foundT_lt hf
theorem enters_set1 (args : Array Value) (w : World) : (callFunc 61 args).run Tryz.prog w = .ok (.enter 61 args) w := by kernel_rfl
/-- A table whose key has another value. -/
def setT (t : Tab) (j : Nat) (v : BitVec 64) : Tab := { t with v := fun i => if i = j then v else t.v i }
def setE (t : Tab) (s k v : BitVec 64) : Except Int Tab := (foundE t s k).map fun y => setT t y.1 v
set_option maxHeartbeats 1000000 in
set_option maxRecDepth 100000 in
theorem set1_any (t : Tab) (s k v : BitVec 64) (b p q : Nat) (w : World) (h0 : ctrlOk (t.c 0) = true) (h1 : ctrlOk (t.c 1) = true) (hb : w.heap[b]? = some (.cells (hcells t s) 73 (0, 0))) (hp : w.heap[p]? = some (.cells #[U k] 22 (0, 0))) (hq : w.heap[q]? = some (.cells #[U v] 22 (0, 0))) :
    Calls Tryz.prog 61 #[.pointer (some ⟨b, 0, none⟩), .pointer (some ⟨p, 0, none⟩), .pointer (some ⟨q, 0, none⟩)] w fun e w' => e = retOr (fun y => .agg (tcells y)) (setE t s k v) ∧ Ch [b] w w' := by
  have hpl := (Array.getElem?_eq_some_iff.1 hp).1
  have hql := (Array.getElem?_eq_some_iff.1 hq).1
  have hbl := (Array.getElem?_eq_some_iff.1 hb).1
  have hb' : (w.alloc (.cells (tcells zeroT) 26)).heap[b]? = some (.cells (hcells t s) 73 (0, 0)) := by rw [heap_alloc, if_neg (by omega)]; exact hb
  have hpn : ¬ p = w.heap.size := by omega
  have hqn : ¬ q = w.heap.size := by omega
  have P1 := found_any t s k b _ h0 h1 hb'
  have hlt := Lib.hid (fun y => foundE_lt (t := t) (s := s) (k := k) (y := y))
  unfold setE
  generalize foundE t s k = r at *
  have hbne : ¬ b = w.heap.size := by omega
  clear hpl hql
  cases r with
  | error c =>
    go_enter Tryz.func61, Tryz.ntmps61
    go_wp2_with (go_at_call 62; refine P1.mono ?_; rintro e w1 ⟨rfl, hc1⟩; simp only [retOr])
    exact ⟨rfl, rfl, (((Ch.refl [] w).alloc _).trans hc1).of_nil⟩
  | ok y =>
    have hj : y.1 < 16 := hlt.out y rfl
    clear hlt
    go_enter Tryz.func61, Tryz.ntmps61
    go_wp2_with (go_at_call 62; refine P1.mono ?_; rintro e w1 ⟨rfl, hc1⟩; simp only [retOr]; have hA := hkeep hc1 (show (w.alloc (.cells (tcells zeroT) 26)).heap[w.heap.size]? = some (.cells (tcells zeroT) 26 (0, 0)) by simp [go_sem]); have hB := hkeep hc1 hb'; have hQ := hkeep hc1 (show (w.alloc (.cells (tcells zeroT) 26)).heap[q]? = some (.cells #[U v] 22 (0, 0)) by rw [heap_alloc, if_neg (by omega)]; exact hq))
    have hcf : Ch [] w w1 := ((Ch.refl [] w).alloc _).trans hc1
    clear hc1 hb' P1
    obtain ⟨j, m⟩ := y
    replace hj : j < 16 := hj
    simp only at *
    have hqb : ¬ q = b := by
      rintro rfl
      rw [hb] at hq
      have := congrArg (fun o => match o with | some (Obj.cells c _ _) => c.size | _ => 0) hq
      simp [hcells_size] at this
    have hj0 : (0 : Int) ≤ (j : Int) := by omega
    have hj1 : (j : Int) < 16 := by omega
    have hqn2 : ¬ w.heap.size = q := by omega
    refine wp_region_held_drew (S := fun W' => W'.heap[q]? = some (.cells #[U v] 22 (0, 0))) (by kernel_rfl) hQ ?_
    intro hS
    simp only [List.size_toArray, List.length_cons, List.length_nil, Nat.reduceAdd]
    refine wpAnyH_take (i := 0) (v := ?_) rfl (by kernel_rfl) (by kernel_rfl) (by kernel_rfl) (fun _ _ _ h => h) (Or.inl ⟨by rfl, ?_⟩) hS ?_
    rotate_left
    · intro wq hSq
      first | (go_simp; done) | (go_simp; with_reducible rfl)
    try simp only [Act.put, List.setIfInBounds_toArray, List.set_cons_zero, List.set_cons_succ]
    refine wpAnyH_take (i := 1) (v := ?_) rfl (by kernel_rfl) (by kernel_rfl) (by kernel_rfl) (fun _ _ _ h => h) (Or.inl ⟨by rfl, ?_⟩) hS ?_
    rotate_left
    · intro wq hSq
      first | (go_simp; done) | (go_simp; with_reducible rfl)
    try simp only [Act.put, List.setIfInBounds_toArray, List.set_cons_zero, List.set_cons_succ]
    refine wpAnyH_take (i := 2) (v := ?_) rfl (by kernel_rfl) (by kernel_rfl) (by kernel_rfl) (fun _ _ _ h => h) (Or.inl ⟨by rfl, ?_⟩) hS ?_
    rotate_left
    · intro wq hSq
      first | (go_simp; done) | (go_simp; with_reducible rfl)
    try simp only [Act.put, List.setIfInBounds_toArray, List.set_cons_zero, List.set_cons_succ]
    refine wpAnyH_take (i := 3) (v := ?_) rfl (by kernel_rfl) (by kernel_rfl) (by kernel_rfl) (fun _ _ _ h => h) (Or.inl ⟨by rfl, ?_⟩) hS ?_
    rotate_left
    · intro wq hSq
      first | (go_simp; done) | (go_simp; with_reducible rfl)
    try simp only [Act.put, List.setIfInBounds_toArray, List.set_cons_zero, List.set_cons_succ]
    refine wpAnyH_take (i := 4) (v := ?_) rfl (by kernel_rfl) (by kernel_rfl) (by kernel_rfl) (fun _ _ _ h => h) (Or.inl ⟨by rfl, ?_⟩) hS ?_
    rotate_left
    · intro wq hSq
      first | (go_simp; done) | (go_simp; with_reducible rfl)
    try simp only [Act.put, List.setIfInBounds_toArray, List.set_cons_zero, List.set_cons_succ]
    refine wpAnyH_take (i := 5) (v := ?_) rfl (by kernel_rfl) (by kernel_rfl) (by kernel_rfl) (fun _ _ _ h => h) (Or.inl ⟨by rfl, ?_⟩) hS ?_
    rotate_left
    · intro wq hSq
      first | (go_simp; done) | (go_simp; with_reducible rfl)
    try simp only [Act.put, List.setIfInBounds_toArray, List.set_cons_zero, List.set_cons_succ]
    refine wpAnyH_take (i := 6) (v := ?_) rfl (by kernel_rfl) (by kernel_rfl) (by kernel_rfl) (fun _ _ _ h => h) (Or.inl ⟨by rfl, ?_⟩) hS ?_
    rotate_left
    · intro wq hSq
      first | (go_simp; done) | (go_simp; with_reducible rfl)
    try simp only [Act.put, List.setIfInBounds_toArray, List.set_cons_zero, List.set_cons_succ]
    refine wpAnyH_ready (rs := [7]) (by kernel_rfl) (by simp) ?_
    refine AllReadyH.cons (o := ⟨none, .store 22 (.tmp 19) (.tmp 15), 0, _, _, none⟩) rfl (fun K hK => ?_) AllReadyH.nil
    go_simp
    rw [if_pos (show 23 + j < 40 by omega)]
    go_simp
    have hS9 : (w1.setCell ⟨b, 23 + j, none⟩ (U v)).heap[q]? = some (.cells #[U v] 22 (0, 0)) := by rw [heap_setCell, if_neg hqb]; exact hQ
    refine hK.out _ _ hS9 (fun hS2 => ?_)
    refine wpAnyH_done (by kernel_rfl) ?_ _
    have hB2 : ((w1.setCell ⟨b, 23 + j, none⟩ (U v)).drew).heap[b]? = some (.cells (hcells (setT t j v) s) 73 (0, 0)) := by
      rw [heap_drew, heap_setCell, if_pos rfl, hB, Option.map_some, setAt_cells, hset_val t s j hj v]; rfl
    have hA2 : ((w1.setCell ⟨b, 23 + j, none⟩ (U v)).drew).heap[w.heap.size]? = some (.cells (tcells zeroT) 26 (0, 0)) := by
      rw [heap_drew, heap_setCell, if_neg (Ne.symm hbne)]; exact hA
    have hC2 : Ch [b] w ((w1.setCell ⟨b, 23 + j, none⟩ (U v)).drew) := (hcf.of_nil.setCell (p := ⟨b, 23 + j, none⟩) (.inl (by simp)) _).drew
    generalize (w1.setCell ⟨b, 23 + j, none⟩ (U v)).drew = W2 at *
    go_wp2
    refine bodyPost_ret (v := .agg (tcells (setT t j v))) (results_cell1 Tryz.results61 _ _ _ rfl (run_loadVar_row _ _ 26 26 (tcells (setT t j v)) (0, 0) _ ?_ Tryz.underlying26 rfl (by rw [tcells_size]; kernel_rfl))) rfl ⟨rfl, ?_⟩
    · simp only [heap_onObj, if_true, hA2, Option.map_some, laidAt_t]
    · exact hC2.onObj (.inr (Nat.le_refl _)) _
theorem tup26 (r : Except Int Tab) : ∃ (y : Tab) (c : Int), tupOr (fun v => Value.agg (tcells v)) (.agg (tcells zeroT)) r = .tuple #[.agg (tcells y), I c] := by
  cases r with
  | error c => exact ⟨zeroT, c, rfl⟩
  | ok y => exact ⟨y, 0, rfl⟩
theorem results_c0t {P : Program} {fn : Func} {p q : Tmp} {T1 : TypeId} (h : fn.results = #[.cell p T1, .tmp q]) (tmps : Array Value) (a : Addr) (w : World) {x y : Value}
    (hp : tmps.getD p undef = .pointer (some a)) (hq : tmps.getD q undef = y) (h1 : (loadVar T1 a).run P w = .ok x w) :
    (results fn tmps).run P w = .ok (.tuple #[x, y]) w := by
  have hp' : tmps[p]?.getD undef = .pointer (some a) := by simpa using hp
  have hq' : tmps[q]?.getD undef = y := by simpa using hq
  simp [results, h, hp', hq', asAddr, h1]
set_option maxHeartbeats 1000000 in
set_option maxRecDepth 100000 in
theorem Set_any (t : Tab) (s k v : BitVec 64) (w : World) :
    Calls Tryz.prog 20 #[U s, .agg (tcells t), U k, U v] w fun e w' => e = .returned (tupOr (fun v => .agg (tcells v)) (.agg (tcells zeroT)) (ifMay t s (setE t s k v))) ∧ Ch [] w w' := by
  have T1 : ∀ (w : World) (cap : Array Value), _ → Calls Tryz.prog 38 #[U s, .agg (tcells t), .func (.func 61) #[] cap] w fun e w' => e = .returned (tupOr (fun v => .agg (tcells v)) (.agg (tcells zeroT)) (ifMay t s (setE t s k v))) ∧ Ch [] w w' := fun w cap hd => tries26_any t s 61 cap (setE t s k v) w enters_set1 hd
  have D1 := fun b p q w h0 h1 hb hp hq => set1_any t s k v b p q w h0 h1 hb hp hq
  have hm := fun h => may_ok (t := t) (s := s) h
  generalize ifMay t s (setE t s k v) = R at *
  generalize setE t s k v = r at *
  obtain ⟨y, c, htup⟩ := tup26 R
  rw [htup]
  obtain ⟨W0, hW0⟩ : ∃ W0, (((w.alloc (.cells (tcells t) 26)).alloc (.cells #[U k] 22)).alloc (.cells #[U v] 22)).alloc (.cells (tcells zeroT) 26) = W0 := ⟨_, rfl⟩
  have hC0 : Ch [] w W0 := by rw [← hW0]; exact ((((Ch.refl [] w).alloc _).alloc _).alloc _).alloc _
  have b0 : W0.heap[w.heap.size]? = some (.cells (tcells t) 26 (0, 0)) := by rw [← hW0]; simp [go_sem]
  have b1 : W0.heap[w.heap.size + 1]? = some (.cells #[U k] 22 (0, 0)) := by rw [← hW0]; simp [go_sem]
  have b2 : W0.heap[w.heap.size + 1 + 1]? = some (.cells #[U v] 22 (0, 0)) := by rw [← hW0]; simp [go_sem]
  have b3 : W0.heap[w.heap.size + 1 + 1 + 1]? = some (.cells (tcells zeroT) 26 (0, 0)) := by rw [← hW0]; simp [go_sem]
  go_enter Tryz.func20, Tryz.ntmps20
  go_wp2_with fail
  refine (T1 W0 #[.pointer (some ⟨w.heap.size + 1, 0, none⟩), .pointer (some ⟨w.heap.size + 1 + 1, 0, none⟩)] ?_).mono ?_
  · intro hmt b w1 hb hc hle
    obtain ⟨h0, h1⟩ := hm hmt
    exact D1 b (w.heap.size + 1) (w.heap.size + 1 + 1) w1 h0 h1 hb (hkeep hc b1) (hkeep hc b2)
  · rintro e w1 ⟨rfl, hc1⟩
    have d3 := hkeep hc1 b3
    clear T1 D1 hm b0 b1 b2 b3
    rw [htup]
    clear htup
    go_wp2
    refine bodyPost_ret (v := .tuple #[.agg (tcells y), I c]) (results_c0t Tryz.results20 _ _ _ rfl rfl (run_loadVar_row _ _ 26 26 (tcells y) (0, 0) _ ?_ Tryz.underlying26 rfl (by rw [tcells_size]; kernel_rfl))) rfl ⟨rfl, ?_⟩
    · simp only [heap_onObj, if_true, d3, Option.map_some, laidAt_t]
    · exact (hC0.trans hc1).onObj (.inr (by omega)) _
end Go.Proofs.Hc
