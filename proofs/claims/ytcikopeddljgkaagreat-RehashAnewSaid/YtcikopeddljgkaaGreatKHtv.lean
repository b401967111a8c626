/- Package table: Set. -/
import Derived.Test.YtcikopeddljgkaaGreatKHcb
import Derived.Test.YtcikopeddljgkaaGreatKHdn
import Derived.Test.YtcikopeddljgkaaGreatKHj
import Derived.Test.YtcikopeddljgkaaGreatKHma
import Derived.Test.YtcikopeddljgkaaGreatKHmet
import Derived.Test.YtcikopeddljgkaaGreatKHn
import Derived.Test.YtcikopeddljgkaaGreatKHr
import Derived.Test.YtcikopeddljgkaaGreatKHrw
import Derived.Test.YtcikopeddljgkaaGreatKHs
import Derived.Test.YtcikopeddljgkaaGreatKHta
import Derived.Test.YtcikopeddljgkaaGreatKHtd
import Derived.Test.YtcikopeddljgkaaGreatKRn
import Derived.Test.YtcikopeddljgkaaGreatKHtj
import Derived.Test.YtcikopeddljgkaaGreatKHtm
import Derived.Test.YtcikopeddljgkaaGreatKHye
import Derived.Test.YtcikopeddljgkaaGreatKHyf
import Derived.Below
import Derived.BigQuiet
import Derived.Deep.Draws
import Derived.Deep.Light
import Derived.Deep.QuietTactic
import Derived.Deep.RegionHeld
import Derived.Laws.CopyRow
import Derived.Laws.Tables
import Derived.Lib.AppendZerosOnto
import Derived.Lib.Hide
import Derived.Lib.Tables
import Derived.Lib.Walk
import Derived.LoopIn
import Derived.LoopN
import Derived.LoopNIn
import Derived.Maps.AppendAt
import Derived.Maps.Views
import Derived.OwnWalkIn
import Derived.RangeFuncBox
import Derived.RangeFuncCalls
import Derived.RangeFuncRecord
import Derived.RangeFuncSeq
import Derived.Recover
import Derived.RegionTactic
import Derived.Shelf.Slices.Clone
import Derived.StillTail
import Derived.StillTailTactics
import Derived.TacticsInMore
import Derived.Test.YtcikopeddljgkaaGreatProg
import Derived.WalkKit
import Derived.WalkLawsBesides
import Derived.WalkMore
import Derived.WalkSpells
set_option linter.unusedSimpArgs false
set_option linter.unusedVariables false
namespace Go.Proofs.Hc
open Go.RowKit
attribute [local go_sem] wrap_u64 wrap_u8 bits_xor64 bits_and64 bits_or64 bits_not64 bits_xor8 bits_and8 bits_or8 signed64 signed8 ofInt_N BitVec.ofInt_add BitVec.ofInt_mul ofInt_sub' ofInt8_N64 ofInt64_N8 wide8 eqN neN shr_pow shr1 shr7 shr56
attribute [local go_sem high] bits_com64 shl_wrap
attribute [local go_sem] cell_heap ice_heap cellAt_cells iceAt_cells setAt_cells rowAt_cells canLay_cells laidAt_cells size_onObj size_setCell rowRes_some layRes_true
attribute [local go_sem] load26 load73 load23 store26 build73
attribute [local go_sem ↓] lrow26 lrow73 lrow23 srow26 zero26 brow73 heap_alloc heap_drew heap_drewN heap_setCell heap_onObj
attribute [local go_sem] tcells_size hcells_size tcells_get hcells_get tcells_one hcells_one hcells_table tcells_table hcells_all hcells_ctrl tcells_ctrl
attribute [local go_sem] nn2 nm2 nn3 nm3 nn4 nm4 nn5 nm5 nn6 nm6 nn7 nm7 nn8 nm8
attribute [local go_sem] loadA loadT2 storeA storeT2 buildA_ts buildA_sm assert_errno make_func acells_size t2cells_size acells_get t2cells_get acells_one t2cells_one acells_table acells_all t2cells_all t2cells_l t2cells_r
attribute [local go_sem ↓] lrowA lrowT2 srowA srowT2 browA zeroA_run zeroT2_run
attribute [local go_sem] nn2 nm2 nn3 nm3 nn4 nm4 nn5 nm5 nn6 nm6 nn7 nm7 nn8 nm8
attribute [local go_sem] Oper.semAt_some make_func1 ofInt_pow8
attribute [local go_sem] box26 tcells_idx cell0 cell1 cell2 cell3 cell4 hcells_idx hcells_pop
attribute [local go_sem] cell5 cell6
attribute [local go_sem high] laidAt_t
theorem scan_mem (f : Nat → Bool) : ∀ (l : List Nat) (n : Nat) (y : Nat × Nat), scan f n l = some y → y.1 ∈ l ∧ f y.1 = true
  | [], n, y, h => by cases h
  | x :: l, n, y, h => by
    rw [scan] at h
    by_cases hf : f x = true
    · rw [if_pos hf] at h
      cases h
      exact ⟨by simp, hf⟩
    · rw [if_neg hf] at h
      obtain ⟨h1, h2⟩ := scan_mem f l (n + 1) y h
      exact ⟨by simp [h1], h2⟩
theorem cand_lt {t : Tab} {s k : BitVec 64} {h2 : BitVec 8} {j : Nat} (h : j ∈ (rowT t s k).flatMap (candG t h2)) : j < 16 := by
  obtain ⟨g, hg, hj⟩ := List.mem_flatMap.1 h
  have := row_bound t s k g hg
  unfold candG at hj
  obtain ⟨x, hx, rfl⟩ := List.mem_map.1 hj
  have := ((mem_lanes _ _).1 hx).1
  omega
theorem foundT_lt {t : Tab} {s k : BitVec 64} {y : Nat × Nat} (h : foundT t s k = some y) : y.1 < 16 := cand_lt (scan_mem _ _ _ _ h).1
theorem foundE_lt {t : Tab} {s k : BitVec 64} {y : Nat × Nat} (h : foundE t s k = .ok y) : y.1 < 16 := by
  rw [foundE_eq] at h
  cases hf : foundT t s k with
  | none => rw [hf] at h; cases h
  | some z => rw [hf] at h; cases h; exact foundT_lt hf
/-- A table whose key has another value. -/
def setT (t : Tab) (j : Nat) (v : BitVec 64) : Tab := { t with v := fun i => if i = j then v else t.v i }
theorem tup26 (r : Except Int Tab) : ∃ (y : Tab) (c : Int), tupOr (fun v => Value.agg (tcells v)) (.agg (tcells zeroT)) r = .tuple #[.agg (tcells y), I c] := by
  cases r with
  | error c => exact ⟨zeroT, c, rfl⟩
  | ok y => exact ⟨y, 0, rfl⟩
theorem results_c0t {P : Program} {fn : Func} {p q : Tmp} {T1 : TypeId} (h : fn.results = #[.cell p T1, .tmp q]) (tmps : Array Value) (a : Addr) (w : World) {x y : Value}
    (hp : tmps.getD p undef = .pointer (some a)) (hq : tmps.getD q undef = y) (h1 : (loadVar T1 a).run P w = .ok x w) :
    (results fn tmps).run P w = .ok (.tuple #[x, y]) w := by
  have hp' : tmps[p]?.getD undef = .pointer (some a) := by simpa using hp
  have hq' : tmps[q]?.getD undef = y := by simpa using hq
  simp [results, h, hp', hq', asAddr, h1]
end Go.Proofs.Hc
/- Package table: Puts. -/
namespace Go.Proofs.Hc
open Go.RowKit
attribute [local go_sem] wrap_u64 wrap_u8 bits_xor64 bits_and64 bits_or64 bits_not64 bits_xor8 bits_and8 bits_or8 signed64 signed8 ofInt_N BitVec.ofInt_add BitVec.ofInt_mul ofInt_sub' ofInt8_N64 ofInt64_N8 wide8 eqN neN shr_pow shr1 shr7 shr56
attribute [local go_sem high] bits_com64 shl_wrap
attribute [local go_sem] cell_heap ice_heap cellAt_cells iceAt_cells setAt_cells rowAt_cells canLay_cells laidAt_cells size_onObj size_setCell rowRes_some layRes_true
attribute [local go_sem] load26 load73 load23 store26 build73
attribute [local go_sem ↓] lrow26 lrow73 lrow23 srow26 zero26 brow73 heap_alloc heap_drew heap_drewN heap_setCell heap_onObj
attribute [local go_sem] tcells_size hcells_size tcells_get hcells_get tcells_one hcells_one hcells_table tcells_table hcells_all hcells_ctrl tcells_ctrl
attribute [local go_sem] nn2 nm2 nn3 nm3 nn4 nm4 nn5 nm5 nn6 nm6 nn7 nm7 nn8 nm8
attribute [local go_sem] loadA loadT2 storeA storeT2 buildA_ts buildA_sm assert_errno make_func acells_size t2cells_size acells_get t2cells_get acells_one t2cells_one acells_table acells_all t2cells_all t2cells_l t2cells_r
attribute [local go_sem ↓] lrowA lrowT2 srowA srowT2 browA zeroA_run zeroT2_run
attribute [local go_sem] nn2 nm2 nn3 nm3 nn4 nm4 nn5 nm5 nn6 nm6 nn7 nm7 nn8 nm8
attribute [local go_sem] Oper.semAt_some make_func1 ofInt_pow8
attribute [local go_sem] box26 tcells_idx cell0 cell1 cell2 cell3 cell4 hcells_idx hcells_pop
attribute [local go_sem] cell5 cell6
attribute [local go_sem high] laidAt_t
theorem enters_puts1 (args : Array Value) (w : World) : (callFunc 85 args).run Tryz.prog w = .ok (.enter 85 args) w := by kernel_rfl
set_option maxHeartbeats 1000000 in
set_option maxRecDepth 100000 in
theorem puts1_any (t : Tab) (s : BitVec 64) (l : List (BitVec 64 × BitVec 64)) (a : Option Addr) (c : Nat) (cur : Array Value) (b p : Nat) (w : World) (hok : OkT t 0) (hn : l.length ≤ 900)
    (hb : w.heap[b]? = some (.cells (hcells t s) 141 (0, 0))) (hp : w.heap[p]? = some (.cells #[.slice a l.length c] 27 (0, 0)))
    (hpa : PairsAt cur l) (ha : 0 < l.length → ∃ r, a = some ⟨r, 0, none⟩) (hr : ∀ r, a = some ⟨r, 0, none⟩ → w.heap[r]? = some (.cells cur 31 (0, 0))) :
    Calls Tryz.prog 85 #[.pointer (some ⟨b, 0, none⟩), .pointer (some ⟨p, 0, none⟩)] w fun e w' => e = retOr (fun y => .agg (tcells y)) (laidT s t l) ∧ Ch [] w w' := by
  have hbl := (Array.getElem?_eq_some_iff.1 hb).1
  have hpl := (Array.getElem?_eq_some_iff.1 hp).1
  obtain ⟨W0, hW0⟩ : ∃ W0, w.alloc (.cells (tcells zeroT) 26) = W0 := ⟨_, rfl⟩
  have hC0 : Ch [] w W0 := by rw [← hW0]; exact (Ch.refl [] w).alloc _
  have b0 : W0.heap[w.heap.size]? = some (.cells (tcells zeroT) 26 (0, 0)) := by rw [← hW0]; simp [go_sem]
  have bb := hkeep hC0 hb
  have bp := hkeep hC0 hp
  have hgb : ∀ q : Gar W0, (q.1).heap[b]? = some (.cells (hcells t s) 141 (0, 0)) := fun q => hkeep q.2 bb
  have hgp : ∀ q : Gar W0, (q.1).heap[p]? = some (.cells #[.slice a l.length c] 27 (0, 0)) := fun q => hkeep q.2 bp
  have L1 : ∀ (W : World), Ch [] w W → W.heap[b]? = some (.cells (hcells t s) 141 (0, 0)) → Calls Tryz.prog 78 #[.pointer (some ⟨b, 0, none⟩), .agg (tcells t), .slice a l.length c] W fun e w' => e = retOr (fun x => .agg (tcells x)) (laidT s t l) ∧ Ch [] W w' :=
    fun W hc hb => laid_walk t t s l 0 a c cur b W hok (by omega) hb hpa ha (fun r hra => hkeep hc (hr r hra))
  generalize laidT s t l = r at *
  generalize l.length = n at *
  clear hr ha hpa hb hp hn hok hbl hpl bb bp
  go_enter Tryz.func85, Tryz.ntmps85
  go_wp2
  refine wp_region_gar_tail 6 (by kernel_rfl) (by kernel_rfl) ?_
  simp only [List.take_succ_cons, List.take_zero, List.drop_succ_cons, List.drop_zero]
  repeat (go_big_quiet_step (fail))
  refine wpQuiet_nil ?_
  rintro W6 ⟨g6, hw6⟩
  have hc6 : Ch [] W0 W6 := by rw [hw6]; exact g6.2
  have e0 := hkeep hc6 b0
  have eb : W6.heap[b]? = some (.cells (hcells t s) 141 (0, 0)) := by rw [hw6]; exact hgb g6
  clear hw6 g6 hgb hgp b0
  have hCw : Ch [] w W6 := hC0.trans hc6
  cases r with
  | error e =>
    go_wp2_with (go_at_call 78; refine (L1 _ hCw eb).mono ?_; rintro e w1 ⟨rfl, hc1⟩; simp only [retOr])
    exact ⟨rfl, rfl, hCw.trans hc1⟩
  | ok y =>
    go_wp2_with (go_at_call 78; refine (L1 _ hCw eb).mono ?_; rintro e w1 ⟨rfl, hc1⟩; simp only [retOr]; have f0 := hkeep hc1 e0)
    refine bodyPost_ret (v := .agg (tcells y)) (results_cell1 Tryz.results85 _ _ _ rfl (run_loadVar_row _ _ 26 26 (tcells y) (0, 0) _ ?_ Tryz.underlying26 rfl (by rw [tcells_size]; kernel_rfl))) rfl ⟨rfl, ?_⟩
    · simp only [heap_onObj, if_true, f0, Option.map_some, laidAt_t]
    · exact (hCw.trans hc1).onObj (.inr (Nat.le_refl _)) _
set_option maxHeartbeats 1000000 in
set_option maxRecDepth 100000 in
theorem Puts_any (t : Tab) (s : BitVec 64) (l : List (BitVec 64 × BitVec 64)) (a : Option Addr) (c : Nat) (cur : Array Value) (w : World) (hn : l.length ≤ 900)
    (hpa : PairsAt cur l) (ha : 0 < l.length → ∃ r, a = some ⟨r, 0, none⟩) (hr : ∀ r, a = some ⟨r, 0, none⟩ → w.heap[r]? = some (.cells cur 31 (0, 0))) :
    Calls Tryz.prog 17 #[U s, .agg (tcells t), .slice a l.length c] w fun e w' => e = .returned (tupOr (fun v => .agg (tcells v)) (.agg (tcells zeroT)) (ifMay t s (laidT s t l))) ∧ Ch [] w w' := by
  have T1 : ∀ (w : World) (cap : Array Value), _ → Calls Tryz.prog 76 #[U s, .agg (tcells t), .func (.func 85) #[] cap] w fun e w' => e = .returned (tupOr (fun v => .agg (tcells v)) (.agg (tcells zeroT)) (ifMay t s (laidT s t l))) ∧ Ch [] w w' := fun w cap hd => tries26_any t s 85 cap (laidT s t l) w enters_puts1 hd
  have D1 := fun b p w hok hb hp hr => puts1_any t s l a c cur b p w hok hn hb hp hpa ha hr
  have hm := fun h => may_okT (t := t) (s := s) h
  generalize ifMay t s (laidT s t l) = R at *
  generalize laidT s t l = r at *
  generalize l.length = n at *
  obtain ⟨y, e0, htup⟩ := tup26 R
  rw [htup]
  have HR := Lib.hid hr
  clear hr ha hpa hn
  obtain ⟨W0, hW0⟩ : ∃ W0, ((w.alloc (.cells (tcells t) 26)).alloc (.cells #[.slice a n c] 27)).alloc (.cells (tcells zeroT) 26) = W0 := ⟨_, rfl⟩
  have hC0 : Ch [] w W0 := by rw [← hW0]; exact (((Ch.refl [] w).alloc _).alloc _).alloc _
  have b0 : W0.heap[w.heap.size]? = some (.cells (tcells t) 26 (0, 0)) := by rw [← hW0]; simp [go_sem]
  have b1 : W0.heap[w.heap.size + 1]? = some (.cells #[.slice a n c] 27 (0, 0)) := by rw [← hW0]; simp [go_sem]
  have b2 : W0.heap[w.heap.size + 1 + 1]? = some (.cells (tcells zeroT) 26 (0, 0)) := by rw [← hW0]; simp [go_sem]
  go_enter Tryz.func17, Tryz.ntmps17
  go_wp2_with fail
  refine (T1 W0 #[.pointer (some ⟨w.heap.size + 1, 0, none⟩)] ?_).mono ?_
  · intro hmt b w1 hb hc hle
    refine (D1 b (w.heap.size + 1) w1 (hm hmt) hb (hkeep hc b1) (fun r hra => hkeep (hC0.trans hc) (HR.out r hra))).mono ?_
    rintro e w2 ⟨rfl, hc2⟩
    exact ⟨rfl, hc2.of_nil⟩
  · rintro e w1 ⟨rfl, hc1⟩
    have d2 := hkeep hc1 b2
    clear T1 D1 hm b0 b1 b2
    rw [htup]
    clear htup
    go_wp2
    refine bodyPost_ret (v := .tuple #[.agg (tcells y), I e0]) (results_c0t Tryz.results17 _ _ _ rfl rfl (run_loadVar_row _ _ 26 26 (tcells y) (0, 0) _ ?_ Tryz.underlying26 rfl (by rw [tcells_size]; kernel_rfl))) rfl ⟨rfl, ?_⟩
    · simp only [heap_onObj, if_true, d2, Option.map_some, laidAt_t]
    · exact (hC0.trans hc1).onObj (.inr (by omega)) _
end Go.Proofs.Hc
/- Package table: New, Anew. -/
namespace Go.Proofs.Hc
open Go.RowKit
attribute [local go_sem] wrap_u64 wrap_u8 bits_xor64 bits_and64 bits_or64 bits_not64 bits_xor8 bits_and8 bits_or8 signed64 signed8 ofInt_N BitVec.ofInt_add BitVec.ofInt_mul ofInt_sub' ofInt8_N64 ofInt64_N8 wide8 eqN neN shr_pow shr1 shr7 shr56
attribute [local go_sem high] bits_com64 shl_wrap
attribute [local go_sem] cell_heap ice_heap cellAt_cells iceAt_cells setAt_cells rowAt_cells canLay_cells laidAt_cells size_onObj size_setCell rowRes_some layRes_true
attribute [local go_sem] load26 load73 load23 store26 build73
attribute [local go_sem ↓] lrow26 lrow73 lrow23 srow26 zero26 brow73 heap_alloc heap_drew heap_drewN heap_setCell heap_onObj
attribute [local go_sem] tcells_size hcells_size tcells_get hcells_get tcells_one hcells_one hcells_table tcells_table hcells_all hcells_ctrl tcells_ctrl
attribute [local go_sem] nn2 nm2 nn3 nm3 nn4 nm4 nn5 nm5 nn6 nm6 nn7 nm7 nn8 nm8
attribute [local go_sem] loadA loadT2 storeA storeT2 buildA_ts buildA_sm assert_errno make_func acells_size t2cells_size acells_get t2cells_get acells_one t2cells_one acells_table acells_all t2cells_all t2cells_l t2cells_r
attribute [local go_sem ↓] lrowA lrowT2 srowA srowT2 browA zeroA_run zeroT2_run
attribute [local go_sem] nn2 nm2 nn3 nm3 nn4 nm4 nn5 nm5 nn6 nm6 nn7 nm7 nn8 nm8
attribute [local go_sem] Oper.semAt_some make_func1 ofInt_pow8
attribute [local go_sem] box26 tcells_idx cell0 cell1 cell2 cell3 cell4 hcells_idx hcells_pop
attribute [local go_sem] cell5 cell6
attribute [local go_sem high] laidAt_t
/-- May a new table be such? -/
def newE (d : Int) (p : BitVec 64) : Except Int Tab := if decide (d < 0) || decide (5 < d) || (p >>> d.toNat != 0#64) then .error 2 else .ok (bareT 0#64 d p)
theorem shr_ge (d : Nat) (_hd : d ≤ 5) (p : BitVec 64) : (p >>> d != 0#64) = decide (2 ^ d ≤ N p) := by
  rw [Bool.eq_iff_iff, bne_iff_ne, decide_eq_true_iff, ne_eq]
  have h2 : ((2 : Int) ^ d) = ((2 ^ d : Nat) : Int) := by simp
  have hpos : 0 < 2 ^ d := Nat.two_pow_pos d
  rw [h2]
  unfold N
  rw [Int.ofNat_le]
  have e : (p >>> d).toNat = p.toNat / 2 ^ d := by rw [BitVec.toNat_ushiftRight, Nat.shiftRight_eq_div_pow]
  constructor
  · intro h
    rcases Nat.lt_or_ge p.toNat (2 ^ d) with h1 | h1
    · exact absurd (BitVec.eq_of_toNat_eq (by rw [e, Nat.div_eq_of_lt h1]; rfl)) h
    · exact h1
  · intro h hz
    have : (p >>> d).toNat = 0 := by rw [hz]; rfl
    rw [e] at this
    have := (Nat.div_eq_zero_iff).1 this
    omega
theorem build_zero (w : World) : (buildRow 26 #[]).run Tryz.prog w = .ok (.agg (tcells zeroT)) w := by kernel_rfl
attribute [local go_sem] build_zero
attribute [local go_sem ↓] brow26
set_option maxHeartbeats 1000000 in
set_option maxRecDepth 100000 in
theorem new_bad (d : Int) (p : BitVec 64) (w : World) (h : d < 0 ∨ 5 < d) :
    Calls Tryz.prog 75 #[I d, U p] w fun e w' => e = .returned (.tuple #[.agg (tcells zeroT), I 2]) ∧ Ch [] w w' := by
  rcases h with h | h
  all_goals
    first | (have h' : ¬ d < 0 := by omega) | skip
    go_enter Tryz.func75, Tryz.ntmps75
    go_wp2
    refine bodyPost_ret (v := .tuple #[.agg (tcells zeroT), I 2]) (results_c0t Tryz.results75 _ _ _ rfl rfl (run_loadVar_row _ _ 26 26 (tcells zeroT) (0, 0) _ ?_ Tryz.underlying26 rfl (by rw [tcells_size]; kernel_rfl))) rfl ⟨rfl, ?_⟩
    · simp [go_sem]
    · exact ((Ch.refl [] w).alloc _).onObj (.inr (Nat.le_refl _)) _
set_option maxHeartbeats 2000000 in
set_option maxRecDepth 100000 in
theorem new_at (d : Int) (p : BitVec 64) (w : World) (h : d = 0 ∨ d = 1 ∨ d = 2 ∨ d = 3 ∨ d = 4 ∨ d = 5) :
    Calls Tryz.prog 75 #[I d, U p] w fun e w' => e = .returned (tupOr (fun v => .agg (tcells v)) (.agg (tcells zeroT)) (if decide (2 ^ d.toNat ≤ N p) then .error 2 else .ok (bareT 0#64 d p))) ∧ Ch [] w w' := by
  have B1 := fun w => bare_any 0#64 d p w
  generalize bareT 0#64 d p = bt at *
  obtain ⟨W0, hW0⟩ : ∃ W0, w.alloc (.cells (tcells zeroT) 26) = W0 := ⟨_, rfl⟩
  have hC0 : Ch [] w W0 := by rw [← hW0]; exact (Ch.refl [] w).alloc _
  have b0 : W0.heap[w.heap.size]? = some (.cells (tcells zeroT) 26 (0, 0)) := by rw [← hW0]; simp [go_sem]
  obtain ⟨R, hR⟩ : ∃ R : Except Int Tab, (if decide (2 ^ d.toNat ≤ N p) = true then Except.error 2 else Except.ok bt) = R := ⟨_, rfl⟩
  rw [hR]
  have HR := Lib.hid hR
  clear hR
  rcases h with rfl | rfl | rfl | rfl | rfl | rfl
  all_goals
    go_enter Tryz.func75, Tryz.ntmps75
    go_wp2_with fail
    · have e8 := ‹N _ ≤ N p›
      have e : R = .error 2 := by rw [← HR.out]; exact if_pos (decide_eq_true (Int.le_trans (by decide) e8))
      rw [e]
      refine bodyPost_ret (v := .tuple #[.agg (tcells zeroT), I 2]) (results_c0t Tryz.results75 _ _ _ rfl rfl (run_loadVar_row _ _ 26 26 (tcells zeroT) (0, 0) _ ?_ Tryz.underlying26 rfl (by rw [tcells_size]; kernel_rfl))) rfl ⟨rfl, ?_⟩
      · simp only [heap_onObj, if_true, b0, Option.map_some, laidAt_t]
      · exact hC0.onObj (.inr (Nat.le_refl _)) _
    · refine (B1 _).mono ?_
      rintro e w1 ⟨rfl, hc1⟩
      have b1 := hkeep hc1 b0
      have e8 := ‹N p < N _›
      have e : R = .ok bt := by rw [← HR.out]; exact if_neg (by rw [decide_eq_true_iff]; exact Int.not_le.2 (Int.lt_of_lt_of_le e8 (by decide)))
      have HE := Lib.hid e
      clear e
      go_wp2
      refine bodyPost_ret (v := .tuple #[.agg (tcells bt), I 0]) (results_c0t Tryz.results75 _ _ _ rfl rfl (run_loadVar_row _ _ 26 26 (tcells bt) (0, 0) _ ?_ Tryz.underlying26 rfl (by rw [tcells_size]; kernel_rfl))) rfl ⟨by rw [HE.out]; rfl, ?_⟩
      · simp only [heap_onObj, if_true, b1, Option.map_some, laidAt_t]
      · exact (hC0.trans hc1).onObj (.inr (Nat.le_refl _)) _
theorem New_any (d : Int) (p : BitVec 64) (w : World) :
    Calls Tryz.prog 75 #[I d, U p] w fun e w' => e = .returned (tupOr (fun v => .agg (tcells v)) (.agg (tcells zeroT)) (newE d p)) ∧ Ch [] w w' := by
  by_cases h : d < 0 ∨ 5 < d
  · refine (new_bad d p w h).mono ?_
    rintro e w' ⟨rfl, hc⟩
    refine ⟨?_, hc⟩
    rw [newE, if_pos]
    · rfl
    · rcases h with h | h
      · rw [decide_eq_true h]; rfl
      · rw [decide_eq_true h, Bool.or_true]; rfl
  · refine (new_at d p w (by omega)).mono ?_
    rintro e w' ⟨rfl, hc⟩
    refine ⟨?_, hc⟩
    rw [newE, shr_ge d.toNat (by omega) p, decide_eq_false (show ¬ d < 0 by omega), decide_eq_false (show ¬ 5 < d by omega), Bool.false_or, Bool.false_or]
end Go.Proofs.Hc
