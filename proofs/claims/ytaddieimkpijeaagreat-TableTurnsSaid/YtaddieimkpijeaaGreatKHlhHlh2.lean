/- Law 17, TableHalves: the walk. -/
import Derived.Test.YtaddieimkpijeaaGreatKHwkHwl
import Derived.Test.YtaddieimkpijeaaGreatKHscHapHcl
import Derived.Test.YtaddieimkpijeaaGreatKHtmHye
set_option linter.unusedSimpArgs false
set_option linter.unusedVariables false
namespace Go.Proofs.Hc
open Go.RowKit
attribute [local go_sem] wrap_u64 wrap_u8 bits_xor64 bits_and64 bits_or64 bits_not64 bits_xor8 bits_and8 bits_or8 signed64 signed8 ofInt_N BitVec.ofInt_add BitVec.ofInt_mul ofInt_sub' ofInt8_N64 ofInt64_N8 wide8 eqN neN shr_pow shr1 shr7 shr56
attribute [local go_sem high] bits_com64 shl_wrap
attribute [local go_sem] cell_heap ice_heap cellAt_cells iceAt_cells setAt_cells rowAt_cells canLay_cells laidAt_cells size_onObj size_setCell rowRes_some layRes_true
attribute [local go_sem] load26 load73 load23 store26 build73
attribute [local go_sem ↓] lrow26 lrow73 lrow23 srow26 zero26 brow73 heap_alloc heap_drew heap_drewN heap_setCell heap_onObj
attribute [local go_sem] tcells_size hcells_size tcells_get hcells_get tcells_one hcells_one hcells_table tcells_table hcells_all hcells_ctrl tcells_ctrl
attribute [local go_sem] nn2 nm2 nn3 nm3 nn4 nm4 nn5 nm5 nn6 nm6 nn7 nm7 nn8 nm8
attribute [local go_sem] loadA loadT2 storeA storeT2 buildA_ts buildA_sm assert_errno make_func acells_size t2cells_size acells_get t2cells_get acells_one t2cells_one acells_table acells_all t2cells_all t2cells_l t2cells_r
attribute [local go_sem ↓] lrowA lrowT2 srowA srowT2 browA zeroA_run zeroT2_run
attribute [local go_sem] nn2 nm2 nn3 nm3 nn4 nm4 nn5 nm5 nn6 nm6 nn7 nm7 nn8 nm8
attribute [local go_sem] Oper.semAt_some make_func1 ofInt_pow8
attribute [local go_sem] box26 tcells_idx cell0 cell1 cell2 cell3 cell4 hcells_idx hcells_pop
attribute [local go_sem] cell5 cell6 t2cells_idx
attribute [local go_sem] loadP storeP allOne_pair
attribute [local go_sem ↓] lrowP srowP zeroP
attribute [local go_sem high] laidAt_t laidAt_a laidAt_t2 laidAt_p
theorem brow35 (ps : Array (Nat × Value)) : Instr.build 35 ps = buildRow 35 ps := rfl
theorem build_zero2 (w : World) : (buildRow 35 #[]).run Tryz.prog w = .ok (.agg (t2cells zeroT2)) w := by kernel_rfl
theorem eql_zero2 (w : World) : (binOp .eql 35 (.agg (t2cells zeroT2)) (.agg (t2cells zeroT2))).run Tryz.prog w = .ok (.bool true) w := by kernel_rfl
theorem guard35 (x y : Operand) (xs ys : Array Value) (w : World) : (eqGuard .eql 35 x y (.agg xs) (.agg ys)).run Tryz.prog w = .ok () w := run_eqGuard_agg w .eql 35 x y xs ys (by kernel_rfl)
attribute [local go_sem high] eql_zero2 guard35
attribute [local go_sem] build_zero2
attribute [local go_sem ↓] brow35
theorem index35_0 (a : T2) (w : World) : (Instr.index 35 (.agg (t2cells a)) (.int .i64 0)).run Tryz.prog w = .ok (.agg (tcells a.l)) w := by kernel_rfl
theorem index35_1 (a : T2) (w : World) : (Instr.index 35 (.agg (t2cells a)) (.int .i64 1)).run Tryz.prog w = .ok (.agg (tcells a.r)) w := by kernel_rfl
attribute [local go_sem high] index35_0 index35_1
set_option maxHeartbeats 1000000 in
set_option maxRecDepth 100000 in
theorem halvesLaw_bad (t : Tab) (s : BitVec 64) (c : Int) (w : World) (hc : c = 270 ∨ c = 342 ∧ t.depth = 5) (hH : ifMay t s (halvesE t (halfX t s)) = .error c) :
    Calls Tryz.prog 6 #[U s, .agg (tcells t)] w fun e w' => e = .returned (.bool true) ∧ Ch [] w w' := by
  have H1 := fun w => Halves_is t s w
  rw [hH] at H1
  simp only [tupOr] at H1
  clear hH
  rcases hc with rfl | ⟨rfl, hd⟩
  all_goals
    go_enter Tryz.func6, Tryz.ntmps6
    go_wp2_with fail
    refine (wakes_any _).mono ?_
    rintro e w1 ⟨rfl, hc1⟩
    have b1 := hkeep hc1 (show (w.alloc (.cells (tcells t) 26)).heap[w.heap.size]? = some (.cells (tcells t) 26 (0, 0)) by simp [go_sem])
    have C1 : Ch [] w w1 := ((Ch.refl [] w).alloc _).trans hc1
    clear hc1
    go_wp2_with fail
    refine (H1 _).mono ?_
    rintro e w2 ⟨rfl, hc2⟩
    have b2 := hkeep hc2 b1
    have C2 := C1.trans hc2
    have hn2 : ¬ w.heap.size = w2.heap.size := by have := (Array.getElem?_eq_some_iff.1 b2).1; omega
    clear b1 C1 hc2 H1
    go_wp2
    go_ret
    exact ⟨rfl, (C2.alloc _).onObj (.inr C2.size) _⟩
theorem new_block (W : World) (a b : Tab) : (World.onObj (W.alloc (.cells (tcells a) 26)) W.heap.size (laidAt 0 (tcells b))).heap[W.heap.size]? = some (.cells (tcells b) 26 (0, 0)) := by
  rw [heap_onObj, if_pos rfl, heap_alloc, if_pos rfl, Option.map_some, laidAt_t]
theorem new_ch (W : World) (a b : Tab) : Ch [] W (World.onObj (W.alloc (.cells (tcells a) 26)) W.heap.size (laidAt 0 (tcells b))) := ((Ch.refl [] W).alloc _).onObj (.inr (Nat.le_refl _)) _
theorem new_block2 (W : World) (a b : T2) : (World.onObj (W.alloc (.cells (t2cells a) 35)) W.heap.size (laidAt 0 (t2cells b))).heap[W.heap.size]? = some (.cells (t2cells b) 35 (0, 0)) := by
  rw [heap_onObj, if_pos rfl, heap_alloc, if_pos rfl, Option.map_some, laidAt_t2]
theorem new_ch2 (W : World) (a b : T2) : Ch [] W (World.onObj (W.alloc (.cells (t2cells a) 35)) W.heap.size (laidAt 0 (t2cells b))) := ((Ch.refl [] W).alloc _).onObj (.inr (Nat.le_refl _)) _
set_option maxHeartbeats 4000000 in
set_option maxRecDepth 100000 in
theorem halvesLaw_ok (t : Tab) (s : BitVec 64) (X0 X1 : Tab) (P0 P1 PT : List (BitVec 64 × BitVec 64)) (w : World)
    (hH : ∀ w, Calls Tryz.prog 12 #[U s, .agg (tcells t)] w fun e w' => e = .returned (.tuple #[.agg (t2cells ⟨X0, X1⟩), I 0]) ∧ Ch [] w w')
    (hK0 : ∀ w, Calls Tryz.prog 26 #[U s, .agg (tcells X0)] w fun e w' => e = .returned (I 0) ∧ Ch [] w w')
    (hK1 : ∀ w, Calls Tryz.prog 26 #[U s, .agg (tcells X1)] w fun e w' => e = .returned (I 0) ∧ Ch [] w w')
    (hP0 : ∀ w, Calls Tryz.prog 29 #[U s, .agg (tcells X0)] w (PairsPost w P0))
    (hP1 : ∀ w, Calls Tryz.prog 29 #[U s, .agg (tcells X1)] w (PairsPost w P1))
    (hPT : ∀ w, Calls Tryz.prog 29 #[U s, .agg (tcells t)] w (PairsPost w PT))
    (hd0 : 0 ≤ t.depth) (hd5 : t.depth < 5) (hdX0 : X0.depth = t.depth + 1) (hdX1 : X1.depth = t.depth + 1) (hpX0 : X0.pre = 2#64 * t.pre) (hpX1 : X1.pre = 2#64 * t.pre + 1#64) (hcX0 : X0.count = 0#64) (hcX1 : X1.count = 0#64)
    (hlen : P0.length + P1.length = PT.length) (hPT14 : PT.length ≤ 14) (hsub : ∀ p ∈ P0 ++ P1, p ∈ PT) (hlive : X0.live + X1.live = t.live) (hl0 : 0 ≤ X0.live ∧ X0.live ≤ 14) (hl1 : 0 ≤ X1.live ∧ X1.live ≤ 14) :
    Calls Tryz.prog 6 #[U s, .agg (tcells t)] w fun e w' => e = .returned (.bool true) ∧ Ch [] w w' := by
  have HLEN := Lib.hid hlen
  have HSUB := Lib.hid hsub
  obtain ⟨l00, l01⟩ := hl0
  obtain ⟨l10, l11⟩ := hl1
  clear hlen hsub
  go_enter Tryz.func6, Tryz.ntmps6
  go_wp2_with fail
  refine (wakes_any _).mono ?_
  rintro e w1 ⟨rfl, hc1⟩
  have b1 := hkeep hc1 (show (w.alloc (.cells (tcells t) 26)).heap[w.heap.size]? = some (.cells (tcells t) 26 (0, 0)) by simp [go_sem])
  have C1 : Ch [] w w1 := ((Ch.refl [] w).alloc _).trans hc1
  obtain ⟨T0, hT0⟩ : ∃ T0, w.heap.size = T0 := ⟨_, rfl⟩
  rw [hT0] at b1 ⊢
  clear hc1 hT0
  go_wp2_with fail
  refine (hH _).mono ?_
  rintro e w2 ⟨rfl, hc2⟩
  have b2 := hkeep hc2 b1
  have C2 := C1.trans hc2
  clear b1 C1 hc2 hH
  go_wp2_with fail
  have b3 := hkeep (new_ch2 w2 zeroT2 ⟨X0, X1⟩) b2
  have h3 := new_block2 w2 zeroT2 ⟨X0, X1⟩
  have C3 := C2.trans (new_ch2 w2 zeroT2 ⟨X0, X1⟩)
  generalize World.onObj (w2.alloc (.cells (t2cells zeroT2) 35)) w2.heap.size (laidAt 0 (t2cells ⟨X0, X1⟩)) = W3 at *
  generalize w2.heap.size = H0 at *
  clear b2 C2
  refine wp_loop_rounds 3 ?_
  rw [rounds_succ]
  go_wp2_with fail
  have b4 := hkeep (new_ch W3 zeroT X0) b3
  have h4 := hkeep (new_ch W3 zeroT X0) h3
  have x4 := new_block W3 zeroT X0
  have C4 := C3.trans (new_ch W3 zeroT X0)
  have z4 := (new_ch W3 zeroT X0).size
  generalize World.onObj (W3.alloc (.cells (tcells zeroT) 26)) W3.heap.size (laidAt 0 (tcells X0)) = W4 at *
  have HZ4 := Lib.hid z4
  obtain ⟨S0, hS0⟩ : ∃ S, W3.heap.size = S := ⟨_, rfl⟩
  rw [hS0] at x4 HZ4 ⊢
  clear b3 h3 C3 z4
  refine (hK0 _).mono ?_
  rintro e w5 ⟨rfl, hc5⟩
  have b5 := hkeep hc5 b4
  have h5 := hkeep hc5 h4
  have x5 := hkeep hc5 x4
  have C5 := C4.trans hc5
  have HZ5 := Lib.hid (Nat.le_trans HZ4.out hc5.size)
  clear b4 h4 x4 C4 hc5 hK0 HZ4
  go_wp2_with fail
  refine (hP0 _).mono ?_
  rintro e w6 ⟨a, c, rfl, hown, hc6⟩
  have b6 := hkeep hc6 b5
  have h6 := hkeep hc6 h5
  have C6 := C5.trans hc6
  clear b5 h5 x5 C5 hP0 HZ5 
  clear hS0
  obtain ⟨v7, w7, hrun7, own7, gr7⟩ := append_pairs w6 27 w6.heap.size w5.heap.size (.slice none 0 0) 0 [] (World.ownsRow_nil _ _ _ _) a P0.length c (pcells P0) hown (pcells_one P0) (by have := HLEN.out; omega) (Nat.le_refl _)
  rw [Nat.zero_add, List.nil_append] at own7
  have hc7 : Ch [] w6 w7 := Ch.of_grown gr7 (fun k hk => by cases hk)
  have b3 := hkeep hc7 b6
  have h3 := hkeep hc7 h6
  have C3 := C6.trans hc7
  have hT0B := (Array.getElem?_eq_some_iff.1 b6).1
  have hH0B := (Array.getElem?_eq_some_iff.1 h6).1
  have hB7 := hc7.size
  have hC6z := C6.size
  obtain ⟨B, hBe⟩ : ∃ B, w6.heap.size = B := ⟨_, rfl⟩
  rw [hBe] at own7 hT0B hH0B hB7 hC6z
  clear hBe gr7 hc7 b6 h6 C6 hown
  go_wp2_with (at_builtin; refine Lib.wpList_append_run _ rfl _ _ 27 27 rfl _ _ rfl rfl _ _ hrun7 ?_)
  clear hrun7
  rw [rounds_succ]
  go_wp2_with fail
  have b4 := hkeep (new_ch w7 zeroT X1) b3
  have h4 := hkeep (new_ch w7 zeroT X1) h3
  have x4 := new_block w7 zeroT X1
  have C4 := C3.trans (new_ch w7 zeroT X1)
  have o4 := own_ch own7 (new_ch w7 zeroT X1) (by simp)
  have z4 := (new_ch w7 zeroT X1).size
  generalize World.onObj (w7.alloc (.cells (tcells zeroT) 26)) w7.heap.size (laidAt 0 (tcells X1)) = W4 at *
  have HZ4 := Lib.hid z4
  obtain ⟨S1, hS1⟩ : ∃ S, w7.heap.size = S := ⟨_, rfl⟩
  rw [hS1] at x4 HZ4 ⊢
  clear b3 h3 C3 z4 own7
  refine (hK1 _).mono ?_
  rintro e w5 ⟨rfl, hc5⟩
  have b5 := hkeep hc5 b4
  have h5 := hkeep hc5 h4
  have x5 := hkeep hc5 x4
  have C5 := C4.trans hc5
  have o5 := own_ch o4 hc5 (by simp)
  have HZ5 := Lib.hid (Nat.le_trans HZ4.out hc5.size)
  clear b4 h4 x4 C4 hc5 hK1 HZ4 o4
  go_wp2_with fail
  refine (hP1 _).mono ?_
  rintro e w6 ⟨a, c, rfl, hown, hc6⟩
  have b6 := hkeep hc6 b5
  have h6 := hkeep hc6 h5
  have C6 := C5.trans hc6
  have o6 := own_ch o5 hc6 (by simp)
  have hB6 : B ≤ w6.heap.size := Nat.le_trans hB7 (Nat.le_trans (Nat.le_of_eq hS1) (Nat.le_trans HZ5.out hc6.size))
  clear b5 h5 x5 C5 hP1 HZ5  o5
  clear hS1
  obtain ⟨v8, w8, hrun8, own8, gr8⟩ := append_pairs w6 27 B w5.heap.size v7 P0.length (pcells P0) o6 a P1.length c (pcells P1) hown (pcells_one P1) (by have := HLEN.out; omega) hB6
  rw [← pcells_append, HLEN.out] at own8
  have hob := own_block o6
  have hc8 : Ch (v7.ownBlock.toList) w6 w8 := Ch.of_grown (S := v7.ownBlock.toList) gr8 (fun k hk => by simp [hk])
  have hSS : ∀ s ∈ v7.ownBlock.toList, B ≤ s := fun s hs => hob s (by simpa using hs)
  have b8 := hkeepS hc8 (fun hs => by have := hSS _ hs; omega) b6
  have h8 := hkeepS hc8 (fun hs => by have := hSS _ hs; omega) h6
  have C8 : Ch [] w w8 := C6.trans2 hc8 (fun t ht => .inr (Nat.le_trans hC6z (hSS t ht)))
  clear gr8 hc8 b6 h6 C6 hown hob hSS o6
  go_wp2_with (at_builtin; refine Lib.wpList_append_run _ rfl _ _ 27 27 rfl _ _ rfl rfl _ _ hrun8 ?_)
  clear hrun8
  obtain ⟨a8, c8, rfl⟩ := own_form own8
  rw [rounds_succ]
  go_wp2_with fail
  refine (hPT _).mono ?_
  rintro e w9 ⟨a9, c9, rfl, own9, hc9⟩
  have b9 := hkeep hc9 b8
  have h9 := hkeep hc9 h8
  have C9 := C8.trans hc9
  have o9 := own_ch own8 hc9 (by simp)
  clear b8 h8 C8 own8 hPT
  obtain ⟨cur8, p1, p2, p3⟩ := pairs_at (show PT.length = (P0 ++ P1).length by rw [List.length_append]; exact HLEN.out.symm) o9
  obtain ⟨cur9, q1, q2, q3⟩ := pairs_at rfl own9
  clear o9 own9 hc9
  have K1 : ∀ (q : BitVec 64 × BitVec 64) (W : World), Ch [] w9 W → q ∈ PT → Calls Tryz.prog 35 #[.slice a9 PT.length c9, .agg #[U q.1, U q.2]] W fun e w' => e = .returned (.bool true) ∧ Ch [] W w' := by
    intro q W h hq
    have := contains_any PT q a9 c9 cur9 W (by omega) q1 q2 (fun r hr => hkeep h (q3 r hr).2)
    rw [decide_eq_true hq] at this
    exact this
  have HP := Lib.hid p1
  have HA := Lib.hid p2
  have HR := Lib.hid (fun r hr => (p3 r hr).2)
  have HALL : Hid ((P0 ++ P1).length = PT.length) := Lib.hid (by rw [List.length_append]; exact HLEN.out)
  clear p1 p2 p3 q1 q2 q3 HLEN hT0B hH0B hB7 hC6z hB6
  generalize hall : P0 ++ P1 = PA at *
  clear hall
  go_wp2
  go_loopw [83] (fun i wr => ∃ j : Nat, i = .int .i64 j ∧ j ≤ PT.length ∧ Ch [] w9 wr) (fun i _ => PT.length - (intOf i).toNat)
  case atStart => exact ⟨0, rfl, Nat.zero_le _, Ch.refl _ _⟩
  case round =>
    obtain ⟨j, hj, hjl, hcr⟩ := hrel
    subst hj
    have hC := C9.trans hcr
    rcases Nat.lt_or_ge j PT.length with hlt | hge
    · obtain ⟨r, hra⟩ := HA.out (by rw [HALL.out]; omega)
      obtain ⟨q, hqm, -⟩ := drop_one (show j < PA.length by rw [HALL.out]; exact hlt)
      have hrow' : rowAt (j * 2) 2 (.cells cur8 31 (0, 0)) = some #[U q.1, U q.2] := by rw [Nat.mul_comm]; exact HP.out j q hqm
      subst hra
      have hrr : wr.heap[r]? = some (.cells cur8 31 (0, 0)) := hkeep hcr (HR.out r rfl)
      have hdec : decide (j < PT.length) = true := by simpa using hlt
      have hne2 : ¬ r = wr.heap.size := by have := (Array.getElem?_eq_some_iff.1 hrr).1; omega
      have hcn : Ch [] wr (World.onObj (wr.alloc (.cells #[U 0#64, U 0#64] 31)) wr.heap.size (laidAt 0 #[U q.1, U q.2])) := ((Ch.refl [] wr).alloc _).onObj (.inr (Nat.le_refl _)) _
      have K2 := K1 q _ (hcr.trans hcn) (HSUB.out q (List.mem_of_getElem? hqm))
      have HCN := Lib.hid hcn
      clear hqm hcn K1
      go_wp2_with (go_at_call 35; refine K2.mono ?_; rintro e wg ⟨rfl, hcg⟩)
      go_roundw
      case rel => exact ⟨j + 1, by go_num, hlt, (hcr.trans HCN.out).trans hcg⟩
      case measure => simp [intOf]; omega
    · have hdec : decide (j < PT.length) = false := by simpa using hge
      have i9 := hkeep hcr b9
      have k9 := hkeep hcr h9
      clear b9 h9 K1 hge HP HA HR
      go_wp2
      go_ret
      exact ⟨rfl, hC⟩
end Go.Proofs.Hc
/- Law 17, TableHalves: whatever the table. -/
namespace Go.Proofs.Hc
open Go.RowKit
theorem check_ok {t : Tab} {s : BitVec 64} (h : May t s) (w : World) : Calls Tryz.prog 26 #[U s, .agg (tcells t)] w fun e w' => e = .returned (I 0) ∧ Ch [] w w' := by
  have := check_any t s w
  rw [if_pos ((may_iff t s).2 h)] at this
  exact this
theorem halvesLaw (t : Tab) (s : BitVec 64) (w : World) : Calls Tryz.prog 6 #[U s, .agg (tcells t)] w fun e w' => e = .returned (.bool true) ∧ Ch [] w w' := by
  cases hm : mayT t s with
  | false => exact halvesLaw_bad t s 270 w (.inl rfl) (by rw [ifMay, hm, if_neg (by decide)])
  | true =>
    have m := (may_iff t s).1 hm
    obtain ⟨d0, d5, _⟩ := (flatT_iff t).1 m.flat
    by_cases hd : t.depth < 5
    · have L0 := halfX_laid m hd 0 (by omega)
      have L1 := halfX_laid m hd 1 (by omega)
      have e0 := L0.may.len
      have e1 := L1.may.len
      have hh := halves_len m hd
      have v0 : (halfX t s 0).live = ((halfL t s 0).length : Int) := by rw [L0.live]; show (0 : Int) + _ = _; omega
      have v1 : (halfX t s 1).live = ((halfL t s 1).length : Int) := by rw [L1.live]; show (0 : Int) + _ = _; omega
      have f0 := (flatT_iff _).1 L0.may.flat
      have f1 := (flatT_iff _).1 L1.may.flat
      refine halvesLaw_ok t s (halfX t s 0) (halfX t s 1) (pairsT (halfX t s 0)) (pairsT (halfX t s 1)) (pairsT t) w ?_ (check_ok L0.may) (check_ok L1.may) (fun w => Pairs_yes _ s w ((may_iff _ s).2 L0.may)) (fun w => Pairs_yes _ s w ((may_iff _ s).2 L1.may)) (fun w => Pairs_yes t s w hm)
        d0 hd L0.depth L1.depth (L0.pre.trans ?_) (L1.pre.trans ?_) L0.count L1.count (by omega) (by have := live_le m; omega) ?_ ?_ ⟨f0.2.2.2.2.2.1, f0.2.2.2.2.2.2⟩ ⟨f1.2.2.2.2.2.1, f1.2.2.2.2.2.2⟩
      · intro w
        have := Halves_is t s w
        rw [ifMay, if_pos hm, halvesE, if_pos (decide_eq_true hd)] at this
        exact this
      · show 2#64 * t.pre + BitVec.ofNat 64 0 = _; rw [BitVec.add_zero]
      · rfl
      · intro p hp
        rcases List.mem_append.1 hp with h | h
        · rcases (L0.mem p).1 h with h | h
          · exact (List.mem_filter.1 h).1
          · exact absurd h (bare_pairs _ _ _ p)
        · rcases (L1.mem p).1 h with h | h
          · exact (List.mem_filter.1 h).1
          · exact absurd h (bare_pairs _ _ _ p)
      · rw [v0, v1, ← m.len]; omega
    · exact halvesLaw_bad t s 342 w (.inr ⟨rfl, by omega⟩) (by rw [ifMay, if_pos hm, halvesE, if_neg (by rw [decide_eq_true_iff]; exact hd)])
end Go.Proofs.Hc
