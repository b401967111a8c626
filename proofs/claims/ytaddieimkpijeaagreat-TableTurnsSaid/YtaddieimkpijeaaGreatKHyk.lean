/- Law 17, TableTurns: the walk. -/
import Derived.Test.YtaddieimkpijeaaGreatKHlhHlh2
import Derived.Test.YtaddieimkpijeaaGreatKHopHop2
import Derived.Test.YtaddieimkpijeaaGreatKHxvHxw
import Derived.Test.YtaddieimkpijeaaGreatKHtmHye
set_option linter.unusedSimpArgs false
set_option linter.unusedVariables false
namespace Go.Proofs.Hc
open Go.RowKit
attribute [local go_sem] wrap_u64 wrap_u8 bits_xor64 bits_and64 bits_or64 bits_not64 bits_xor8 bits_and8 bits_or8 signed64 signed8 ofInt_N BitVec.ofInt_add BitVec.ofInt_mul ofInt_sub' ofInt8_N64 ofInt64_N8 wide8 eqN neN shr_pow shr1 shr7 shr56
attribute [local go_sem high] bits_com64 shl_wrap
attribute [local go_sem] cell_heap ice_heap cellAt_cells iceAt_cells setAt_cells rowAt_cells canLay_cells laidAt_cells size_onObj size_setCell rowRes_some layRes_true
attribute [local go_sem] load26 load73 load23 store26 build73
attribute [local go_sem ↓] lrow26 lrow73 lrow23 srow26 zero26 brow73 heap_alloc heap_drew heap_drewN heap_setCell heap_onObj
attribute [local go_sem] tcells_size hcells_size tcells_get hcells_get tcells_one hcells_one hcells_table tcells_table hcells_all hcells_ctrl tcells_ctrl
attribute [local go_sem] nn2 nm2 nn3 nm3 nn4 nm4 nn5 nm5 nn6 nm6 nn7 nm7 nn8 nm8
attribute [local go_sem] loadA loadT2 storeA storeT2 buildA_ts buildA_sm assert_errno make_func acells_size t2cells_size acells_get t2cells_get acells_one t2cells_one acells_table acells_all t2cells_all t2cells_l t2cells_r
attribute [local go_sem ↓] lrowA lrowT2 srowA srowT2 browA zeroA_run zeroT2_run
attribute [local go_sem] nn2 nm2 nn3 nm3 nn4 nm4 nn5 nm5 nn6 nm6 nn7 nm7 nn8 nm8
attribute [local go_sem] Oper.semAt_some make_func1 ofInt_pow8
attribute [local go_sem] box26 tcells_idx cell0 cell1 cell2 cell3 cell4 hcells_idx hcells_pop
attribute [local go_sem] cell5 cell6 t2cells_idx
attribute [local go_sem] loadP storeP allOne_pair
attribute [local go_sem ↓] lrowP srowP zeroP
attribute [local go_sem high] laidAt_t laidAt_a laidAt_t2 laidAt_p
attribute [local go_sem high] eql_tab neq_tab guard26
attribute [local irreducible] tcells t2cells
theorem wr_block {W : World} {g : Nat} {a b : Tab} (h : W.heap[g]? = some (.cells (tcells a) 26 (0, 0))) : (World.onObj W g (laidAt 0 (tcells b))).heap[g]? = some (.cells (tcells b) 26 (0, 0)) := by
  rw [heap_onObj, if_pos rfl, h, Option.map_some, laidAt_t]
theorem wr_other {W : World} {g k : Nat} {f : Obj → Obj} {o : Obj} (h : W.heap[k]? = some o) (hne : ¬ k = g) : (World.onObj W g f).heap[k]? = some o := by
  rw [heap_onObj, if_neg hne]; exact h
theorem blk_lt {W : World} {k : Nat} {o : Obj} (h : W.heap[k]? = some o) : k < W.heap.size := (Array.getElem?_eq_some_iff.1 h).1
/-- What putting, setting and dropping a pair answer, the program's and the document's. -/
structure Turn (a : Tab) (s : BitVec 64) (q : BitVec 64 × BitVec 64) (right : Bool) (pS pE : Int) (nA : Tab) (sA eA : Int) (nB : Tab) (eB : Int) (nC : Tab) (sC eC : Int) : Prop where
  R : ∀ w, Calls Tryz.prog 14 #[U s, .agg (tcells a)] w fun e w' => e = .returned (.bool right) ∧ Ch [] w w'
  P : ∀ w, Calls Tryz.prog 18 #[U s, .agg (tcells a), U q.1] w fun e w' => e = .returned (.tuple #[I pS, I pE]) ∧ Ch [] w w'
  A : ∀ w, Calls Tryz.prog 19 #[U s, .agg (tcells a), U q.1, U q.2] w fun e w' => e = .returned (.tuple #[.agg (tcells nA), I sA, I eA]) ∧ Ch [] w w'
  B : ∀ w, Calls Tryz.prog 20 #[U s, .agg (tcells a), U q.1, U q.2] w fun e w' => e = .returned (.tuple #[.agg (tcells nB), I eB]) ∧ Ch [] w w'
  C : ∀ w, Calls Tryz.prog 21 #[U s, .agg (tcells a), U q.1] w fun e w' => e = .returned (.tuple #[.agg (tcells nC), I sC, I eC]) ∧ Ch [] w w'
  P' : right = true → ∀ w, Calls Tryz.prog 22 #[U s, .agg (tcells a), U q.1] w fun e w' => e = .returned (.tuple #[I pS, I pE]) ∧ Ch [] w w'
  A' : right = true → ∀ w, Calls Tryz.prog 23 #[U s, .agg (tcells a), .agg #[U q.1, U q.2]] w fun e w' => e = .returned (.tuple #[.agg (tcells nA), I sA, I eA]) ∧ Ch [] w w'
  B' : right = true → ∀ w, Calls Tryz.prog 24 #[.agg (tcells a), .agg #[U q.1, U q.2]] w fun e w' => e = .returned (.tuple #[.agg (tcells nB), I eB]) ∧ Ch [] w w'
  C' : right = true → ∀ w, Calls Tryz.prog 25 #[.agg (tcells a), U q.1] w fun e w' => e = .returned (.tuple #[.agg (tcells nC), I sC, I eC]) ∧ Ch [] w w'
  mA : (eA == 0) = true → May nA s
  mB : (eB == 0) = true → May nB s
  mC : (eC == 0) = true → May nC s
theorem turn_ok {a : Tab} {s : BitVec 64} (m : May a s) (q : BitVec 64 × BitVec 64) : ∃ (pS pE : Int) (nA : Tab) (sA eA : Int) (nB : Tab) (eB : Int) (nC : Tab) (sC eC : Int), Turn a s q true pS pE nA sA eA nB eB nC sC eC := by
  have hm := (may_iff a s).2 m
  have hR : ∀ w, Calls Tryz.prog 14 #[U s, .agg (tcells a)] w fun e w' => e = .returned (.bool true) ∧ Ch [] w w' := by
    intro w; have := rRight_any a s w; rw [hm] at this; exact this
  have hP : ∀ w, Calls Tryz.prog 18 #[U s, .agg (tcells a), U q.1] w fun e w' => e = .returned (placeV (placeT a s q.1)) ∧ Ch [] w w' := by
    intro w; have := Place_any a s q.1 w; rw [ifMay, if_pos hm] at this; exact this
  have hA : ∀ w, Calls Tryz.prog 19 #[U s, .agg (tcells a), U q.1, U q.2] w fun e w' => e = .returned (putV (putA a s q.1 q.2)) ∧ Ch [] w w' := by
    intro w; have := Put_any a s q.1 q.2 w; rw [ifMay, if_pos hm] at this; exact this
  have hB : ∀ w, Calls Tryz.prog 20 #[U s, .agg (tcells a), U q.1, U q.2] w fun e w' => e = .returned (tupOr (fun v => .agg (tcells v)) (.agg (tcells zeroT)) (setE a s q.1 q.2)) ∧ Ch [] w w' := by
    intro w; have := Set_any a s q.1 q.2 w; rw [ifMay, if_pos hm] at this; exact this
  have hC : ∀ w, Calls Tryz.prog 21 #[U s, .agg (tcells a), U q.1] w fun e w' => e = .returned (putV (dropE a s q.1)) ∧ Ch [] w w' := by
    intro w; have := Drop_any a s q.1 w; rw [ifMay, if_pos hm] at this; exact this
  have hP' := fun w => rPlace_any a s q.1 m w
  have hA' := fun w => rPut17_any a s q.1 q.2 m w
  have hB' := fun w => rSet_any a s q.1 q.2 m w
  have hC' := fun w => rDrop_any a s q.1 m w
  have hp : ∃ (pS pE : Int) (nA : Tab) (sA eA : Int), placeV (placeT a s q.1) = .tuple #[I pS, I pE] ∧ putV (putA a s q.1 q.2) = .tuple #[.agg (tcells nA), I sA, I eA] ∧ ((eA == 0) = true → May nA s) := by
    cases h : placeT a s q.1 with
    | error c => exact ⟨0, c, zeroT, 0, c, rfl, by rw [putA, h]; rfl, fun h0 => by have := place_err_ne h; simp_all⟩
    | ok sl => exact ⟨sl, 0, fillT a s q.1 q.2 sl, sl, 0, rfl, by rw [putA, h]; rfl, fun _ => m.fill q.2 (place_spot h)⟩
  have hs : ∃ (nB : Tab) (eB : Int) (nC : Tab) (sC eC : Int), tupOr (fun v => Value.agg (tcells v)) (.agg (tcells zeroT)) (setE a s q.1 q.2) = .tuple #[.agg (tcells nB), I eB] ∧ putV (dropE a s q.1) = .tuple #[.agg (tcells nC), I sC, I eC] ∧ ((eB == 0) = true → May nB s) ∧ ((eC == 0) = true → May nC s) := by
    rcases slotR_cases m q.1 with ⟨_, h2, _⟩ | ⟨j, n, _, hj, hf, _, h2, _⟩
    · exact ⟨zeroT, 4, zeroT, 0, 4, by rw [setE, h2]; rfl, by rw [dropE, h2]; rfl, (fun h => by cases h), (fun h => by cases h)⟩
    · exact ⟨setT a j q.2, 0, dropT a j, j, 0, by rw [setE, h2]; rfl, by rw [dropE, h2]; rfl, fun _ => m.set j q.2, fun _ => m.drop hj hf⟩
  obtain ⟨pS, pE, nA, sA, eA, e1, e2, mA⟩ := hp
  obtain ⟨nB, eB, nC, sC, eC, e3, e4, mB, mC⟩ := hs
  rw [e1] at hP hP'
  rw [e2] at hA hA'
  rw [e3] at hB hB'
  rw [e4] at hC hC'
  exact ⟨pS, pE, nA, sA, eA, nB, eB, nC, sC, eC, hR, hP, hA, hB, hC, fun _ => hP', fun _ => hA', fun _ => hB', fun _ => hC', mA, mB, mC⟩
theorem turn_bad {a : Tab} {s : BitVec 64} (hm : mayT a s = false) (q : BitVec 64 × BitVec 64) : Turn a s q false 0 270 zeroT 0 270 zeroT 270 zeroT 0 270 := by
  refine ⟨?_, ?_, ?_, ?_, ?_, (fun h => by cases h), (fun h => by cases h), (fun h => by cases h), (fun h => by cases h), (fun h => by cases h), (fun h => by cases h), (fun h => by cases h)⟩
  · intro w; have := rRight_any a s w; rw [hm] at this; exact this
  · intro w; have := Place_any a s q.1 w; rw [ifMay, hm, if_neg (by decide)] at this; exact this
  · intro w; have := Put_any a s q.1 q.2 w; rw [ifMay, hm, if_neg (by decide)] at this; exact this
  · intro w; have := Set_any a s q.1 q.2 w; rw [ifMay, hm, if_neg (by decide)] at this; exact this
  · intro w; have := Drop_any a s q.1 w; rw [ifMay, hm, if_neg (by decide)] at this; exact this
set_option maxHeartbeats 8000000 in
set_option maxRecDepth 100000 in
theorem turns_ok (t : Tab) (s : BitVec 64) (la : Option Addr) (ll lc : Nat) (ps : Nat → BitVec 64 × BitVec 64) (w : World) (hM : May t s) (hll : ll ≤ 9223372036854775807) (hk : PairsIn w la ll ps) :
    Calls Tryz.prog 4 #[U s, .agg (tcells t), .slice la ll lc] w fun e w' => e = .returned (.bool true) ∧ Ch [] w w' := by
  have HK := Lib.hid hk
  have HM := Lib.hid hM
  clear hk hM
  go_enter Tryz.func4, Tryz.ntmps4
  go_wp2_with fail
  refine (wakes_any _).mono ?_
  rintro e w2 ⟨rfl, hc1⟩
  have b2 := hkeep hc1 (show (w.alloc (.cells (tcells t) 26)).heap[w.heap.size]? = some (.cells (tcells t) 26 (0, 0)) by simp [go_sem])
  have C2 : Ch [] w w2 := ((Ch.refl [] w).alloc _).trans hc1
  obtain ⟨T0, hT0⟩ : ∃ T0, w.heap.size = T0 := ⟨_, rfl⟩
  rw [hT0] at b2 ⊢
  have HT0 := Lib.hid hT0
  clear hc1 hT0
  go_wp2
  go_loopw [34] (fun i wr => ∃ (m : Nat) (a : Tab), i = .int .i64 m ∧ m ≤ ll ∧ m ≤ 16 ∧ Hid (May a s) ∧ wr.heap[T0]? = some (.cells (tcells a) 26 (0, 0)) ∧ Ch [T0] w2 wr) (fun i _ => ll - (intOf i).toNat)
  case atStart => exact ⟨0, t, rfl, by omega, by omega, HM, b2, Ch.refl _ _⟩
  case round =>
    obtain ⟨m, a, hm, hml, hm16, hg, ha, hcr⟩ := hrel
    subst hm
    have hCw : Ch [] w wr := C2.trans2 hcr (fun t ht => .inr (by simp at ht; have := HT0.out; omega))
    clear b2
    rcases Nat.lt_or_ge m ll with hlt | hge
    · obtain ⟨kb, ko, hka, hkb, hkc⟩ := HK.out m hlt
      subst hka
      have hkc' : (wr.heap[kb]?).bind (rowAt (ko + m * 2) 2) = some #[U (ps m).1, U (ps m).2] := by rw [hCw.block kb hkb (by simp)]; exact hkc
      have hkb' : ¬ kb = wr.heap.size := by have := hCw.size; omega
      have hdec : decide (m < ll) = true := by simpa using hlt
      have hne0 : ¬ T0 = wr.heap.size := by have := (Array.getElem?_eq_some_iff.1 ha).1; omega
      clear hkc hkb
      by_cases h16 : m = 16
      · subst h16
        go_wp2
        go_ret
        exact ⟨rfl, (hCw.alloc _).onObj (.inr hCw.size) _⟩
      · have h16' : ((m : Int) == 16) = false := by simp; omega
        obtain ⟨q, hq⟩ : ∃ q, ps m = q := ⟨_, rfl⟩
        rw [hq] at hkc'
        clear hq
        obtain ⟨pS, pE, nA, sA, eA, nB, eB, nC, sC, eC, tu⟩ := turn_ok hg.out q
        have TU := Lib.hid tu
        clear tu
        go_wp2_with fail
        have hR := TU.out.R
        have hP := TU.out.P
        have hA := TU.out.A
        have hB := TU.out.B
        have hC := TU.out.C
        have hP' := TU.out.P' rfl
        have hA' := TU.out.A' rfl
        have hB' := TU.out.B' rfl
        have hC' := TU.out.C' rfl
        have t1 := hkeep (pair_ch wr (U 0#64) (U 0#64) (U q.1) (U q.2)) ha
        have b1 := pair_block wr (U 0#64) (U 0#64) (U q.1) (U q.2)
        have C1 := pair_ch wr (U 0#64) (U 0#64) (U q.1) (U q.2)
        have xt := blk_lt ha
        have lwB8 := Nat.le_refl wr.heap.size
        generalize World.onObj (wr.alloc (.cells #[U 0#64, U 0#64] 31)) wr.heap.size (laidAt 0 #[U q.1, U q.2]) = w1 at *
        clear ha hkc' hne0 hkb'
        have HCR := Lib.hid hcr
        clear hcr
        obtain ⟨B8, hB8⟩ : ∃ B, wr.heap.size = B := ⟨_, rfl⟩
        rw [hB8] at b1 xt lwB8 ⊢
        have HB8 := Lib.hid hB8
        have lwB8 : wr.heap.size ≤ B8 := Nat.le_of_eq hB8
        clear hB8
        have ltT0B8 : T0 < B8 := xt
        clear xt
        refine (hR _).mono ?_
        rintro e w2 ⟨rfl, hc2⟩
        have t2 := hkeep (hc2) t1
        have b2 := hkeep (hc2) b1
        have C2 := C1.trans (hc2)
        clear t1 b1 C1 hc2 hR
        go_wp2_with fail
        refine (hP _).mono ?_
        rintro e w3 ⟨rfl, hc3⟩
        have t3 := hkeep (hc3) t2
        have b3 := hkeep (hc3) b2
        have C3 := C2.trans (hc3)
        clear t2 b2 C2 hc3 hP
        go_wp2_with fail
        refine (hA _).mono ?_
        rintro e w4 ⟨rfl, hc4⟩
        have t4 := hkeep (hc4) t3
        have b4 := hkeep (hc4) b3
        have C4 := C3.trans (hc4)
        clear t3 b3 C3 hc4 hA
        have nt4 : ¬ T0 = w4.heap.size := by have := blk_lt t4; omega
        have nb4 : ¬ B8 = w4.heap.size := by have := blk_lt b4; omega
        go_wp2_with fail
        clear nt4 nb4
        have t5 := hkeep (new_ch w4 zeroT nA) t4
        have b5 := hkeep (new_ch w4 zeroT nA) b4
        have C5 := C4.trans (new_ch w4 zeroT nA)
        have x5 := new_block w4 zeroT nA
        have xt := blk_lt t4
        have xb := blk_lt b4
        have lwBX := C4.size
        clear t4 b4 C4
        generalize World.onObj (w4.alloc (.cells (tcells zeroT) 26)) w4.heap.size (laidAt 0 (tcells nA)) = w5 at *
        generalize w4.heap.size = BX at *
        have ltT0BX : T0 < BX := xt
        clear xt
        have ltB8BX : B8 < BX := xb
        clear xb
        refine (hB _).mono ?_
        rintro e w6 ⟨rfl, hc6⟩
        have t6 := hkeep (hc6) t5
        have b6 := hkeep (hc6) b5
        have x6 := hkeep (hc6) x5
        have C6 := C5.trans (hc6)
        clear t5 b5 x5 C5 hc6 hB
        have nt6 : ¬ T0 = w6.heap.size := by have := blk_lt t6; omega
        have nb6 : ¬ B8 = w6.heap.size := by have := blk_lt b6; omega
        have nx6 : ¬ BX = w6.heap.size := by have := blk_lt x6; omega
        go_wp2_with fail
        clear nt6 nb6 nx6
        have t7 := hkeep (new_ch w6 zeroT nB) t6
        have b7 := hkeep (new_ch w6 zeroT nB) b6
        have x7 := hkeep (new_ch w6 zeroT nB) x6
        have C7 := C6.trans (new_ch w6 zeroT nB)
        have y7 := new_block w6 zeroT nB
        have xt := blk_lt t6
        have xb := blk_lt b6
        have xx := blk_lt x6
        have lwBY := C6.size
        clear t6 b6 x6 C6
        generalize World.onObj (w6.alloc (.cells (tcells zeroT) 26)) w6.heap.size (laidAt 0 (tcells nB)) = w7 at *
        generalize w6.heap.size = BY at *
        have ltT0BY : T0 < BY := xt
        clear xt
        have ltB8BY : B8 < BY := xb
        clear xb
        have ltBXBY : BX < BY := xx
        clear xx
        refine (hC _).mono ?_
        rintro e w8 ⟨rfl, hc8⟩
        have t8 := hkeep (hc8) t7
        have b8 := hkeep (hc8) b7
        have x8 := hkeep (hc8) x7
        have y8 := hkeep (hc8) y7
        have C8 := C7.trans (hc8)
        clear t7 b7 x7 y7 C7 hc8 hC
        have nt8 : ¬ T0 = w8.heap.size := by have := blk_lt t8; omega
        have nb8 : ¬ B8 = w8.heap.size := by have := blk_lt b8; omega
        have nx8 : ¬ BX = w8.heap.size := by have := blk_lt x8; omega
        have ny8 : ¬ BY = w8.heap.size := by have := blk_lt y8; omega
        go_upto_region 12 with (fail)
        clear nt8 nb8 nx8 ny8
        have t9 := hkeep (new_ch w8 zeroT nC) t8
        have b9 := hkeep (new_ch w8 zeroT nC) b8
        have x9 := hkeep (new_ch w8 zeroT nC) x8
        have y9 := hkeep (new_ch w8 zeroT nC) y8
        have C9 := C8.trans (new_ch w8 zeroT nC)
        have z9 := new_block w8 zeroT nC
        have xt := blk_lt t8
        have xb := blk_lt b8
        have xx := blk_lt x8
        have xy := blk_lt y8
        have lwBZ := C8.size
        clear t8 b8 x8 y8 C8
        generalize World.onObj (w8.alloc (.cells (tcells zeroT) 26)) w8.heap.size (laidAt 0 (tcells nC)) = w9 at *
        generalize w8.heap.size = BZ at *
        have ltT0BZ : T0 < BZ := xt
        clear xt
        have ltB8BZ : B8 < BZ := xb
        clear xb
        have ltBXBZ : BX < BZ := xx
        clear xx
        have ltBYBZ : BY < BZ := xy
        clear xy
        have nt9 : ¬ T0 = w9.heap.size := by have := blk_lt t9; omega
        have nb9 : ¬ B8 = w9.heap.size := by have := blk_lt b9; omega
        have nx9 : ¬ BX = w9.heap.size := by have := blk_lt x9; omega
        have ny9 : ¬ BY = w9.heap.size := by have := blk_lt y9; omega
        have nz9 : ¬ BZ = w9.heap.size := by have := blk_lt z9; omega
        go_upto_region 13 with (fail)
        clear nt9 nb9 nx9 ny9 nz9
        have hc10 : Ch [] w9 (((w9.alloc (.cells (tcells zeroT) 26)).alloc (.cells (tcells zeroT) 26)).alloc (.cells (tcells zeroT) 26)) := (((Ch.refl [] w9).alloc _).alloc _).alloc _
        have t10 := hkeep (hc10) t9
        have b10 := hkeep (hc10) b9
        have x10 := hkeep (hc10) x9
        have y10 := hkeep (hc10) y9
        have z10 := hkeep (hc10) z9
        have C10 := C9.trans (hc10)
        have k10 : (((w9.alloc (.cells (tcells zeroT) 26)).alloc (.cells (tcells zeroT) 26)).alloc (.cells (tcells zeroT) 26)).heap[w9.heap.size]? = some (.cells (tcells zeroT) 26 (0, 0)) := by simp [go_sem]
        have l10 : (((w9.alloc (.cells (tcells zeroT) 26)).alloc (.cells (tcells zeroT) 26)).alloc (.cells (tcells zeroT) 26)).heap[w9.heap.size + 1]? = some (.cells (tcells zeroT) 26 (0, 0)) := by simp [go_sem]
        have m10 : (((w9.alloc (.cells (tcells zeroT) 26)).alloc (.cells (tcells zeroT) 26)).alloc (.cells (tcells zeroT) 26)).heap[w9.heap.size + 1 + 1]? = some (.cells (tcells zeroT) 26 (0, 0)) := by simp [go_sem]
        have xt := blk_lt t9
        have xb := blk_lt b9
        have xx := blk_lt x9
        have xy := blk_lt y9
        have xz := blk_lt z9
        have lwQ := C9.size
        clear t9 b9 x9 y9 z9 C9 hc10
        generalize (((w9.alloc (.cells (tcells zeroT) 26)).alloc (.cells (tcells zeroT) 26)).alloc (.cells (tcells zeroT) 26)) = w10 at *
        generalize w9.heap.size = Q at *
        have ltT0Q : T0 < Q := xt
        clear xt
        have ltB8Q : B8 < Q := xb
        clear xb
        have ltBXQ : BX < Q := xx
        clear xx
        have ltBYQ : BY < Q := xy
        clear xy
        have ltBZQ : BZ < Q := xz
        clear xz
        go_wp2_with fail
        refine (hP' _).mono ?_
        rintro e w11 ⟨rfl, hc11⟩
        have t11 := hkeep (hc11) t10
        have b11 := hkeep (hc11) b10
        have x11 := hkeep (hc11) x10
        have y11 := hkeep (hc11) y10
        have z11 := hkeep (hc11) z10
        have k11 := hkeep (hc11) k10
        have l11 := hkeep (hc11) l10
        have m11 := hkeep (hc11) m10
        have C11 := C10.trans (hc11)
        clear t10 b10 x10 y10 z10 k10 l10 m10 C10 hc11 hP'
        go_wp2_with fail
        refine (hA' _).mono ?_
        rintro e w12 ⟨rfl, hc12⟩
        have t12 := hkeep (hc12) t11
        have b12 := hkeep (hc12) b11
        have x12 := hkeep (hc12) x11
        have y12 := hkeep (hc12) y11
        have z12 := hkeep (hc12) z11
        have k12 := hkeep (hc12) k11
        have l12 := hkeep (hc12) l11
        have m12 := hkeep (hc12) m11
        have C12 := C11.trans (hc12)
        clear t11 b11 x11 y11 z11 k11 l11 m11 C11 hc12 hA'
        go_upto_region 17 with (fail)
        have t13 : (World.onObj w12 (Q) (laidAt 0 (tcells nA))).heap[T0]? = _ := wr_other t12 (by omega)
        have b13 : (World.onObj w12 (Q) (laidAt 0 (tcells nA))).heap[B8]? = _ := wr_other b12 (by omega)
        have x13 : (World.onObj w12 (Q) (laidAt 0 (tcells nA))).heap[BX]? = _ := wr_other x12 (by omega)
        have y13 : (World.onObj w12 (Q) (laidAt 0 (tcells nA))).heap[BY]? = _ := wr_other y12 (by omega)
        have z13 : (World.onObj w12 (Q) (laidAt 0 (tcells nA))).heap[BZ]? = _ := wr_other z12 (by omega)
        have k13 : (World.onObj w12 (Q) (laidAt 0 (tcells nA))).heap[Q]? = _ := wr_block k12
        have l13 : (World.onObj w12 (Q) (laidAt 0 (tcells nA))).heap[Q + 1]? = _ := wr_other l12 (by omega)
        have m13 : (World.onObj w12 (Q) (laidAt 0 (tcells nA))).heap[Q + 1 + 1]? = _ := wr_other m12 (by omega)
        have C13 : Ch [] _ (World.onObj w12 (Q) (laidAt 0 (tcells nA))) := C12.onObj (.inr (by omega)) _
        clear t12 b12 x12 y12 z12 k12 l12 m12 C12
        generalize (World.onObj w12 (Q) (laidAt 0 (tcells nA))) = w13 at *
        go_wp2_with fail
        refine (hB' _).mono ?_
        rintro e w14 ⟨rfl, hc14⟩
        have t14 := hkeep (hc14) t13
        have b14 := hkeep (hc14) b13
        have x14 := hkeep (hc14) x13
        have y14 := hkeep (hc14) y13
        have z14 := hkeep (hc14) z13
        have k14 := hkeep (hc14) k13
        have l14 := hkeep (hc14) l13
        have m14 := hkeep (hc14) m13
        have C14 := C13.trans (hc14)
        clear t13 b13 x13 y13 z13 k13 l13 m13 C13 hc14 hB'
        go_upto_region 18 with (fail)
        have t15 : (World.onObj w14 (Q + 1) (laidAt 0 (tcells nB))).heap[T0]? = _ := wr_other t14 (by omega)
        have b15 : (World.onObj w14 (Q + 1) (laidAt 0 (tcells nB))).heap[B8]? = _ := wr_other b14 (by omega)
        have x15 : (World.onObj w14 (Q + 1) (laidAt 0 (tcells nB))).heap[BX]? = _ := wr_other x14 (by omega)
        have y15 : (World.onObj w14 (Q + 1) (laidAt 0 (tcells nB))).heap[BY]? = _ := wr_other y14 (by omega)
        have z15 : (World.onObj w14 (Q + 1) (laidAt 0 (tcells nB))).heap[BZ]? = _ := wr_other z14 (by omega)
        have k15 : (World.onObj w14 (Q + 1) (laidAt 0 (tcells nB))).heap[Q]? = _ := wr_other k14 (by omega)
        have l15 : (World.onObj w14 (Q + 1) (laidAt 0 (tcells nB))).heap[Q + 1]? = _ := wr_block l14
        have m15 : (World.onObj w14 (Q + 1) (laidAt 0 (tcells nB))).heap[Q + 1 + 1]? = _ := wr_other m14 (by omega)
        have C15 : Ch [] _ (World.onObj w14 (Q + 1) (laidAt 0 (tcells nB))) := C14.onObj (.inr (by omega)) _
        clear t14 b14 x14 y14 z14 k14 l14 m14 C14
        generalize (World.onObj w14 (Q + 1) (laidAt 0 (tcells nB))) = w15 at *
        go_wp2_with fail
        refine (hC' _).mono ?_
        rintro e w16 ⟨rfl, hc16⟩
        have t16 := hkeep (hc16) t15
        have b16 := hkeep (hc16) b15
        have x16 := hkeep (hc16) x15
        have y16 := hkeep (hc16) y15
        have z16 := hkeep (hc16) z15
        have k16 := hkeep (hc16) k15
        have l16 := hkeep (hc16) l15
        have m16 := hkeep (hc16) m15
        have C16 := C15.trans (hc16)
        clear t15 b15 x15 y15 z15 k15 l15 m15 C15 hc16 hC'
        go_upto_region 19 with (fail)
        have t17 : (World.onObj w16 (Q + 1 + 1) (laidAt 0 (tcells nC))).heap[T0]? = _ := wr_other t16 (by omega)
        have b17 : (World.onObj w16 (Q + 1 + 1) (laidAt 0 (tcells nC))).heap[B8]? = _ := wr_other b16 (by omega)
        have x17 : (World.onObj w16 (Q + 1 + 1) (laidAt 0 (tcells nC))).heap[BX]? = _ := wr_other x16 (by omega)
        have y17 : (World.onObj w16 (Q + 1 + 1) (laidAt 0 (tcells nC))).heap[BY]? = _ := wr_other y16 (by omega)
        have z17 : (World.onObj w16 (Q + 1 + 1) (laidAt 0 (tcells nC))).heap[BZ]? = _ := wr_other z16 (by omega)
        have k17 : (World.onObj w16 (Q + 1 + 1) (laidAt 0 (tcells nC))).heap[Q]? = _ := wr_other k16 (by omega)
        have l17 : (World.onObj w16 (Q + 1 + 1) (laidAt 0 (tcells nC))).heap[Q + 1]? = _ := wr_other l16 (by omega)
        have m17 : (World.onObj w16 (Q + 1 + 1) (laidAt 0 (tcells nC))).heap[Q + 1 + 1]? = _ := wr_block m16
        have C17 : Ch [] _ (World.onObj w16 (Q + 1 + 1) (laidAt 0 (tcells nC))) := C16.onObj (.inr (by omega)) _
        clear t16 b16 x16 y16 z16 k16 l16 m16 C16
        generalize (World.onObj w16 (Q + 1 + 1) (laidAt 0 (tcells nC))) = w17 at *
        have HMA := Lib.hid TU.out.mA
        have HMB := Lib.hid TU.out.mB
        have HMC := Lib.hid TU.out.mC
        clear TU
        have h1 : (eA == 0) = true ∨ (eA == 0) = false := by cases (eA == 0) <;> simp
        have h2 : (eB == 0) = true ∨ (eB == 0) = false := by cases (eB == 0) <;> simp
        have h3 : (eC == 0) = true ∨ (eC == 0) = false := by cases (eC == 0) <;> simp
        rcases h1 with h1 | h1
        all_goals rcases h2 with h2 | h2
        all_goals rcases h3 with h3 | h3
        all_goals
          have H1 := Lib.hid h1
          have H2 := Lib.hid h2
          have H3 := Lib.hid h3
          go_wp2
        all_goals
          go_roundw
          case rel =>
            first
              | exact ⟨m + 1, nA, by go_num, hlt, by omega, Lib.hid (HMA.out H1.out), wr_block t17, (HCR.out.pure C17).onObj (.inl (by simp)) _⟩
              | exact ⟨m + 1, nC, by go_num, hlt, by omega, Lib.hid (HMC.out H3.out), wr_block t17, (HCR.out.pure C17).onObj (.inl (by simp)) _⟩
              | exact ⟨m + 1, nB, by go_num, hlt, by omega, Lib.hid (HMB.out H2.out), wr_block t17, (HCR.out.pure C17).onObj (.inl (by simp)) _⟩
              | exact ⟨m + 1, a, by go_num, hlt, by omega, hg, t17, HCR.out.pure C17⟩
          case measure => simp [intOf]; omega
    · have hdec : decide (m < ll) = false := by simpa using hge
      clear hge
      go_wp2
      go_ret
      exact ⟨rfl, hCw⟩
set_option maxHeartbeats 8000000 in
set_option maxRecDepth 100000 in
theorem turns_bad (t : Tab) (s : BitVec 64) (la : Option Addr) (ll lc : Nat) (ps : Nat → BitVec 64 × BitVec 64) (w : World) (hM : mayT t s = false) (hll : ll ≤ 9223372036854775807) (hk : PairsIn w la ll ps) :
    Calls Tryz.prog 4 #[U s, .agg (tcells t), .slice la ll lc] w fun e w' => e = .returned (.bool true) ∧ Ch [] w w' := by
  have HK := Lib.hid hk
  have HM := Lib.hid hM
  clear hk hM
  go_enter Tryz.func4, Tryz.ntmps4
  go_wp2_with fail
  refine (wakes_any _).mono ?_
  rintro e w2 ⟨rfl, hc1⟩
  have b2 := hkeep hc1 (show (w.alloc (.cells (tcells t) 26)).heap[w.heap.size]? = some (.cells (tcells t) 26 (0, 0)) by simp [go_sem])
  have C2 : Ch [] w w2 := ((Ch.refl [] w).alloc _).trans hc1
  obtain ⟨T0, hT0⟩ : ∃ T0, w.heap.size = T0 := ⟨_, rfl⟩
  rw [hT0] at b2 ⊢
  have HT0 := Lib.hid hT0
  clear hc1 hT0
  go_wp2
  go_loopw [34] (fun i wr => ∃ (m : Nat) (a : Tab), i = .int .i64 m ∧ m ≤ ll ∧ m ≤ 16 ∧ Hid (mayT a s = false) ∧ wr.heap[T0]? = some (.cells (tcells a) 26 (0, 0)) ∧ Ch [T0] w2 wr) (fun i _ => ll - (intOf i).toNat)
  case atStart => exact ⟨0, t, rfl, by omega, by omega, HM, b2, Ch.refl _ _⟩
  case round =>
    obtain ⟨m, a, hm, hml, hm16, hg, ha, hcr⟩ := hrel
    subst hm
    have hCw : Ch [] w wr := C2.trans2 hcr (fun t ht => .inr (by simp at ht; have := HT0.out; omega))
    clear b2
    rcases Nat.lt_or_ge m ll with hlt | hge
    · obtain ⟨kb, ko, hka, hkb, hkc⟩ := HK.out m hlt
      subst hka
      have hkc' : (wr.heap[kb]?).bind (rowAt (ko + m * 2) 2) = some #[U (ps m).1, U (ps m).2] := by rw [hCw.block kb hkb (by simp)]; exact hkc
      have hkb' : ¬ kb = wr.heap.size := by have := hCw.size; omega
      have hdec : decide (m < ll) = true := by simpa using hlt
      have hne0 : ¬ T0 = wr.heap.size := by have := (Array.getElem?_eq_some_iff.1 ha).1; omega
      clear hkc hkb
      by_cases h16 : m = 16
      · subst h16
        go_wp2
        go_ret
        exact ⟨rfl, (hCw.alloc _).onObj (.inr hCw.size) _⟩
      · have h16' : ((m : Int) == 16) = false := by simp; omega
        obtain ⟨q, hq⟩ : ∃ q, ps m = q := ⟨_, rfl⟩
        rw [hq] at hkc'
        clear hq
        have TU := Lib.hid (turn_bad hg.out q)
        go_wp2_with fail
        have hR := TU.out.R
        have hP := TU.out.P
        have hA := TU.out.A
        have hB := TU.out.B
        have hC := TU.out.C
        have t1 := hkeep (pair_ch wr (U 0#64) (U 0#64) (U q.1) (U q.2)) ha
        have b1 := pair_block wr (U 0#64) (U 0#64) (U q.1) (U q.2)
        have C1 := pair_ch wr (U 0#64) (U 0#64) (U q.1) (U q.2)
        have xt := blk_lt ha
        have lwB8 := Nat.le_refl wr.heap.size
        generalize World.onObj (wr.alloc (.cells #[U 0#64, U 0#64] 31)) wr.heap.size (laidAt 0 #[U q.1, U q.2]) = w1 at *
        clear ha hkc' hne0 hkb'
        have HCR := Lib.hid hcr
        clear hcr
        obtain ⟨B8, hB8⟩ : ∃ B, wr.heap.size = B := ⟨_, rfl⟩
        rw [hB8] at b1 xt lwB8 ⊢
        have HB8 := Lib.hid hB8
        have lwB8 : wr.heap.size ≤ B8 := Nat.le_of_eq hB8
        clear hB8
        have ltT0B8 : T0 < B8 := xt
        clear xt
        refine (hR _).mono ?_
        rintro e w2 ⟨rfl, hc2⟩
        have t2 := hkeep (hc2) t1
        have b2 := hkeep (hc2) b1
        have C2 := C1.trans (hc2)
        clear t1 b1 C1 hc2 hR
        go_wp2_with fail
        refine (hP _).mono ?_
        rintro e w3 ⟨rfl, hc3⟩
        have t3 := hkeep (hc3) t2
        have b3 := hkeep (hc3) b2
        have C3 := C2.trans (hc3)
        clear t2 b2 C2 hc3 hP
        go_wp2_with fail
        refine (hA _).mono ?_
        rintro e w4 ⟨rfl, hc4⟩
        have t4 := hkeep (hc4) t3
        have b4 := hkeep (hc4) b3
        have C4 := C3.trans (hc4)
        clear t3 b3 C3 hc4 hA
        have nt4 : ¬ T0 = w4.heap.size := by have := blk_lt t4; omega
        have nb4 : ¬ B8 = w4.heap.size := by have := blk_lt b4; omega
        go_wp2_with fail
        clear nt4 nb4
        have t5 := hkeep (new_ch w4 zeroT zeroT) t4
        have b5 := hkeep (new_ch w4 zeroT zeroT) b4
        have C5 := C4.trans (new_ch w4 zeroT zeroT)
        have x5 := new_block w4 zeroT zeroT
        have xt := blk_lt t4
        have xb := blk_lt b4
        have lwBX := C4.size
        clear t4 b4 C4
        generalize World.onObj (w4.alloc (.cells (tcells zeroT) 26)) w4.heap.size (laidAt 0 (tcells zeroT)) = w5 at *
        generalize w4.heap.size = BX at *
        have ltT0BX : T0 < BX := xt
        clear xt
        have ltB8BX : B8 < BX := xb
        clear xb
        refine (hB _).mono ?_
        rintro e w6 ⟨rfl, hc6⟩
        have t6 := hkeep (hc6) t5
        have b6 := hkeep (hc6) b5
        have x6 := hkeep (hc6) x5
        have C6 := C5.trans (hc6)
        clear t5 b5 x5 C5 hc6 hB
        have nt6 : ¬ T0 = w6.heap.size := by have := blk_lt t6; omega
        have nb6 : ¬ B8 = w6.heap.size := by have := blk_lt b6; omega
        have nx6 : ¬ BX = w6.heap.size := by have := blk_lt x6; omega
        go_wp2_with fail
        clear nt6 nb6 nx6
        have t7 := hkeep (new_ch w6 zeroT zeroT) t6
        have b7 := hkeep (new_ch w6 zeroT zeroT) b6
        have x7 := hkeep (new_ch w6 zeroT zeroT) x6
        have C7 := C6.trans (new_ch w6 zeroT zeroT)
        have y7 := new_block w6 zeroT zeroT
        have xt := blk_lt t6
        have xb := blk_lt b6
        have xx := blk_lt x6
        have lwBY := C6.size
        clear t6 b6 x6 C6
        generalize World.onObj (w6.alloc (.cells (tcells zeroT) 26)) w6.heap.size (laidAt 0 (tcells zeroT)) = w7 at *
        generalize w6.heap.size = BY at *
        have ltT0BY : T0 < BY := xt
        clear xt
        have ltB8BY : B8 < BY := xb
        clear xb
        have ltBXBY : BX < BY := xx
        clear xx
        refine (hC _).mono ?_
        rintro e w8 ⟨rfl, hc8⟩
        have t8 := hkeep (hc8) t7
        have b8 := hkeep (hc8) b7
        have x8 := hkeep (hc8) x7
        have y8 := hkeep (hc8) y7
        have C8 := C7.trans (hc8)
        clear t7 b7 x7 y7 C7 hc8 hC
        have nt8 : ¬ T0 = w8.heap.size := by have := blk_lt t8; omega
        have nb8 : ¬ B8 = w8.heap.size := by have := blk_lt b8; omega
        have nx8 : ¬ BX = w8.heap.size := by have := blk_lt x8; omega
        have ny8 : ¬ BY = w8.heap.size := by have := blk_lt y8; omega
        go_upto_region 12 with (fail)
        clear nt8 nb8 nx8 ny8
        have t9 := hkeep (new_ch w8 zeroT zeroT) t8
        have b9 := hkeep (new_ch w8 zeroT zeroT) b8
        have x9 := hkeep (new_ch w8 zeroT zeroT) x8
        have y9 := hkeep (new_ch w8 zeroT zeroT) y8
        have C9 := C8.trans (new_ch w8 zeroT zeroT)
        have z9 := new_block w8 zeroT zeroT
        have xt := blk_lt t8
        have xb := blk_lt b8
        have xx := blk_lt x8
        have xy := blk_lt y8
        have lwBZ := C8.size
        clear t8 b8 x8 y8 C8
        generalize World.onObj (w8.alloc (.cells (tcells zeroT) 26)) w8.heap.size (laidAt 0 (tcells zeroT)) = w9 at *
        generalize w8.heap.size = BZ at *
        have ltT0BZ : T0 < BZ := xt
        clear xt
        have ltB8BZ : B8 < BZ := xb
        clear xb
        have ltBXBZ : BX < BZ := xx
        clear xx
        have ltBYBZ : BY < BZ := xy
        clear xy
        have nt9 : ¬ T0 = w9.heap.size := by have := blk_lt t9; omega
        have nb9 : ¬ B8 = w9.heap.size := by have := blk_lt b9; omega
        have nx9 : ¬ BX = w9.heap.size := by have := blk_lt x9; omega
        have ny9 : ¬ BY = w9.heap.size := by have := blk_lt y9; omega
        have nz9 : ¬ BZ = w9.heap.size := by have := blk_lt z9; omega
        go_upto_region 13 with (fail)
        clear nt9 nb9 nx9 ny9 nz9
        have hc10 : Ch [] w9 (((w9.alloc (.cells (tcells zeroT) 26)).alloc (.cells (tcells zeroT) 26)).alloc (.cells (tcells zeroT) 26)) := (((Ch.refl [] w9).alloc _).alloc _).alloc _
        have t10 := hkeep (hc10) t9
        have b10 := hkeep (hc10) b9
        have x10 := hkeep (hc10) x9
        have y10 := hkeep (hc10) y9
        have z10 := hkeep (hc10) z9
        have C10 := C9.trans (hc10)
        have k10 : (((w9.alloc (.cells (tcells zeroT) 26)).alloc (.cells (tcells zeroT) 26)).alloc (.cells (tcells zeroT) 26)).heap[w9.heap.size]? = some (.cells (tcells zeroT) 26 (0, 0)) := by simp [go_sem]
        have l10 : (((w9.alloc (.cells (tcells zeroT) 26)).alloc (.cells (tcells zeroT) 26)).alloc (.cells (tcells zeroT) 26)).heap[w9.heap.size + 1]? = some (.cells (tcells zeroT) 26 (0, 0)) := by simp [go_sem]
        have m10 : (((w9.alloc (.cells (tcells zeroT) 26)).alloc (.cells (tcells zeroT) 26)).alloc (.cells (tcells zeroT) 26)).heap[w9.heap.size + 1 + 1]? = some (.cells (tcells zeroT) 26 (0, 0)) := by simp [go_sem]
        have xt := blk_lt t9
        have xb := blk_lt b9
        have xx := blk_lt x9
        have xy := blk_lt y9
        have xz := blk_lt z9
        have lwQ := C9.size
        clear t9 b9 x9 y9 z9 C9 hc10
        generalize (((w9.alloc (.cells (tcells zeroT) 26)).alloc (.cells (tcells zeroT) 26)).alloc (.cells (tcells zeroT) 26)) = w10 at *
        generalize w9.heap.size = Q at *
        have ltT0Q : T0 < Q := xt
        clear xt
        have ltB8Q : B8 < Q := xb
        clear xb
        have ltBXQ : BX < Q := xx
        clear xx
        have ltBYQ : BY < Q := xy
        clear xy
        have ltBZQ : BZ < Q := xz
        clear xz
        clear TU
        go_wp2
        all_goals
          go_roundw
          case rel => exact ⟨m + 1, a, by go_num, hlt, by omega, hg, t10, HCR.out.pure C10⟩
          case measure => simp [intOf]; omega
    · have hdec : decide (m < ll) = false := by simpa using hge
      clear hge
      go_wp2
      go_ret
      exact ⟨rfl, hCw⟩
theorem turnsLaw (t : Tab) (s : BitVec 64) (la : Option Addr) (ll lc : Nat) (ps : Nat → BitVec 64 × BitVec 64) (w : World) (hll : ll ≤ 9223372036854775807) (hk : PairsIn w la ll ps) :
    Calls Tryz.prog 4 #[U s, .agg (tcells t), .slice la ll lc] w fun e w' => e = .returned (.bool true) ∧ Ch [] w w' := by
  cases hm : mayT t s with
  | false => exact turns_bad t s la ll lc ps w hm hll hk
  | true => exact turns_ok t s la ll lc ps w ((may_iff t s).1 hm) hll hk
end Go.Proofs.Hc
