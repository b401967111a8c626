/- A row of pairs that came in, opened with its capacity; a front part of it cloned. -/
import Derived.Test.YtaddieimkpijeaaGreatKHscHapHcl
import Derived.Test.YtaddieimkpijeaaGreatKHopHop2
import Derived.Test.YtaddieimkpijeaaGreatKHlhHlh2
import Derived.Test.YtaddieimkpijeaaGreatKHxvHxw
import Derived.Test.YtaddieimkpijeaaGreatKHtmHye
set_option linter.unusedSimpArgs false
set_option linter.unusedVariables false
namespace Go.Proofs.Hc
open Go.RowKit
open Go.ChangeShapes Go.WideShapes Go.ChangeAt
section
variable {H : Type} {enc : TypeId × Value → H} {w : World} {base : Nat} {held : Bool}
set_option maxRecDepth 100000 in
theorem open_pairs2 {r : Reach} {b0 : Nat} {v : Value} {d : DataW H} {p : List MemPlace} (hv : Value.okWide Tryz.prog w r b0 27 v) (h : DataW.Trod enc Tryz.prog w 0 (fun _ => true) held 27 v d p) :
    ∃ a n c ps, v = .slice a n c ∧ n ≤ c ∧ c ≤ 9223372036854775807 ∧ (a = none → n = 0 ∧ c = 0) ∧ PairsIn w a n ps := by
  obtain ⟨a, n, c, ps, rfl, hn, hps⟩ := open_pairs hv h
  obtain ⟨fuel, hf⟩ := h
  rcases Go.Deep.open_slice Tryz.underlying27 hf with ⟨hcs, _⟩ | ⟨x, l, c', m, n', D, Pl, hcs, _, hl, hm, hmm, _, hel⟩
  · simp [Value.cells] at hcs
    obtain ⟨rfl, rfl, rfl⟩ := hcs
    exact ⟨none, 0, 0, ps, rfl, by omega, by omega, fun _ => ⟨rfl, rfl⟩, hps⟩
  · simp [Value.cells] at hcs
    obtain ⟨rfl, rfl, rfl⟩ := hcs
    unfold maxLen at hm
    exact ⟨some x, n, c, ps, rfl, hl, by omega, (fun h => by cases h), hps⟩
end
attribute [local go_sem] wrap_u64 wrap_u8 bits_xor64 bits_and64 bits_or64 bits_not64 bits_xor8 bits_and8 bits_or8 signed64 signed8 ofInt_N BitVec.ofInt_add BitVec.ofInt_mul ofInt_sub' ofInt8_N64 ofInt64_N8 wide8 eqN neN shr_pow shr1 shr7 shr56
attribute [local go_sem high] bits_com64 shl_wrap
attribute [local go_sem] cell_heap ice_heap cellAt_cells iceAt_cells setAt_cells rowAt_cells canLay_cells laidAt_cells size_onObj size_setCell rowRes_some layRes_true
attribute [local go_sem] load26 load73 load23 store26 build73
attribute [local go_sem ↓] lrow26 lrow73 lrow23 srow26 zero26 brow73 heap_alloc heap_drew heap_drewN heap_setCell heap_onObj
attribute [local go_sem] tcells_size hcells_size tcells_get hcells_get tcells_one hcells_one hcells_table tcells_table hcells_all hcells_ctrl tcells_ctrl
attribute [local go_sem] nn2 nm2 nn3 nm3 nn4 nm4 nn5 nm5 nn6 nm6 nn7 nm7 nn8 nm8
attribute [local go_sem] nn2 nm2 nn3 nm3 nn4 nm4 nn5 nm5 nn6 nm6 nn7 nm7 nn8 nm8
attribute [local go_sem] Oper.semAt_some make_func1
theorem rowAt_cell {o : Option Obj} {i : Nat} {x y : Value} (h : o.bind (rowAt i 2) = some #[x, y]) : o.bind (cellAt i) = some x ∧ o.bind (cellAt (i + 1)) = some y := by
  cases o with
  | none => cases h
  | some ob =>
    cases ob with
    | cells c t fr =>
      simp only [Option.bind_some, rowAt_cells] at h
      split at h
      · rename_i hle
        have h' : c.extract i (i + 2) = #[x, y] := by simpa using h
        have e0 : (c.extract i (i + 2))[0]? = some x := by rw [h']; rfl
        have e1 : (c.extract i (i + 2))[1]? = some y := by rw [h']; rfl
        rw [Array.getElem?_extract] at e0 e1
        split at e0
        · split at e1
          · exact ⟨by simpa [cellAt] using e0, by simpa [cellAt] using e1⟩
          · cases e1
        · cases e0
      · cases h
    | _ => cases h
/-- The front part of a row. -/
def frontP (ps : Nat → BitVec 64 × BitVec 64) (n : Nat) : List (BitVec 64 × BitVec 64) := (List.range n).map ps
theorem frontP_len (ps : Nat → BitVec 64 × BitVec 64) (n : Nat) : (frontP ps n).length = n := by simp [frontP]
theorem pcells_nth (l : List (BitVec 64 × BitVec 64)) (j : Nat) (u : Value) (h : (pcells l)[j]? = some u) : ∃ i p, l[i]? = some p ∧ (j = 2 * i ∧ u = U p.1 ∨ j = 2 * i + 1 ∧ u = U p.2) := by
  have hlt := (List.getElem?_eq_some_iff.1 h).1
  rw [pcells_len] at hlt
  obtain ⟨p, hp⟩ : ∃ p, l[j / 2]? = some p := ⟨l[j / 2]'(by omega), List.getElem?_eq_getElem (by omega)⟩
  obtain ⟨h0, h1⟩ := pcells_at l (j / 2) p hp
  refine ⟨j / 2, p, hp, ?_⟩
  rcases (show j = 2 * (j / 2) ∨ j = 2 * (j / 2) + 1 by omega) with e | e
  · left; refine ⟨e, ?_⟩; rw [e, h0] at h; cases h; rfl
  · right; refine ⟨e, ?_⟩; rw [e, h1] at h; cases h; rfl
set_option maxHeartbeats 1000000 in
set_option maxRecDepth 100000 in
theorem clone_in (a : Option Addr) (n c : Nat) (ps : Nat → BitVec 64 × BitVec 64) (w : World) (h : PairsIn w a n ps) (ha : a = none → n = 0) (hn : n ≤ 900000) :
    Calls Tryz.prog 10 #[.slice a n c] w fun e w' => ∃ a' c', e = .returned (.slice a' n c') ∧ w'.ownsRow w.heap.size 31 2 (.slice a' n c') n (pcells (frontP ps n)) ∧ Ch [] w w' := by
  have q22 : ∀ (w : World) (a : Option Addr) (n c n' c' : Nat), (binOp .eql 27 (.slice a n c) (.slice none n' c')).run Tryz.prog w = .ok (.bool a.isNone) w := fun w a n c n' c' => Lib.run_eql_slice_nil w _ _ a n c n' c' Tryz.underlying27
  obtain ⟨i0, hi, hz0, hz1, hz2⟩ := info_parts infoP
  cases a with
  | none =>
    obtain rfl := ha rfl
    clear h ha
    go_enter Tryz.func10, Tryz.ntmps10
    go_wp2
    go_ret
    exact ⟨none, 0, rfl, World.ownsRow_nil _ _ _ _, Ch.refl _ _⟩
  | some x =>
    have hmade : (w.alloc (.cells #[] 31)).ownsRow w.heap.size 31 2 (.slice (some ⟨w.heap.size, 0, none⟩) 0 0) 0 [] := World.ownsRow_made w #[] 0 (Nat.le_refl _) (Nat.zero_le _) (by simp)
    have hcA : Ch [] w (w.alloc (.cells #[] 31)) := (Ch.refl [] w).alloc _
    obtain ⟨v', w1, hrun, hown, hgr, _⟩ := run_append_own (P := Tryz.prog) (w.alloc (.cells #[] 31)) w.heap.size 27 27 31 i0 (.agg #[.int .u64 0, .int .u64 0]) 2 16 Tryz.underlying27 hi hz0 hz1 hz2 rfl (by decide) _ 0 [] hmade x n c (pcells (frontP ps n)) (by rw [pcells_len, frontP_len]) (by
      intro j u hj
      obtain ⟨i, p, hip, hcase⟩ := pcells_nth _ j u hj
      have hin : i < n := by have := (List.getElem?_eq_some_iff.1 hip).1; rwa [frontP_len] at this
      have hpi : p = ps i := by
        unfold frontP at hip
        rw [List.getElem?_map, List.getElem?_range hin] at hip
        simpa using hip.symm
      obtain ⟨kb, ko, hka, hkb, hrow⟩ := h i hin
      obtain rfl : x = ⟨kb, ko, none⟩ := by simpa using hka
      obtain ⟨e0, e1⟩ := rowAt_cell hrow
      have hbl : (w.alloc (.cells #[] 31)).heap[kb]? = w.heap[kb]? := hcA.block kb hkb (by simp)
      have hadd : (⟨kb, ko, none⟩ : Addr).add j = ⟨kb, ko + j, none⟩ := by unfold Addr.add; split <;> simp_all
      subst hpi
      rw [hadd, cell_heap, hbl]
      rcases hcase with ⟨rfl, rfl⟩ | ⟨rfl, rfl⟩
      · rw [Nat.mul_comm]; exact e0
      · rw [show ko + (2 * i + 1) = ko + i * 2 + 1 by omega]; exact e1) (pcells_one _) (by unfold maxLen; omega) (by omega) (by simp)
    rw [Nat.zero_add, List.nil_append] at hown
    have hc1 : Ch [] w w1 := hcA.trans2 (Ch.of_grown (S := [w.heap.size]) hgr (fun k hk => by simp [Value.ownBlock] at hk; simp [hk])) (by simp)
    have bs : ∀ w : World, (Instr.buildSlice 27 0 #[]).run Tryz.prog w = .ok (.slice (some ⟨w.heap.size, 0, none⟩) 0 0) (w.alloc (.cells #[] 31)) := fun w => by kernel_rfl
    have HO := Lib.hid hown
    have HC := Lib.hid hc1
    clear hmade hcA hgr hown hc1 h
    go_enter Tryz.func10, Tryz.ntmps10
    go_wp2_with (at_builtin; refine Lib.wpList_append_run _ rfl _ _ 27 27 rfl _ _ rfl rfl _ _ hrun ?_)
    go_ret
    obtain ⟨a', c', rfl⟩ := own_form HO.out
    exact ⟨a', c', rfl, HO.out, HC.out⟩
end Go.Proofs.Hc
/- Law 17, TableLays: the walk. -/
namespace Go.Proofs.Hc
open Go.RowKit
attribute [local go_sem] wrap_u64 wrap_u8 bits_xor64 bits_and64 bits_or64 bits_not64 bits_xor8 bits_and8 bits_or8 signed64 signed8 ofInt_N BitVec.ofInt_add BitVec.ofInt_mul ofInt_sub' ofInt8_N64 ofInt64_N8 wide8 eqN neN shr_pow shr1 shr7 shr56
attribute [local go_sem high] bits_com64 shl_wrap
attribute [local go_sem] cell_heap ice_heap cellAt_cells iceAt_cells setAt_cells rowAt_cells canLay_cells laidAt_cells size_onObj size_setCell rowRes_some layRes_true
attribute [local go_sem] load26 load73 load23 store26 build73
attribute [local go_sem ↓] lrow26 lrow73 lrow23 srow26 zero26 brow73 heap_alloc heap_drew heap_drewN heap_setCell heap_onObj
attribute [local go_sem] tcells_size hcells_size tcells_get hcells_get tcells_one hcells_one hcells_table tcells_table hcells_all hcells_ctrl tcells_ctrl
attribute [local go_sem] nn2 nm2 nn3 nm3 nn4 nm4 nn5 nm5 nn6 nm6 nn7 nm7 nn8 nm8
attribute [local go_sem] loadA loadT2 storeA storeT2 buildA_ts buildA_sm assert_errno make_func acells_size t2cells_size acells_get t2cells_get acells_one t2cells_one acells_table acells_all t2cells_all t2cells_l t2cells_r
attribute [local go_sem ↓] lrowA lrowT2 srowA srowT2 browA zeroA_run zeroT2_run
attribute [local go_sem] nn2 nm2 nn3 nm3 nn4 nm4 nn5 nm5 nn6 nm6 nn7 nm7 nn8 nm8
attribute [local go_sem] Oper.semAt_some make_func1 ofInt_pow8
attribute [local go_sem] box26 tcells_idx cell0 cell1 cell2 cell3 cell4 hcells_idx hcells_pop
attribute [local go_sem] cell5 cell6 t2cells_idx
attribute [local go_sem] loadP storeP allOne_pair
attribute [local go_sem ↓] lrowP srowP zeroP
attribute [local go_sem high] laidAt_t laidAt_a laidAt_t2 laidAt_p
attribute [local go_sem high] eql_tab eql_t2 guard26 guard35
attribute [local irreducible] tcells t2cells
theorem build_t2 (a b : Tab) (w : World) : (buildRow 35 #[(0, .agg (tcells a)), (1, .agg (tcells b))]).run Tryz.prog w = .ok (.agg (t2cells ⟨a, b⟩)) w := by kernel_rfl
attribute [local go_sem] build_t2
attribute [local go_sem ↓] brow35
theorem t2_block (W : World) (a b : T2) : (World.onObj (W.alloc (.cells (t2cells a) 35)) W.heap.size (laidAt 0 (t2cells b))).heap[W.heap.size]? = some (.cells (t2cells b) 35 (0, 0)) := new_block2 W a b
theorem wr_block {W : World} {g : Nat} {a b : Tab} (h : W.heap[g]? = some (.cells (tcells a) 26 (0, 0))) : (World.onObj W g (laidAt 0 (tcells b))).heap[g]? = some (.cells (tcells b) 26 (0, 0)) := by
  rw [heap_onObj, if_pos rfl, h, Option.map_some, laidAt_t]
theorem wr_block2 {W : World} {g : Nat} {a b : T2} (h : W.heap[g]? = some (.cells (t2cells a) 35 (0, 0))) : (World.onObj W g (laidAt 0 (t2cells b))).heap[g]? = some (.cells (t2cells b) 35 (0, 0)) := by
  rw [heap_onObj, if_pos rfl, h, Option.map_some, laidAt_t2]
theorem wr_other {W : World} {g k : Nat} {f : Obj → Obj} {o : Obj} (h : W.heap[k]? = some o) (hne : ¬ k = g) : (World.onObj W g f).heap[k]? = some o := by
  rw [heap_onObj, if_neg hne]; exact h
theorem own_at {w w1 : World} {g base n size : Nat} {e : TypeId} {v : Value} {xs : List Value} (h : w.ownsRow base e size v n xs) (c : Ch [g] w w1) (hS : ∀ k, v.ownBlock = some k → k ≠ g) : w1.ownsRow base e size v n xs := by
  obtain ⟨h1, h2⟩ := h
  refine ⟨h1, ?_⟩
  rcases h2 with h2 | ⟨r, cap, cur, hv, hr, hb, rest⟩
  · exact .inl h2
  · refine .inr ⟨r, cap, cur, hv, hr, ?_, rest⟩
    exact hkeepS c (by have := hS r (by rw [hv]; rfl); simpa using this) hb
theorem blk_lt {W : World} {k : Nat} {o : Obj} (h : W.heap[k]? = some o) : k < W.heap.size := (Array.getElem?_eq_some_iff.1 h).1
set_option maxHeartbeats 4000000 in
set_option maxRecDepth 100000 in
theorem lays_half (t : Tab) (s : BitVec 64) (XA XP : Tab) (eP : Int) (X0 X1 : Tab) (ka : Option Addr) (kl kc : Nat) (L : List (BitVec 64 × BitVec 64)) (w : World)
    (hR : ∀ w, Calls Tryz.prog 14 #[U s, .agg (tcells t)] w fun e w' => e = .returned (.bool true) ∧ Ch [] w w')
    (hA : (∀ w, Calls Tryz.prog 11 #[U s, .agg (tcells t)] w fun e w' => e = .returned (.tuple #[.agg (tcells XA), I 0]) ∧ Ch [] w w'))
    (hH : (∀ w, Calls Tryz.prog 12 #[U s, .agg (tcells t)] w fun e w' => e = .returned (.tuple #[.agg (t2cells ⟨X0, X1⟩), I 0]) ∧ Ch [] w w'))
    (hC : ∀ w', Ch [] w w' → Calls Tryz.prog 10 #[.slice ka (min kl 16) kc] w' fun e w'' => ∃ a' c', e = .returned (.slice a' L.length c') ∧ w''.ownsRow w'.heap.size 31 2 (.slice a' L.length c') L.length (pcells L) ∧ Ch [] w' w'')
    (hP : ∀ (w : World) a c base, w.ownsRow base 31 2 (.slice a L.length c) L.length (pcells L) → Calls Tryz.prog 13 #[U s, .agg (tcells t), .slice a L.length c] w fun e w' => e = .returned (.tuple #[.agg (tcells XP), I eP]) ∧ Ch [] w w')
    (hA' : (∀ w, Calls Tryz.prog 15 #[U s, .agg (tcells t)] w fun e w' => e = .returned (.agg (tcells XA)) ∧ Ch [] w w'))
    (hP' : ∀ (w : World) a c base, w.ownsRow base 31 2 (.slice a L.length c) L.length (pcells L) → Calls Tryz.prog 17 #[U s, .agg (tcells t), .slice a L.length c] w fun e w' => e = .returned (.tuple #[.agg (tcells XP), I eP]) ∧ Ch [] w w')
    (hH0 : (∀ w, Calls Tryz.prog 16 #[U s, .agg (tcells t), .int .u64 0] w fun e w' => e = .returned (.agg (tcells X0)) ∧ Ch [] w w'))
    (hH1 : (∀ w, Calls Tryz.prog 16 #[U s, .agg (tcells t), .int .u64 1] w fun e w' => e = .returned (.agg (tcells X1)) ∧ Ch [] w w'))
    (hd : t.depth < 5)
    (hkc : kl ≤ kc) (hkc2 : kc ≤ 9223372036854775807) (hkn : ka = none → kl = 0 ∧ kc = 0) :
    Calls Tryz.prog 3 #[U s, .agg (tcells t), .slice ka kl kc] w fun e w' => e = .returned (.bool true) ∧ Ch [] w w' := by
  have HC := Lib.hid hC
  have HKN := Lib.hid hkn
  clear hC hkn
  go_enter Tryz.func3, Tryz.ntmps3
  go_wp2_with fail
  refine (wakes_any _).mono ?_
  rintro e w1 ⟨rfl, hc1⟩
  have t1 := hkeep hc1 (show (w.alloc (.cells (tcells t) 26)).heap[w.heap.size]? = some (.cells (tcells t) 26 (0, 0)) by simp [go_sem])
  have C1 : Ch [] w w1 := ((Ch.refl [] w).alloc _).trans hc1
  obtain ⟨T0, hT0⟩ : ∃ T0, w.heap.size = T0 := ⟨_, rfl⟩
  rw [hT0] at t1 ⊢
  have HT0 := Lib.hid hT0
  clear hc1 hT0
  have hmin : min (kl : Int) 16 = ((min kl 16 : Nat) : Int) := by omega
  have hnn : min kl 16 ≤ kc := by omega
  generalize min kl 16 = nn at *
  go_wp2_with fail
  clear hmin
  refine (HC.out _ C1).mono ?_
  rintro e w2 ⟨a2, c2, rfl, o2, hc2⟩
  have t2 := hkeep (hc2) t1
  have C2 := C1.trans (hc2)
  clear t1 C1 hc2 HC HKN
  generalize L.length = ln at *
  go_wp2_with fail
  refine (hA _).mono ?_
  rintro e w3 ⟨rfl, hc3⟩
  have t3 := hkeep (hc3) t2
  have C3 := C2.trans (hc3)
  have o3 := own_ch o2 (hc3) (by simp)
  clear t2 C2 o2 hc3 hA
  have nt3 : ¬ T0 = w3.heap.size := by have := blk_lt t3; omega
  go_wp2_with fail
  clear nt3
  have t4 := hkeep (new_ch w3 zeroT XA) t3
  have C4 := C3.trans (new_ch w3 zeroT XA)
  have o4 := own_ch o3 (new_ch w3 zeroT XA) (by simp)
  have a4 := new_block w3 zeroT XA
  have xt := blk_lt t3
  clear t3 C3 o3
  generalize World.onObj (w3.alloc (.cells (tcells zeroT) 26)) w3.heap.size (laidAt 0 (tcells XA)) = w4 at *
  generalize w3.heap.size = BA at *
  have ltT0BA : T0 < BA := xt
  clear xt
  refine (hH _).mono ?_
  rintro e w5 ⟨rfl, hc5⟩
  have t5 := hkeep (hc5) t4
  have a5 := hkeep (hc5) a4
  have C5 := C4.trans (hc5)
  have o5 := own_ch o4 (hc5) (by simp)
  clear t4 a4 C4 o4 hc5 hH
  have nt5 : ¬ T0 = w5.heap.size := by have := blk_lt t5; omega
  have na5 : ¬ BA = w5.heap.size := by have := blk_lt a5; omega
  go_wp2_with fail
  clear nt5 na5
  have t6 := hkeep (new_ch2 w5 zeroT2 ⟨X0, X1⟩) t5
  have a6 := hkeep (new_ch2 w5 zeroT2 ⟨X0, X1⟩) a5
  have C6 := C5.trans (new_ch2 w5 zeroT2 ⟨X0, X1⟩)
  have o6 := own_ch o5 (new_ch2 w5 zeroT2 ⟨X0, X1⟩) (by simp)
  have h6 := t2_block w5 zeroT2 ⟨X0, X1⟩
  have xt := blk_lt t5
  have xa := blk_lt a5
  clear t5 a5 C5 o5
  generalize World.onObj (w5.alloc (.cells (t2cells zeroT2) 35)) w5.heap.size (laidAt 0 (t2cells ⟨X0, X1⟩)) = w6 at *
  generalize w5.heap.size = BH at *
  have ltT0BH : T0 < BH := xt
  clear xt
  have ltBABH : BA < BH := xa
  clear xa
  refine (hP _ _ _ _ o6).mono ?_
  rintro e w7 ⟨rfl, hc7⟩
  have t7 := hkeep (hc7) t6
  have a7 := hkeep (hc7) a6
  have h7 := hkeep (hc7) h6
  have C7 := C6.trans (hc7)
  have o7 := own_ch o6 (hc7) (by simp)
  clear t6 a6 h6 C6 o6 hc7 hP
  have nt7 : ¬ T0 = w7.heap.size := by have := blk_lt t7; omega
  have na7 : ¬ BA = w7.heap.size := by have := blk_lt a7; omega
  have nh7 : ¬ BH = w7.heap.size := by have := blk_lt h7; omega
  go_upto_region 7 with (fail)
  clear nt7 na7 nh7
  have t8 := hkeep (new_ch w7 zeroT XP) t7
  have a8 := hkeep (new_ch w7 zeroT XP) a7
  have h8 := hkeep (new_ch w7 zeroT XP) h7
  have C8 := C7.trans (new_ch w7 zeroT XP)
  have o8 := own_ch o7 (new_ch w7 zeroT XP) (by simp)
  have p8 := new_block w7 zeroT XP
  have xt := blk_lt t7
  have xa := blk_lt a7
  have xh := blk_lt h7
  clear t7 a7 h7 C7 o7
  generalize World.onObj (w7.alloc (.cells (tcells zeroT) 26)) w7.heap.size (laidAt 0 (tcells XP)) = w8 at *
  generalize w7.heap.size = BP at *
  have ltT0BP : T0 < BP := xt
  clear xt
  have ltBABP : BA < BP := xa
  clear xa
  have ltBHBP : BH < BP := xh
  clear xh
  have nt8 : ¬ T0 = w8.heap.size := by have := blk_lt t8; omega
  have na8 : ¬ BA = w8.heap.size := by have := blk_lt a8; omega
  have nh8 : ¬ BH = w8.heap.size := by have := blk_lt h8; omega
  have np8 : ¬ BP = w8.heap.size := by have := blk_lt p8; omega
  go_upto_region 9 with (fail)
  clear nt8 na8 nh8 np8
  have hc9 : Ch [] w8 (((w8.alloc (.cells (tcells zeroT) 26)).alloc (.cells (tcells zeroT) 26)).alloc (.cells (t2cells zeroT2) 35)) := (((Ch.refl [] w8).alloc _).alloc _).alloc _
  have t9 := hkeep (hc9) t8
  have a9 := hkeep (hc9) a8
  have h9 := hkeep (hc9) h8
  have p9 := hkeep (hc9) p8
  have C9 := C8.trans (hc9)
  have o9 := own_ch o8 (hc9) (by simp)
  have y9 : (((w8.alloc (.cells (tcells zeroT) 26)).alloc (.cells (tcells zeroT) 26)).alloc (.cells (t2cells zeroT2) 35)).heap[w8.heap.size]? = some (.cells (tcells zeroT) 26 (0, 0)) := by simp [go_sem]
  have z9 : (((w8.alloc (.cells (tcells zeroT) 26)).alloc (.cells (tcells zeroT) 26)).alloc (.cells (t2cells zeroT2) 35)).heap[w8.heap.size + 1]? = some (.cells (tcells zeroT) 26 (0, 0)) := by simp [go_sem]
  have v9 : (((w8.alloc (.cells (tcells zeroT) 26)).alloc (.cells (tcells zeroT) 26)).alloc (.cells (t2cells zeroT2) 35)).heap[w8.heap.size + 1 + 1]? = some (.cells (t2cells zeroT2) 35 (0, 0)) := by simp [go_sem]
  have xt := blk_lt t8
  have xa := blk_lt a8
  have xh := blk_lt h8
  have xp := blk_lt p8
  have wQ : w.heap.size ≤ w8.heap.size := C8.size
  have hoQ : Hid (∀ k, (Value.slice a2 ln c2).ownBlock = some k → k < w8.heap.size) := Lib.hid fun k hk => own_lt o8 hk
  clear t8 a8 h8 p8 C8 o8 hc9
  generalize (((w8.alloc (.cells (tcells zeroT) 26)).alloc (.cells (tcells zeroT) 26)).alloc (.cells (t2cells zeroT2) 35)) = w9 at *
  generalize w8.heap.size = Q at *
  have ltT0Q : T0 < Q := xt
  clear xt
  have ltBAQ : BA < Q := xa
  clear xa
  have ltBHQ : BH < Q := xh
  clear xh
  have ltBPQ : BP < Q := xp
  clear xp
  go_wp2_with fail
  refine (hR _).mono ?_
  rintro e w10 ⟨rfl, hc10⟩
  have t10 := hkeep (hc10) t9
  have a10 := hkeep (hc10) a9
  have h10 := hkeep (hc10) h9
  have p10 := hkeep (hc10) p9
  have y10 := hkeep (hc10) y9
  have z10 := hkeep (hc10) z9
  have v10 := hkeep (hc10) v9
  have C10 := C9.trans (hc10)
  have o10 := own_ch o9 (hc10) (by simp)
  clear t9 a9 h9 p9 y9 z9 v9 C9 o9 hc10 hR
  go_wp2_with fail
  refine (hA' _).mono ?_
  rintro e w11 ⟨rfl, hc11⟩
  have t11 := hkeep (hc11) t10
  have a11 := hkeep (hc11) a10
  have h11 := hkeep (hc11) h10
  have p11 := hkeep (hc11) p10
  have y11 := hkeep (hc11) y10
  have z11 := hkeep (hc11) z10
  have v11 := hkeep (hc11) v10
  have C11 := C10.trans (hc11)
  have o11 := own_ch o10 (hc11) (by simp)
  clear t10 a10 h10 p10 y10 z10 v10 C10 o10 hc11 hA'
  go_upto_region 12 with (fail)
  have t12 : (World.onObj w11 (Q) (laidAt 0 (tcells XA))).heap[T0]? = _ := wr_other t11 (by omega)
  have a12 : (World.onObj w11 (Q) (laidAt 0 (tcells XA))).heap[BA]? = _ := wr_other a11 (by omega)
  have h12 : (World.onObj w11 (Q) (laidAt 0 (tcells XA))).heap[BH]? = _ := wr_other h11 (by omega)
  have p12 : (World.onObj w11 (Q) (laidAt 0 (tcells XA))).heap[BP]? = _ := wr_other p11 (by omega)
  have y12 : (World.onObj w11 (Q) (laidAt 0 (tcells XA))).heap[Q]? = _ := wr_block y11
  have z12 : (World.onObj w11 (Q) (laidAt 0 (tcells XA))).heap[Q + 1]? = _ := wr_other z11 (by omega)
  have v12 : (World.onObj w11 (Q) (laidAt 0 (tcells XA))).heap[Q + 1 + 1]? = _ := wr_other v11 (by omega)
  have C12 : Ch [] w (World.onObj w11 (Q) (laidAt 0 (tcells XA))) := C11.onObj (.inr (by omega)) _
  have q12 : Ch [Q] w11 (World.onObj w11 (Q) (laidAt 0 (tcells XA))) := (Ch.refl _ _).onObj (.inl (by simp)) _
  have o12 := own_at o11 q12 (fun k hk => by have := hoQ.out k hk; omega)
  clear t11 a11 h11 p11 y11 z11 v11 C11 o11 q12
  generalize (World.onObj w11 (Q) (laidAt 0 (tcells XA))) = w12 at *
  go_wp2_with fail
  have hs : (fun W' : World => W'.heap[T0]? = some (.cells (tcells t) 26 (0, 0))) w12.drew := t12
  have t13 := hkeep ((Ch.refl [] w12).drew) t12
  have a13 := hkeep ((Ch.refl [] w12).drew) a12
  have h13 := hkeep ((Ch.refl [] w12).drew) h12
  have p13 := hkeep ((Ch.refl [] w12).drew) p12
  have y13 := hkeep ((Ch.refl [] w12).drew) y12
  have z13 := hkeep ((Ch.refl [] w12).drew) z12
  have v13 := hkeep ((Ch.refl [] w12).drew) v12
  have C13 := C12.trans ((Ch.refl [] w12).drew)
  have o13 := own_ch o12 ((Ch.refl [] w12).drew) (by simp)
  clear t12 a12 h12 p12 y12 z12 v12 C12 o12
  refine wp_region_held_drew (S := fun W' : World => W'.heap[T0]? = some (.cells (tcells t) 26 (0, 0))) (by kernel_rfl) hs ?_
  intro _
  simp only [List.size_toArray, List.length_cons, List.length_nil, Nat.reduceAdd]
  clear hs
  generalize w12.drew = w13 at *
  refine wpAnyH_take (i := 0) (oi := ⟨some 55, _, _, _, _, none⟩) (v := ?_) rfl (by kernel_rfl) (by kernel_rfl) (by kernel_rfl) (fun _ _ _ h => h) (Or.inl ⟨by rfl, ?_⟩) t13 ?_
  rotate_left
  · intro wq hSq
    first | (go_simp; done) | (go_simp; with_reducible rfl)
  try simp only [Act.put, List.setIfInBounds_toArray, List.set_cons_zero, List.set_cons_succ]
  refine wpAnyH_take (i := 1) (oi := ⟨some 56, _, _, _, _, none⟩) (v := ?_) rfl (by kernel_rfl) (by kernel_rfl) (by kernel_rfl) (fun _ _ _ h => h) (Or.inl ⟨by rfl, ?_⟩) t13 ?_
  rotate_left
  · intro wq hSq
    first | (go_simp; done) | (go_simp; with_reducible rfl)
  try simp only [Act.put, List.setIfInBounds_toArray, List.set_cons_zero, List.set_cons_succ]
  refine wpAnyH_take (i := 3) (oi := ⟨some 58, _, _, _, _, none⟩) (v := ?_) rfl (by kernel_rfl) (by kernel_rfl) (by kernel_rfl) (fun _ _ _ h => h) (Or.inl ⟨by rfl, ?_⟩) t13 ?_
  rotate_left
  · intro wq hSq
    first | (go_simp; done) | (go_simp; with_reducible rfl)
  try simp only [Act.put, List.setIfInBounds_toArray, List.set_cons_zero, List.set_cons_succ]
  refine wpAnyH_take (i := 4) (oi := ⟨some 59, _, _, _, _, none⟩) (v := ?_) rfl (by kernel_rfl) (by kernel_rfl) (by kernel_rfl) (fun _ _ _ h => h) (Or.inl ⟨by rfl, ?_⟩) t13 ?_
  rotate_left
  · intro wq hSq
    first | (go_simp; done) | (go_simp; with_reducible rfl)
  try simp only [Act.put, List.setIfInBounds_toArray, List.set_cons_zero, List.set_cons_succ]
  refine wpAnyH_ready (rs := [2]) (by kernel_rfl) (by simp) ?_
  refine AllReadyH.cons rfl (fun K hK => ?_) AllReadyH.nil
  go_simp
  refine (hH0 _).mono ?_
  rintro e w14 ⟨rfl, hc14⟩
  have t14 := hkeep (hc14) t13
  have a14 := hkeep (hc14) a13
  have h14 := hkeep (hc14) h13
  have p14 := hkeep (hc14) p13
  have y14 := hkeep (hc14) y13
  have z14 := hkeep (hc14) z13
  have v14 := hkeep (hc14) v13
  have C14 := C13.trans (hc14)
  have o14 := own_ch o13 (hc14) (by simp)
  clear t13 a13 h13 p13 y13 z13 v13 C13 o13 hc14 hH0
  refine hK.out _ _ t14 (fun _ => ?_)
  clear hK K
  refine wpAnyH_ready (rs := [5]) (by kernel_rfl) (by simp) ?_
  refine AllReadyH.cons rfl (fun K hK => ?_) AllReadyH.nil
  go_simp
  refine (hH1 _).mono ?_
  rintro e w15 ⟨rfl, hc15⟩
  have t15 := hkeep (hc15) t14
  have a15 := hkeep (hc15) a14
  have h15 := hkeep (hc15) h14
  have p15 := hkeep (hc15) p14
  have y15 := hkeep (hc15) y14
  have z15 := hkeep (hc15) z14
  have v15 := hkeep (hc15) v14
  have C15 := C14.trans (hc15)
  have o15 := own_ch o14 (hc15) (by simp)
  clear t14 a14 h14 p14 y14 z14 v14 C14 o14 hc15 hH1
  refine hK.out _ _ t15 (fun _ => ?_)
  clear hK K
  refine wpAnyH_take (i := 6) (oi := ⟨some 61, _, _, _, _, none⟩) (v := ?_) rfl (by kernel_rfl) (by kernel_rfl) (by kernel_rfl) (fun _ _ _ h => h) (Or.inl ⟨by rfl, ?_⟩) t15 ?_
  rotate_left
  · intro wq hSq
    first | (go_simp; done) | (go_simp; with_reducible rfl)
  try simp only [Act.put, List.setIfInBounds_toArray, List.set_cons_zero, List.set_cons_succ]
  refine wpAnyH_ready (rs := [7]) (by kernel_rfl) (by simp) ?_
  refine AllReadyH.cons rfl (fun K hK => ?_) AllReadyH.nil
  go_simp
  have t16 : (World.onObj w15 (Q + 1 + 1) (laidAt 0 (t2cells ⟨X0, X1⟩))).heap[T0]? = _ := wr_other t15 (by omega)
  have a16 : (World.onObj w15 (Q + 1 + 1) (laidAt 0 (t2cells ⟨X0, X1⟩))).heap[BA]? = _ := wr_other a15 (by omega)
  have h16 : (World.onObj w15 (Q + 1 + 1) (laidAt 0 (t2cells ⟨X0, X1⟩))).heap[BH]? = _ := wr_other h15 (by omega)
  have p16 : (World.onObj w15 (Q + 1 + 1) (laidAt 0 (t2cells ⟨X0, X1⟩))).heap[BP]? = _ := wr_other p15 (by omega)
  have y16 : (World.onObj w15 (Q + 1 + 1) (laidAt 0 (t2cells ⟨X0, X1⟩))).heap[Q]? = _ := wr_other y15 (by omega)
  have z16 : (World.onObj w15 (Q + 1 + 1) (laidAt 0 (t2cells ⟨X0, X1⟩))).heap[Q + 1]? = _ := wr_other z15 (by omega)
  have v16 : (World.onObj w15 (Q + 1 + 1) (laidAt 0 (t2cells ⟨X0, X1⟩))).heap[Q + 1 + 1]? = _ := wr_block2 v15
  have C16 : Ch [] w (World.onObj w15 (Q + 1 + 1) (laidAt 0 (t2cells ⟨X0, X1⟩))) := C15.onObj (.inr (by omega)) _
  have q16 : Ch [Q + 1 + 1] w15 (World.onObj w15 (Q + 1 + 1) (laidAt 0 (t2cells ⟨X0, X1⟩))) := (Ch.refl _ _).onObj (.inl (by simp)) _
  have o16 := own_at o15 q16 (fun k hk => by have := hoQ.out k hk; omega)
  refine hK.out _ _ t16 (fun _ => ?_)
  clear hK K
  clear t15 a15 h15 p15 y15 z15 v15 C15 o15 q16
  generalize (World.onObj w15 (Q + 1 + 1) (laidAt 0 (t2cells ⟨X0, X1⟩))) = w16 at *
  refine wpAnyH_take (i := 8) (oi := ⟨some 17, _, _, _, _, none⟩) (v := ?_) rfl (by kernel_rfl) (by kernel_rfl) (by kernel_rfl) (fun _ _ _ h => h) (Or.inl ⟨by rfl, ?_⟩) t16 ?_
  rotate_left
  · intro wq hSq
    first | (go_simp; done) | (go_simp; with_reducible rfl)
  try simp only [Act.put, List.setIfInBounds_toArray, List.set_cons_zero, List.set_cons_succ]
  refine wpAnyH_done (by kernel_rfl) ?_ _
  go_wp2_with fail
  refine (hP' _ _ _ _ o16).mono ?_
  rintro e w17 ⟨rfl, hc17⟩
  have t17 := hkeep (hc17) t16
  have a17 := hkeep (hc17) a16
  have h17 := hkeep (hc17) h16
  have p17 := hkeep (hc17) p16
  have y17 := hkeep (hc17) y16
  have z17 := hkeep (hc17) z16
  have v17 := hkeep (hc17) v16
  have C17 := C16.trans (hc17)
  have o17 := own_ch o16 (hc17) (by simp)
  clear t16 a16 h16 p16 y16 z16 v16 C16 o16 hc17 hP'
  go_upto_region 16 with (fail)
  have t18 : (World.onObj w17 (Q + 1) (laidAt 0 (tcells XP))).heap[T0]? = _ := wr_other t17 (by omega)
  have a18 : (World.onObj w17 (Q + 1) (laidAt 0 (tcells XP))).heap[BA]? = _ := wr_other a17 (by omega)
  have h18 : (World.onObj w17 (Q + 1) (laidAt 0 (tcells XP))).heap[BH]? = _ := wr_other h17 (by omega)
  have p18 : (World.onObj w17 (Q + 1) (laidAt 0 (tcells XP))).heap[BP]? = _ := wr_other p17 (by omega)
  have y18 : (World.onObj w17 (Q + 1) (laidAt 0 (tcells XP))).heap[Q]? = _ := wr_other y17 (by omega)
  have z18 : (World.onObj w17 (Q + 1) (laidAt 0 (tcells XP))).heap[Q + 1]? = _ := wr_block z17
  have v18 : (World.onObj w17 (Q + 1) (laidAt 0 (tcells XP))).heap[Q + 1 + 1]? = _ := wr_other v17 (by omega)
  have C18 : Ch [] w (World.onObj w17 (Q + 1) (laidAt 0 (tcells XP))) := C17.onObj (.inr (by omega)) _
  have q18 : Ch [Q + 1] w17 (World.onObj w17 (Q + 1) (laidAt 0 (tcells XP))) := (Ch.refl _ _).onObj (.inl (by simp)) _
  clear q18
  clear t17 a17 h17 p17 y17 z17 v17 C17
  generalize (World.onObj w17 (Q + 1) (laidAt 0 (tcells XP))) = w18 at *
  clear o17
  go_wp2
  go_ret
  exact ⟨rfl, C18⟩
set_option maxHeartbeats 4000000 in
set_option maxRecDepth 100000 in
theorem lays_deep (t : Tab) (s : BitVec 64) (XA XP : Tab) (eP : Int) (ka : Option Addr) (kl kc : Nat) (L : List (BitVec 64 × BitVec 64)) (w : World)
    (hR : ∀ w, Calls Tryz.prog 14 #[U s, .agg (tcells t)] w fun e w' => e = .returned (.bool true) ∧ Ch [] w w')
    (hA : (∀ w, Calls Tryz.prog 11 #[U s, .agg (tcells t)] w fun e w' => e = .returned (.tuple #[.agg (tcells XA), I 0]) ∧ Ch [] w w'))
    (hH : (∀ w, Calls Tryz.prog 12 #[U s, .agg (tcells t)] w fun e w' => e = .returned (.tuple #[.agg (t2cells zeroT2), I 342]) ∧ Ch [] w w'))
    (hC : ∀ w', Ch [] w w' → Calls Tryz.prog 10 #[.slice ka (min kl 16) kc] w' fun e w'' => ∃ a' c', e = .returned (.slice a' L.length c') ∧ w''.ownsRow w'.heap.size 31 2 (.slice a' L.length c') L.length (pcells L) ∧ Ch [] w' w'')
    (hP : ∀ (w : World) a c base, w.ownsRow base 31 2 (.slice a L.length c) L.length (pcells L) → Calls Tryz.prog 13 #[U s, .agg (tcells t), .slice a L.length c] w fun e w' => e = .returned (.tuple #[.agg (tcells XP), I eP]) ∧ Ch [] w w')
    (hA' : (∀ w, Calls Tryz.prog 15 #[U s, .agg (tcells t)] w fun e w' => e = .returned (.agg (tcells XA)) ∧ Ch [] w w'))
    (hP' : ∀ (w : World) a c base, w.ownsRow base 31 2 (.slice a L.length c) L.length (pcells L) → Calls Tryz.prog 17 #[U s, .agg (tcells t), .slice a L.length c] w fun e w' => e = .returned (.tuple #[.agg (tcells XP), I eP]) ∧ Ch [] w w')
    (hd : 5 ≤ t.depth)
    (hkc : kl ≤ kc) (hkc2 : kc ≤ 9223372036854775807) (hkn : ka = none → kl = 0 ∧ kc = 0) :
    Calls Tryz.prog 3 #[U s, .agg (tcells t), .slice ka kl kc] w fun e w' => e = .returned (.bool true) ∧ Ch [] w w' := by
  have HC := Lib.hid hC
  have HKN := Lib.hid hkn
  clear hC hkn
  go_enter Tryz.func3, Tryz.ntmps3
  go_wp2_with fail
  refine (wakes_any _).mono ?_
  rintro e w1 ⟨rfl, hc1⟩
  have t1 := hkeep hc1 (show (w.alloc (.cells (tcells t) 26)).heap[w.heap.size]? = some (.cells (tcells t) 26 (0, 0)) by simp [go_sem])
  have C1 : Ch [] w w1 := ((Ch.refl [] w).alloc _).trans hc1
  obtain ⟨T0, hT0⟩ : ∃ T0, w.heap.size = T0 := ⟨_, rfl⟩
  rw [hT0] at t1 ⊢
  have HT0 := Lib.hid hT0
  clear hc1 hT0
  have hmin : min (kl : Int) 16 = ((min kl 16 : Nat) : Int) := by omega
  have hnn : min kl 16 ≤ kc := by omega
  generalize min kl 16 = nn at *
  go_wp2_with fail
  clear hmin
  refine (HC.out _ C1).mono ?_
  rintro e w2 ⟨a2, c2, rfl, o2, hc2⟩
  have t2 := hkeep (hc2) t1
  have C2 := C1.trans (hc2)
  clear t1 C1 hc2 HC HKN
  generalize L.length = ln at *
  go_wp2_with fail
  refine (hA _).mono ?_
  rintro e w3 ⟨rfl, hc3⟩
  have t3 := hkeep (hc3) t2
  have C3 := C2.trans (hc3)
  have o3 := own_ch o2 (hc3) (by simp)
  clear t2 C2 o2 hc3 hA
  have nt3 : ¬ T0 = w3.heap.size := by have := blk_lt t3; omega
  go_wp2_with fail
  clear nt3
  have t4 := hkeep (new_ch w3 zeroT XA) t3
  have C4 := C3.trans (new_ch w3 zeroT XA)
  have o4 := own_ch o3 (new_ch w3 zeroT XA) (by simp)
  have a4 := new_block w3 zeroT XA
  have xt := blk_lt t3
  clear t3 C3 o3
  generalize World.onObj (w3.alloc (.cells (tcells zeroT) 26)) w3.heap.size (laidAt 0 (tcells XA)) = w4 at *
  generalize w3.heap.size = BA at *
  have ltT0BA : T0 < BA := xt
  clear xt
  refine (hH _).mono ?_
  rintro e w5 ⟨rfl, hc5⟩
  have t5 := hkeep (hc5) t4
  have a5 := hkeep (hc5) a4
  have C5 := C4.trans (hc5)
  have o5 := own_ch o4 (hc5) (by simp)
  clear t4 a4 C4 o4 hc5 hH
  have nt5 : ¬ T0 = w5.heap.size := by have := blk_lt t5; omega
  have na5 : ¬ BA = w5.heap.size := by have := blk_lt a5; omega
  go_wp2_with fail
  clear nt5 na5
  have t6 := hkeep (new_ch2 w5 zeroT2 zeroT2) t5
  have a6 := hkeep (new_ch2 w5 zeroT2 zeroT2) a5
  have C6 := C5.trans (new_ch2 w5 zeroT2 zeroT2)
  have o6 := own_ch o5 (new_ch2 w5 zeroT2 zeroT2) (by simp)
  have h6 := t2_block w5 zeroT2 zeroT2
  have xt := blk_lt t5
  have xa := blk_lt a5
  clear t5 a5 C5 o5
  generalize World.onObj (w5.alloc (.cells (t2cells zeroT2) 35)) w5.heap.size (laidAt 0 (t2cells zeroT2)) = w6 at *
  generalize w5.heap.size = BH at *
  have ltT0BH : T0 < BH := xt
  clear xt
  have ltBABH : BA < BH := xa
  clear xa
  refine (hP _ _ _ _ o6).mono ?_
  rintro e w7 ⟨rfl, hc7⟩
  have t7 := hkeep (hc7) t6
  have a7 := hkeep (hc7) a6
  have h7 := hkeep (hc7) h6
  have C7 := C6.trans (hc7)
  have o7 := own_ch o6 (hc7) (by simp)
  clear t6 a6 h6 C6 o6 hc7 hP
  have nt7 : ¬ T0 = w7.heap.size := by have := blk_lt t7; omega
  have na7 : ¬ BA = w7.heap.size := by have := blk_lt a7; omega
  have nh7 : ¬ BH = w7.heap.size := by have := blk_lt h7; omega
  go_upto_region 7 with (fail)
  clear nt7 na7 nh7
  have t8 := hkeep (new_ch w7 zeroT XP) t7
  have a8 := hkeep (new_ch w7 zeroT XP) a7
  have h8 := hkeep (new_ch w7 zeroT XP) h7
  have C8 := C7.trans (new_ch w7 zeroT XP)
  have o8 := own_ch o7 (new_ch w7 zeroT XP) (by simp)
  have p8 := new_block w7 zeroT XP
  have xt := blk_lt t7
  have xa := blk_lt a7
  have xh := blk_lt h7
  clear t7 a7 h7 C7 o7
  generalize World.onObj (w7.alloc (.cells (tcells zeroT) 26)) w7.heap.size (laidAt 0 (tcells XP)) = w8 at *
  generalize w7.heap.size = BP at *
  have ltT0BP : T0 < BP := xt
  clear xt
  have ltBABP : BA < BP := xa
  clear xa
  have ltBHBP : BH < BP := xh
  clear xh
  have nt8 : ¬ T0 = w8.heap.size := by have := blk_lt t8; omega
  have na8 : ¬ BA = w8.heap.size := by have := blk_lt a8; omega
  have nh8 : ¬ BH = w8.heap.size := by have := blk_lt h8; omega
  have np8 : ¬ BP = w8.heap.size := by have := blk_lt p8; omega
  go_upto_region 9 with (fail)
  clear nt8 na8 nh8 np8
  have hc9 : Ch [] w8 (((w8.alloc (.cells (tcells zeroT) 26)).alloc (.cells (tcells zeroT) 26)).alloc (.cells (t2cells zeroT2) 35)) := (((Ch.refl [] w8).alloc _).alloc _).alloc _
  have t9 := hkeep (hc9) t8
  have a9 := hkeep (hc9) a8
  have h9 := hkeep (hc9) h8
  have p9 := hkeep (hc9) p8
  have C9 := C8.trans (hc9)
  have o9 := own_ch o8 (hc9) (by simp)
  have y9 : (((w8.alloc (.cells (tcells zeroT) 26)).alloc (.cells (tcells zeroT) 26)).alloc (.cells (t2cells zeroT2) 35)).heap[w8.heap.size]? = some (.cells (tcells zeroT) 26 (0, 0)) := by simp [go_sem]
  have z9 : (((w8.alloc (.cells (tcells zeroT) 26)).alloc (.cells (tcells zeroT) 26)).alloc (.cells (t2cells zeroT2) 35)).heap[w8.heap.size + 1]? = some (.cells (tcells zeroT) 26 (0, 0)) := by simp [go_sem]
  have v9 : (((w8.alloc (.cells (tcells zeroT) 26)).alloc (.cells (tcells zeroT) 26)).alloc (.cells (t2cells zeroT2) 35)).heap[w8.heap.size + 1 + 1]? = some (.cells (t2cells zeroT2) 35 (0, 0)) := by simp [go_sem]
  have xt := blk_lt t8
  have xa := blk_lt a8
  have xh := blk_lt h8
  have xp := blk_lt p8
  have wQ : w.heap.size ≤ w8.heap.size := C8.size
  have hoQ : Hid (∀ k, (Value.slice a2 ln c2).ownBlock = some k → k < w8.heap.size) := Lib.hid fun k hk => own_lt o8 hk
  clear t8 a8 h8 p8 C8 o8 hc9
  generalize (((w8.alloc (.cells (tcells zeroT) 26)).alloc (.cells (tcells zeroT) 26)).alloc (.cells (t2cells zeroT2) 35)) = w9 at *
  generalize w8.heap.size = Q at *
  have ltT0Q : T0 < Q := xt
  clear xt
  have ltBAQ : BA < Q := xa
  clear xa
  have ltBHQ : BH < Q := xh
  clear xh
  have ltBPQ : BP < Q := xp
  clear xp
  go_wp2_with fail
  refine (hR _).mono ?_
  rintro e w10 ⟨rfl, hc10⟩
  have t10 := hkeep (hc10) t9
  have a10 := hkeep (hc10) a9
  have h10 := hkeep (hc10) h9
  have p10 := hkeep (hc10) p9
  have y10 := hkeep (hc10) y9
  have z10 := hkeep (hc10) z9
  have v10 := hkeep (hc10) v9
  have C10 := C9.trans (hc10)
  have o10 := own_ch o9 (hc10) (by simp)
  clear t9 a9 h9 p9 y9 z9 v9 C9 o9 hc10 hR
  go_wp2_with fail
  refine (hA' _).mono ?_
  rintro e w11 ⟨rfl, hc11⟩
  have t11 := hkeep (hc11) t10
  have a11 := hkeep (hc11) a10
  have h11 := hkeep (hc11) h10
  have p11 := hkeep (hc11) p10
  have y11 := hkeep (hc11) y10
  have z11 := hkeep (hc11) z10
  have v11 := hkeep (hc11) v10
  have C11 := C10.trans (hc11)
  have o11 := own_ch o10 (hc11) (by simp)
  clear t10 a10 h10 p10 y10 z10 v10 C10 o10 hc11 hA'
  go_upto_region 12 with (fail)
  have t12 : (World.onObj w11 (Q) (laidAt 0 (tcells XA))).heap[T0]? = _ := wr_other t11 (by omega)
  have a12 : (World.onObj w11 (Q) (laidAt 0 (tcells XA))).heap[BA]? = _ := wr_other a11 (by omega)
  have h12 : (World.onObj w11 (Q) (laidAt 0 (tcells XA))).heap[BH]? = _ := wr_other h11 (by omega)
  have p12 : (World.onObj w11 (Q) (laidAt 0 (tcells XA))).heap[BP]? = _ := wr_other p11 (by omega)
  have y12 : (World.onObj w11 (Q) (laidAt 0 (tcells XA))).heap[Q]? = _ := wr_block y11
  have z12 : (World.onObj w11 (Q) (laidAt 0 (tcells XA))).heap[Q + 1]? = _ := wr_other z11 (by omega)
  have v12 : (World.onObj w11 (Q) (laidAt 0 (tcells XA))).heap[Q + 1 + 1]? = _ := wr_other v11 (by omega)
  have C12 : Ch [] w (World.onObj w11 (Q) (laidAt 0 (tcells XA))) := C11.onObj (.inr (by omega)) _
  have q12 : Ch [Q] w11 (World.onObj w11 (Q) (laidAt 0 (tcells XA))) := (Ch.refl _ _).onObj (.inl (by simp)) _
  have o12 := own_at o11 q12 (fun k hk => by have := hoQ.out k hk; omega)
  clear t11 a11 h11 p11 y11 z11 v11 C11 o11 q12
  generalize (World.onObj w11 (Q) (laidAt 0 (tcells XA))) = w12 at *
  go_wp2_with fail
  refine (hP' _ _ _ _ o12).mono ?_
  rintro e w13 ⟨rfl, hc13⟩
  have t13 := hkeep (hc13) t12
  have a13 := hkeep (hc13) a12
  have h13 := hkeep (hc13) h12
  have p13 := hkeep (hc13) p12
  have y13 := hkeep (hc13) y12
  have z13 := hkeep (hc13) z12
  have v13 := hkeep (hc13) v12
  have C13 := C12.trans (hc13)
  have o13 := own_ch o12 (hc13) (by simp)
  clear t12 a12 h12 p12 y12 z12 v12 C12 o12 hc13 hP'
  go_upto_region 16 with (fail)
  have t14 : (World.onObj w13 (Q + 1) (laidAt 0 (tcells XP))).heap[T0]? = _ := wr_other t13 (by omega)
  have a14 : (World.onObj w13 (Q + 1) (laidAt 0 (tcells XP))).heap[BA]? = _ := wr_other a13 (by omega)
  have h14 : (World.onObj w13 (Q + 1) (laidAt 0 (tcells XP))).heap[BH]? = _ := wr_other h13 (by omega)
  have p14 : (World.onObj w13 (Q + 1) (laidAt 0 (tcells XP))).heap[BP]? = _ := wr_other p13 (by omega)
  have y14 : (World.onObj w13 (Q + 1) (laidAt 0 (tcells XP))).heap[Q]? = _ := wr_other y13 (by omega)
  have z14 : (World.onObj w13 (Q + 1) (laidAt 0 (tcells XP))).heap[Q + 1]? = _ := wr_block z13
  have v14 : (World.onObj w13 (Q + 1) (laidAt 0 (tcells XP))).heap[Q + 1 + 1]? = _ := wr_other v13 (by omega)
  have C14 : Ch [] w (World.onObj w13 (Q + 1) (laidAt 0 (tcells XP))) := C13.onObj (.inr (by omega)) _
  have q14 : Ch [Q + 1] w13 (World.onObj w13 (Q + 1) (laidAt 0 (tcells XP))) := (Ch.refl _ _).onObj (.inl (by simp)) _
  clear q14
  clear t13 a13 h13 p13 y13 z13 v13 C13
  generalize (World.onObj w13 (Q + 1) (laidAt 0 (tcells XP))) = w14 at *
  clear o13
  go_wp2
  go_ret
  exact ⟨rfl, C14⟩
set_option maxHeartbeats 4000000 in
set_option maxRecDepth 100000 in
theorem lays_bad (t : Tab) (s : BitVec 64) (ka : Option Addr) (kl kc : Nat) (L : List (BitVec 64 × BitVec 64)) (w : World)
    (hR : ∀ w, Calls Tryz.prog 14 #[U s, .agg (tcells t)] w fun e w' => e = .returned (.bool false) ∧ Ch [] w w')
    (hA : (∀ w, Calls Tryz.prog 11 #[U s, .agg (tcells t)] w fun e w' => e = .returned (.tuple #[.agg (tcells zeroT), I 270]) ∧ Ch [] w w'))
    (hH : (∀ w, Calls Tryz.prog 12 #[U s, .agg (tcells t)] w fun e w' => e = .returned (.tuple #[.agg (t2cells zeroT2), I 270]) ∧ Ch [] w w'))
    (hC : ∀ w', Ch [] w w' → Calls Tryz.prog 10 #[.slice ka (min kl 16) kc] w' fun e w'' => ∃ a' c', e = .returned (.slice a' L.length c') ∧ w''.ownsRow w'.heap.size 31 2 (.slice a' L.length c') L.length (pcells L) ∧ Ch [] w' w'')
    (hP : ∀ (w : World) a c base, w.ownsRow base 31 2 (.slice a L.length c) L.length (pcells L) → Calls Tryz.prog 13 #[U s, .agg (tcells t), .slice a L.length c] w fun e w' => e = .returned (.tuple #[.agg (tcells zeroT), I 270]) ∧ Ch [] w w')
    (hkc : kl ≤ kc) (hkc2 : kc ≤ 9223372036854775807) (hkn : ka = none → kl = 0 ∧ kc = 0) :
    Calls Tryz.prog 3 #[U s, .agg (tcells t), .slice ka kl kc] w fun e w' => e = .returned (.bool true) ∧ Ch [] w w' := by
  have HC := Lib.hid hC
  have HKN := Lib.hid hkn
  clear hC hkn
  go_enter Tryz.func3, Tryz.ntmps3
  go_wp2_with fail
  refine (wakes_any _).mono ?_
  rintro e w1 ⟨rfl, hc1⟩
  have t1 := hkeep hc1 (show (w.alloc (.cells (tcells t) 26)).heap[w.heap.size]? = some (.cells (tcells t) 26 (0, 0)) by simp [go_sem])
  have C1 : Ch [] w w1 := ((Ch.refl [] w).alloc _).trans hc1
  obtain ⟨T0, hT0⟩ : ∃ T0, w.heap.size = T0 := ⟨_, rfl⟩
  rw [hT0] at t1 ⊢
  have HT0 := Lib.hid hT0
  clear hc1 hT0
  have hmin : min (kl : Int) 16 = ((min kl 16 : Nat) : Int) := by omega
  have hnn : min kl 16 ≤ kc := by omega
  generalize min kl 16 = nn at *
  go_wp2_with fail
  clear hmin
  refine (HC.out _ C1).mono ?_
  rintro e w2 ⟨a2, c2, rfl, o2, hc2⟩
  have t2 := hkeep (hc2) t1
  have C2 := C1.trans (hc2)
  clear t1 C1 hc2 HC HKN
  generalize L.length = ln at *
  go_wp2_with fail
  refine (hA _).mono ?_
  rintro e w3 ⟨rfl, hc3⟩
  have t3 := hkeep (hc3) t2
  have C3 := C2.trans (hc3)
  have o3 := own_ch o2 (hc3) (by simp)
  clear t2 C2 o2 hc3 hA
  have nt3 : ¬ T0 = w3.heap.size := by have := blk_lt t3; omega
  go_wp2_with fail
  clear nt3
  have t4 := hkeep (new_ch w3 zeroT zeroT) t3
  have C4 := C3.trans (new_ch w3 zeroT zeroT)
  have o4 := own_ch o3 (new_ch w3 zeroT zeroT) (by simp)
  have a4 := new_block w3 zeroT zeroT
  have xt := blk_lt t3
  clear t3 C3 o3
  generalize World.onObj (w3.alloc (.cells (tcells zeroT) 26)) w3.heap.size (laidAt 0 (tcells zeroT)) = w4 at *
  generalize w3.heap.size = BA at *
  have ltT0BA : T0 < BA := xt
  clear xt
  refine (hH _).mono ?_
  rintro e w5 ⟨rfl, hc5⟩
  have t5 := hkeep (hc5) t4
  have a5 := hkeep (hc5) a4
  have C5 := C4.trans (hc5)
  have o5 := own_ch o4 (hc5) (by simp)
  clear t4 a4 C4 o4 hc5 hH
  have nt5 : ¬ T0 = w5.heap.size := by have := blk_lt t5; omega
  have na5 : ¬ BA = w5.heap.size := by have := blk_lt a5; omega
  go_wp2_with fail
  clear nt5 na5
  have t6 := hkeep (new_ch2 w5 zeroT2 zeroT2) t5
  have a6 := hkeep (new_ch2 w5 zeroT2 zeroT2) a5
  have C6 := C5.trans (new_ch2 w5 zeroT2 zeroT2)
  have o6 := own_ch o5 (new_ch2 w5 zeroT2 zeroT2) (by simp)
  have h6 := t2_block w5 zeroT2 zeroT2
  have xt := blk_lt t5
  have xa := blk_lt a5
  clear t5 a5 C5 o5
  generalize World.onObj (w5.alloc (.cells (t2cells zeroT2) 35)) w5.heap.size (laidAt 0 (t2cells zeroT2)) = w6 at *
  generalize w5.heap.size = BH at *
  have ltT0BH : T0 < BH := xt
  clear xt
  have ltBABH : BA < BH := xa
  clear xa
  refine (hP _ _ _ _ o6).mono ?_
  rintro e w7 ⟨rfl, hc7⟩
  have t7 := hkeep (hc7) t6
  have a7 := hkeep (hc7) a6
  have h7 := hkeep (hc7) h6
  have C7 := C6.trans (hc7)
  have o7 := own_ch o6 (hc7) (by simp)
  clear t6 a6 h6 C6 o6 hc7 hP
  have nt7 : ¬ T0 = w7.heap.size := by have := blk_lt t7; omega
  have na7 : ¬ BA = w7.heap.size := by have := blk_lt a7; omega
  have nh7 : ¬ BH = w7.heap.size := by have := blk_lt h7; omega
  go_upto_region 7 with (fail)
  clear nt7 na7 nh7
  have t8 := hkeep (new_ch w7 zeroT zeroT) t7
  have a8 := hkeep (new_ch w7 zeroT zeroT) a7
  have h8 := hkeep (new_ch w7 zeroT zeroT) h7
  have C8 := C7.trans (new_ch w7 zeroT zeroT)
  have o8 := own_ch o7 (new_ch w7 zeroT zeroT) (by simp)
  have p8 := new_block w7 zeroT zeroT
  have xt := blk_lt t7
  have xa := blk_lt a7
  have xh := blk_lt h7
  clear t7 a7 h7 C7 o7
  generalize World.onObj (w7.alloc (.cells (tcells zeroT) 26)) w7.heap.size (laidAt 0 (tcells zeroT)) = w8 at *
  generalize w7.heap.size = BP at *
  have ltT0BP : T0 < BP := xt
  clear xt
  have ltBABP : BA < BP := xa
  clear xa
  have ltBHBP : BH < BP := xh
  clear xh
  have nt8 : ¬ T0 = w8.heap.size := by have := blk_lt t8; omega
  have na8 : ¬ BA = w8.heap.size := by have := blk_lt a8; omega
  have nh8 : ¬ BH = w8.heap.size := by have := blk_lt h8; omega
  have np8 : ¬ BP = w8.heap.size := by have := blk_lt p8; omega
  go_upto_region 9 with (fail)
  clear nt8 na8 nh8 np8
  have hc9 : Ch [] w8 (((w8.alloc (.cells (tcells zeroT) 26)).alloc (.cells (tcells zeroT) 26)).alloc (.cells (t2cells zeroT2) 35)) := (((Ch.refl [] w8).alloc _).alloc _).alloc _
  have t9 := hkeep (hc9) t8
  have a9 := hkeep (hc9) a8
  have h9 := hkeep (hc9) h8
  have p9 := hkeep (hc9) p8
  have C9 := C8.trans (hc9)
  have o9 := own_ch o8 (hc9) (by simp)
  have y9 : (((w8.alloc (.cells (tcells zeroT) 26)).alloc (.cells (tcells zeroT) 26)).alloc (.cells (t2cells zeroT2) 35)).heap[w8.heap.size]? = some (.cells (tcells zeroT) 26 (0, 0)) := by simp [go_sem]
  have z9 : (((w8.alloc (.cells (tcells zeroT) 26)).alloc (.cells (tcells zeroT) 26)).alloc (.cells (t2cells zeroT2) 35)).heap[w8.heap.size + 1]? = some (.cells (tcells zeroT) 26 (0, 0)) := by simp [go_sem]
  have v9 : (((w8.alloc (.cells (tcells zeroT) 26)).alloc (.cells (tcells zeroT) 26)).alloc (.cells (t2cells zeroT2) 35)).heap[w8.heap.size + 1 + 1]? = some (.cells (t2cells zeroT2) 35 (0, 0)) := by simp [go_sem]
  have xt := blk_lt t8
  have xa := blk_lt a8
  have xh := blk_lt h8
  have xp := blk_lt p8
  have wQ : w.heap.size ≤ w8.heap.size := C8.size
  have hoQ : Hid (∀ k, (Value.slice a2 ln c2).ownBlock = some k → k < w8.heap.size) := Lib.hid fun k hk => own_lt o8 hk
  clear t8 a8 h8 p8 C8 o8 hc9
  generalize (((w8.alloc (.cells (tcells zeroT) 26)).alloc (.cells (tcells zeroT) 26)).alloc (.cells (t2cells zeroT2) 35)) = w9 at *
  generalize w8.heap.size = Q at *
  have ltT0Q : T0 < Q := xt
  clear xt
  have ltBAQ : BA < Q := xa
  clear xa
  have ltBHQ : BH < Q := xh
  clear xh
  have ltBPQ : BP < Q := xp
  clear xp
  go_wp2_with fail
  refine (hR _).mono ?_
  rintro e w10 ⟨rfl, hc10⟩
  have t10 := hkeep (hc10) t9
  have a10 := hkeep (hc10) a9
  have h10 := hkeep (hc10) h9
  have p10 := hkeep (hc10) p9
  have y10 := hkeep (hc10) y9
  have z10 := hkeep (hc10) z9
  have v10 := hkeep (hc10) v9
  have C10 := C9.trans (hc10)
  have o10 := own_ch o9 (hc10) (by simp)
  clear t9 a9 h9 p9 y9 z9 v9 C9 o9 hc10 hR
  go_wp2
  go_ret
  exact ⟨rfl, C10⟩
end Go.Proofs.Hc
/- Law 17, TableLays. -/
namespace Go.Proofs.Hc
open Go.RowKit
theorem PairsIn.ch {w w' : World} {a : Option Addr} {n : Nat} {ps : Nat → BitVec 64 × BitVec 64} (h : PairsIn w a n ps) (c : Ch [] w w') {k : Nat} (hk : k ≤ n) : PairsIn w' a k ps := fun j hj => by
  obtain ⟨kb, ko, h1, h2, h3⟩ := h j (by omega)
  exact ⟨kb, ko, h1, by have := c.size; omega, by rw [c.block kb h2 (by simp)]; exact h3⟩
theorem puts_own (t : Tab) (s : BitVec 64) (l : List (BitVec 64 × BitVec 64)) (hl : l.length ≤ 900) (w : World) (a : Option Addr) (c base : Nat) (h : w.ownsRow base 31 2 (.slice a l.length c) l.length (pcells l)) :
    Calls Tryz.prog 13 #[U s, .agg (tcells t), .slice a l.length c] w fun e w' => e = .returned (tupOr (fun v => .agg (tcells v)) (.agg (tcells zeroT)) (ifMay t s (laidT s t l))) ∧ Ch [] w w' := by
  obtain ⟨cur, h1, h2, h3⟩ := pairs_at rfl h
  exact Puts_any t s l a c cur w hl h1 h2 (fun r hr => (h3 r hr).2)
theorem rputs_own (t : Tab) (s : BitVec 64) (m : May t s) (l : List (BitVec 64 × BitVec 64)) (hl : l.length ≤ 900) (w : World) (a : Option Addr) (c base : Nat) (h : w.ownsRow base 31 2 (.slice a l.length c) l.length (pcells l)) :
    Calls Tryz.prog 17 #[U s, .agg (tcells t), .slice a l.length c] w fun e w' => e = .returned (tupOr (fun v => .agg (tcells v)) (.agg (tcells zeroT)) (laidT s t l)) ∧ Ch [] w w' := by
  obtain ⟨cur, h1, h2, h3⟩ := pairs_at rfl h
  exact rPuts_any t s l a c cur w m hl h1 h2 (fun r hr => (h3 r hr).2)
theorem laysLaw (t : Tab) (s : BitVec 64) (ka : Option Addr) (kl kc : Nat) (ps : Nat → BitVec 64 × BitVec 64) (w : World) (hkc : kl ≤ kc) (hkc2 : kc ≤ 9223372036854775807) (hkn : ka = none → kl = 0 ∧ kc = 0) (hk : PairsIn w ka kl ps) :
    Calls Tryz.prog 3 #[U s, .agg (tcells t), .slice ka kl kc] w fun e w' => e = .returned (.bool true) ∧ Ch [] w w' := by
  obtain ⟨L, hL⟩ : ∃ L, frontP ps (min kl 16) = L := ⟨_, rfl⟩
  have hlen : L.length = min kl 16 := by rw [← hL, frontP_len]
  have hl9 : L.length ≤ 900 := by omega
  have hC : ∀ w', Ch [] w w' → Calls Tryz.prog 10 #[.slice ka (min kl 16) kc] w' fun e w'' => ∃ a' c', e = .returned (.slice a' L.length c') ∧ w''.ownsRow w'.heap.size 31 2 (.slice a' L.length c') L.length (pcells L) ∧ Ch [] w' w'' := by
    intro w' c
    have := clone_in ka (min kl 16) kc ps w' (hk.ch c (by omega)) (fun h => by have := hkn h; omega) (by omega)
    rw [hL, ← hlen] at this
    rw [← hlen]
    exact this
  cases hm : mayT t s with
  | false =>
    refine lays_bad t s ka kl kc L w ?_ ?_ ?_ hC ?_ hkc hkc2 hkn
    · intro w; have := rRight_any t s w; rw [hm] at this; exact this
    · intro w
      have := Anew_any t s w
      rw [ifMay, hm, if_neg (by decide)] at this
      exact this
    · intro w
      have := Halves_is t s w
      rw [ifMay, hm, if_neg (by decide)] at this
      exact this
    · intro w a c base h
      have := puts_own t s L hl9 w a c base h
      rw [ifMay, hm, if_neg (by decide)] at this
      exact this
  | true =>
    have m := (may_iff t s).1 hm
    obtain ⟨X, hX⟩ := anew_ok m
    obtain ⟨y, e0, htup⟩ := tup26 (laidT s t L)
    have hR : ∀ w, Calls Tryz.prog 14 #[U s, .agg (tcells t)] w fun e w' => e = .returned (.bool true) ∧ Ch [] w w' := by
      intro w; have := rRight_any t s w; rw [hm] at this; exact this
    have hA : ∀ w, Calls Tryz.prog 11 #[U s, .agg (tcells t)] w fun e w' => e = .returned (.tuple #[.agg (tcells X), I 0]) ∧ Ch [] w w' := by
      intro w
      have := Anew_any t s w
      rw [ifMay, if_pos hm, anewT, hX.eq] at this
      exact this
    have hP : ∀ (w : World) a c base, w.ownsRow base 31 2 (.slice a L.length c) L.length (pcells L) → Calls Tryz.prog 13 #[U s, .agg (tcells t), .slice a L.length c] w fun e w' => e = .returned (.tuple #[.agg (tcells y), I e0]) ∧ Ch [] w w' := by
      intro w a c base h
      have := puts_own t s L hl9 w a c base h
      rw [ifMay, if_pos hm, htup] at this
      exact this
    have hP' : ∀ (w : World) a c base, w.ownsRow base 31 2 (.slice a L.length c) L.length (pcells L) → Calls Tryz.prog 17 #[U s, .agg (tcells t), .slice a L.length c] w fun e w' => e = .returned (.tuple #[.agg (tcells y), I e0]) ∧ Ch [] w w' := by
      intro w a c base h
      have := rputs_own t s m L hl9 w a c base h
      rw [htup] at this
      exact this
    have hA' := fun w => rAnew_any t X s m hX.eq w
    by_cases hd : t.depth < 5
    · refine lays_half t s X y e0 (halfX t s 0) (halfX t s 1) ka kl kc L w hR hA ?_ hC hP hA' hP' ?_ ?_ hd hkc hkc2 hkn
      · intro w
        have := Halves_is t s w
        rw [ifMay, if_pos hm, halvesE, decide_eq_true hd, if_pos rfl] at this
        exact this
      · exact fun w => rHalf_any t (halfX t s 0) s 0 (by omega) m hd (halfX_eq hm hd 0 (by omega)) w
      · exact fun w => rHalf_any t (halfX t s 1) s 1 (by omega) m hd (halfX_eq hm hd 1 (by omega)) w
    · refine lays_deep t s X y e0 ka kl kc L w hR hA ?_ hC hP hA' hP' (by omega) hkc hkc2 hkn
      intro w
      have := Halves_is t s w
      rw [ifMay, if_pos hm, halvesE, decide_eq_false hd, if_neg (by decide)] at this
      exact this
end Go.Proofs.Hc
