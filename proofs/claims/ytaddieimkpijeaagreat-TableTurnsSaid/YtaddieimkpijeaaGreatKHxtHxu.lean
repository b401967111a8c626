/- The reference of layer 17: Pairs. -/
import Derived.Test.YtaddieimkpijeaaGreatKHxrHxs
import Derived.Test.YtaddieimkpijeaaGreatKHscHapHcl
set_option linter.unusedSimpArgs false
set_option linter.unusedVariables false
namespace Go.Proofs.Hc
open Go.RowKit
attribute [local go_sem] wrap_u64 wrap_u8 bits_xor64 bits_and64 bits_or64 bits_not64 bits_xor8 bits_and8 bits_or8 signed64 signed8 ofInt_N BitVec.ofInt_add BitVec.ofInt_mul ofInt_sub' ofInt8_N64 ofInt64_N8 wide8 eqN neN shr_pow shr1 shr7 shr56
attribute [local go_sem high] bits_com64 shl_wrap
attribute [local go_sem] cell_heap ice_heap cellAt_cells iceAt_cells setAt_cells rowAt_cells canLay_cells laidAt_cells size_onObj size_setCell rowRes_some layRes_true
attribute [local go_sem] load26 load73 load23 store26 build73
attribute [local go_sem ↓] lrow26 lrow73 lrow23 srow26 zero26 brow73 heap_alloc heap_drew heap_drewN heap_setCell heap_onObj
attribute [local go_sem] tcells_size hcells_size tcells_get hcells_get tcells_one hcells_one hcells_table tcells_table hcells_all hcells_ctrl tcells_ctrl
attribute [local go_sem] nn2 nm2 nn3 nm3 nn4 nm4 nn5 nm5 nn6 nm6 nn7 nm7 nn8 nm8
attribute [local go_sem] loadA loadT2 storeA storeT2 buildA_ts buildA_sm assert_errno make_func acells_size t2cells_size acells_get t2cells_get acells_one t2cells_one acells_table acells_all t2cells_all t2cells_l t2cells_r
attribute [local go_sem ↓] lrowA lrowT2 srowA srowT2 browA zeroA_run zeroT2_run
attribute [local go_sem] nn2 nm2 nn3 nm3 nn4 nm4 nn5 nm5 nn6 nm6 nn7 nm7 nn8 nm8
attribute [local go_sem] box26 tcells_idx cell0 cell1 cell2 cell3 cell4 cell5 cell6
attribute [local go_sem] ofInt_N build_pair
attribute [local irreducible] tcells
/-- What the first j slots have. -/
def pl (t : Tab) (j : Nat) : List (BitVec 64 × BitVec 64) := ((List.range j).filter (fullJ t)).map fun i => (t.k i, t.v i)
theorem pl_all (t : Tab) : pl t 16 = pairsT t := (pairsT_eq t).symm
theorem pl_succ (t : Tab) (j : Nat) : pl t (j + 1) = pl t j ++ if fullJ t j = true then [(t.k j, t.v j)] else [] := by
  rw [pl, List.range_succ, List.filter_append, List.map_append, pl, List.filter_cons]
  split <;> rfl
theorem pl_len (t : Tab) (j : Nat) : (pl t j).length ≤ j := by
  rw [pl, List.length_map]
  have := List.length_filter_le (fullJ t) (List.range j)
  rwa [List.length_range] at this
theorem append_pair1 (W : World) (base n : Nat) (v : Value) (xs : List Value) (hown : W.ownsRow base 31 2 v n xs) (k x : BitVec 64) (hn : n ≤ 900) (hbase : base ≤ W.heap.size) :
    ∃ v' w', (Builtin.append_ #[27, 27] 27 #[v, .slice (some ⟨W.heap.size, 0, none⟩) 1 1]).run Tryz.prog (W.alloc (.cells #[U k, U x] 31)) = .ok v' w' ∧ w'.ownsRow base 31 2 v' (n + 1) (xs ++ [U k, U x]) ∧ Ch (v.ownBlock.toList) W w' := by
  obtain ⟨i0, hi, hz0, hz1, hz2⟩ := info_parts infoP
  obtain ⟨v', w1, hrun, hown', hgrow, _, _⟩ := run_append_own_at (P := Tryz.prog) (W.alloc (.cells #[U k, U x] 31)) base 27 27 31 i0 (.agg #[.int .u64 0, .int .u64 0]) 2 16 Tryz.underlying27 hi hz0 hz1 hz2 rfl (by decide) v n xs (hown.alloc _) ⟨W.heap.size, 0, none⟩ 1 1 [U k, U x] rfl (cell_two_new W _ _ _) (by simp [Value.oneCell']) (by unfold maxLen; omega) (by omega) (by simp; omega)
  refine ⟨v', w1, hrun, hown', ?_⟩
  have hgr : (W.alloc (.cells #[U k, U x] 31)).grownBy w1 v.ownBlock := hgrow
  exact (((Ch.refl [] W).alloc _).of_nil).trans2 (Ch.of_grown (S := v.ownBlock.toList) hgr (fun k hk => by simp [hk])) (fun t ht => .inl ht)
theorem own_base {W : World} {b b' n size : Nat} {e : TypeId} {v : Value} {xs : List Value} (hb : b' ≤ b) (h : W.ownsRow b e size v n xs) : W.ownsRow b' e size v n xs := by
  obtain ⟨h1, h2 | ⟨g, cap, cur, hv, hg, hr⟩⟩ := h
  · exact ⟨h1, .inl h2⟩
  · exact ⟨h1, .inr ⟨g, cap, cur, hv, Nat.le_trans hb hg, hr⟩⟩
set_option maxHeartbeats 1000000 in
set_option maxRecDepth 100000 in
theorem rPairs_any (t : Tab) (w : World) : Calls Tryz.prog 27 #[.agg (tcells t)] w (PairsPost w (pairsT t)) := by
  obtain ⟨W0, hW0⟩ : ∃ W0, w.alloc (.cells (tcells t) 26) = W0 := ⟨_, rfl⟩
  have hC0 : Ch [] w W0 := by rw [← hW0]; exact (Ch.refl [] w).alloc _
  have b0 : W0.heap[w.heap.size]? = some (.cells (tcells t) 26 (0, 0)) := by rw [← hW0]; simp [go_sem]
  have hz0 := hC0.size
  go_enter Tryz.func27, Tryz.ntmps27
  go_wp2
  clear hW0
  go_loopw [3, 5] (fun v i wr => ∃ j : Nat, i = .int .i64 j ∧ j ≤ 16 ∧ wr.ownsRow W0.heap.size 31 2 v (pl t j).length (pcells (pl t j)) ∧ Ch [] W0 wr) (fun _ i _ => 16 - (intOf i).toNat)
  case atStart => exact ⟨0, rfl, by omega, World.ownsRow_nil _ _ _ _, Ch.refl _ _⟩
  case round =>
    obtain ⟨j, hj, hj8, hown, hcr⟩ := hrel
    subst hj
    have hB := hkeep hcr b0
    by_cases hlt : j < 16
    · have F1 := fun w => rFull_any t j hlt w
      have hkey := tcells_key t j hlt
      have hval := tcells_val t j hlt
      have HS := Lib.hid (pl_succ t j)
      have hpl := pl_len t j
      have hz := hcr.size
      generalize t.k j = kj at *
      generalize t.v j = vj at *
      generalize fullJ t j = f at *
      cases f
      · go_wp2_with (go_at_call 67; refine (F1 _).mono ?_; rintro e w3 ⟨rfl, hcf⟩; have HCF := Lib.hid hcf; clear hcf)
        go_roundw
        case rel => exact ⟨j + 1, by go_num, hlt, by rw [HS.out]; simpa using own_ch hown HCF.out (by simp), hcr.trans HCF.out⟩
        case measure => simp [intOf]; omega
      · go_wp2_with (go_at_call 67; refine (F1 _).mono ?_; rintro e w3 ⟨rfl, hcf⟩; have HCF := Lib.hid hcf; have b3 := hkeep hcf hB; clear hcf)
        have own3 := own_ch hown HCF.out (by simp)
        have hz3 := HCF.out.size
        have hob := own_block hown
        clear hown hB
        have hne : ∀ w7, Ch (u3.ownBlock.toList) w3.drew w7 → w7.heap[w.heap.size]? = some (.cells (tcells t) 26 (0, 0)) := fun w7 c => (c.block _ (Array.getElem?_eq_some_iff.1 b3).1 (fun h => by
          have h1 := hob w.heap.size (by simpa using h)
          have h2 := (Array.getElem?_eq_some_iff.1 b0).1
          omega)).trans b3
        have HNE := Lib.hid hne
        clear hne
        have hS : (fun W' : World => W'.heap[w.heap.size]? = some (.cells (tcells t) 26 (0, 0))) w3.drew := b3
        refine wp_region_held_drew (S := fun W' => W'.heap[w.heap.size]? = some (.cells (tcells t) 26 (0, 0))) (by kernel_rfl) hS ?_
        intro _
        simp only [List.size_toArray, List.length_cons, List.length_nil, Nat.reduceAdd]
        have own6 := own_ch own3 (Ch.refl [] w3).drew (by simp)
        have hz6 : w3.heap.size ≤ w3.drew.heap.size := Nat.le_refl _
        have hc6 : Ch [] w3 w3.drew := (Ch.refl [] w3).drew
        have c3 : w3.drew.heap[w.heap.size]? = some (.cells (tcells t) 26 (0, 0)) := b3
        clear own3 b3
        generalize w3.drew = W6 at *
        obtain ⟨v', w7, hrun, own7, hc7⟩ := append_pair1 W6 W0.heap.size _ u3 _ own6 kj vj (by omega) (by omega)
        clear own6
        refine wpAnyH_take (i := 0) (oi := ⟨some 11, _, _, _, _, none⟩) (v := ?_) rfl (by kernel_rfl) (by kernel_rfl) (by kernel_rfl) (fun _ _ _ h => h) (Or.inl ⟨by rfl, ?_⟩) hS ?_
        rotate_left
        · intro wq hSq
          first | (go_simp; done) | (go_simp; with_reducible rfl)
        try simp only [Act.put, List.setIfInBounds_toArray, List.set_cons_zero, List.set_cons_succ]
        refine wpAnyH_take (i := 1) (oi := ⟨some 12, _, _, _, _, none⟩) (v := ?_) rfl (by kernel_rfl) (by kernel_rfl) (by kernel_rfl) (fun _ _ _ h => h) (Or.inl ⟨by rfl, ?_⟩) hS ?_
        rotate_left
        · intro wq hSq
          first | (go_simp; done) | (go_simp; with_reducible rfl)
        try simp only [Act.put, List.setIfInBounds_toArray, List.set_cons_zero, List.set_cons_succ]
        refine wpAnyH_take (i := 2) (oi := ⟨some 13, _, _, _, _, none⟩) (v := ?_) rfl (by kernel_rfl) (by kernel_rfl) (by kernel_rfl) (fun _ _ _ h => h) (Or.inl ⟨by rfl, ?_⟩) hS ?_
        rotate_left
        · intro wq hSq
          first | (go_simp; done) | (go_simp; with_reducible rfl)
        try simp only [Act.put, List.setIfInBounds_toArray, List.set_cons_zero, List.set_cons_succ]
        refine wpAnyH_take (i := 3) (oi := ⟨some 14, _, _, _, _, none⟩) (v := ?_) rfl (by kernel_rfl) (by kernel_rfl) (by kernel_rfl) (fun _ _ _ h => h) (Or.inl ⟨by rfl, ?_⟩) hS ?_
        rotate_left
        · intro wq hSq
          first | (go_simp; done) | (go_simp; with_reducible rfl)
        try simp only [Act.put, List.setIfInBounds_toArray, List.set_cons_zero, List.set_cons_succ]
        refine wpAnyH_take (i := 4) (oi := ⟨some 15, _, _, _, _, none⟩) (v := ?_) rfl (by kernel_rfl) (by kernel_rfl) (by kernel_rfl) (fun _ _ _ h => h) (Or.inl ⟨by rfl, ?_⟩) hS ?_
        rotate_left
        · intro wq hSq
          first | (go_simp; done) | (go_simp; with_reducible rfl)
        try simp only [Act.put, List.setIfInBounds_toArray, List.set_cons_zero, List.set_cons_succ]
        refine wpAnyH_take (i := 5) (oi := ⟨some 16, _, _, _, _, none⟩) (v := ?_) rfl (by kernel_rfl) (by kernel_rfl) (by kernel_rfl) (fun _ _ _ h => h) (Or.inl ⟨by rfl, ?_⟩) hS ?_
        rotate_left
        · intro wq hSq
          first | (go_simp; done) | (go_simp; with_reducible rfl)
        try simp only [Act.put, List.setIfInBounds_toArray, List.set_cons_zero, List.set_cons_succ]
        refine wpAnyH_take (i := 6) (oi := ⟨some 17, _, _, _, _, none⟩) (v := ?_) rfl (by kernel_rfl) (by kernel_rfl) (by kernel_rfl) (fun _ _ _ h => h) (Or.inl ⟨by rfl, ?_⟩) hS ?_
        rotate_left
        · intro wq hSq
          first | (go_simp; done) | (go_simp; with_reducible rfl)
        try simp only [Act.put, List.setIfInBounds_toArray, List.set_cons_zero, List.set_cons_succ]
        refine wpAnyH_take (i := 7) (oi := ⟨some 18, _, _, _, _, none⟩) (v := ?_) rfl (by kernel_rfl) (by kernel_rfl) (by kernel_rfl) (fun _ _ _ h => h) (Or.inl ⟨by rfl, ?_⟩) hS ?_
        rotate_left
        · intro wq hSq
          first | (go_simp; done) | (go_simp; with_reducible rfl)
        try simp only [Act.put, List.setIfInBounds_toArray, List.set_cons_zero, List.set_cons_succ]
        refine wpAnyH_take (i := 8) (oi := ⟨some 19, _, _, _, _, none⟩) (v := ?_) rfl (by kernel_rfl) (by kernel_rfl) (by kernel_rfl) (fun _ _ _ h => h) (Or.inl ⟨by rfl, ?_⟩) hS ?_
        rotate_left
        · intro wq hSq
          first | (go_simp; done) | (go_simp; with_reducible rfl)
        try simp only [Act.put, List.setIfInBounds_toArray, List.set_cons_zero, List.set_cons_succ]
        refine wpAnyH_take (i := 9) (oi := ⟨some 20, _, _, _, _, none⟩) (v := ?_) rfl (by kernel_rfl) (by kernel_rfl) (by kernel_rfl) (fun _ _ _ h => h) (Or.inl ⟨by rfl, ?_⟩) hS ?_
        rotate_left
        · intro wq hSq
          first | (go_simp; done) | (go_simp; with_reducible rfl)
        try simp only [Act.put, List.setIfInBounds_toArray, List.set_cons_zero, List.set_cons_succ]
        refine wpAnyH_ready (rs := [10]) (by kernel_rfl) (by simp) ?_
        refine AllReadyH.cons (o := ⟨some 21, _, _, _, _, none⟩) rfl (fun K hK => ?_) AllReadyH.nil
        go_simp
        refine hK.out _ _ (hkeep ((Ch.refl [] W6).alloc _) c3) (fun _ => ?_)
        clear hK K
        refine wpAnyH_ready (rs := [11]) (by kernel_rfl) (by simp) ?_
        refine AllReadyH.cons (o := ⟨some 22, .call { callee := .builtin .append, args := #[.tmp 11, .tmp 21], argTypes := #[27, 27] }, 27, _, _, none⟩) rfl (fun K2 hK2 => ?_) AllReadyH.nil
        rw [if_pos (by rfl)]
        refine wp_append_at _ (.tmp 11) (.tmp 21) 27 rfl u3 _ v' w7 rfl rfl hrun ?_
        simp only [Act.put, List.setIfInBounds_toArray, List.set_cons_zero, List.set_cons_succ]
        have c7 := HNE.out w7 hc7
        refine hK2.out _ _ c7 (fun _ => ?_)
        clear hK2 K2
        refine wpAnyH_take (i := 12) (oi := ⟨some 3, _, _, _, _, none⟩) (v := ?_) rfl (by kernel_rfl) (by kernel_rfl) (by kernel_rfl) (fun _ _ _ h => h) (Or.inl ⟨by rfl, ?_⟩) c7 ?_
        rotate_left
        · intro wq hSq
          first | (go_simp; done) | (go_simp; with_reducible rfl)
        try simp only [Act.put, List.setIfInBounds_toArray, List.set_cons_zero, List.set_cons_succ]
        refine wpAnyH_done (by kernel_rfl) ?_ _
        clear hrun c3
        go_wp2
        go_roundw
        case rel =>
          refine ⟨j + 1, by go_num, hlt, ?_, (hcr.trans (HCF.out.trans hc6)).trans2 hc7 (fun s hs => .inr (hob s (by simpa using hs)))⟩
          rw [HS.out, if_pos (by first | trivial | rfl), List.length_append, pcells_append]
          exact own7
        case measure => simp [intOf]; omega
    · have hj8 : j = 16 := by omega
      subst hj8
      rw [pl_all] at hown
      have HO := Lib.hid hown
      obtain ⟨a, c, rfl⟩ := own_form hown
      clear hown
      go_wp2
      go_ret
      exact ⟨a, c, rfl, own_base hz0 HO.out, hC0.trans hcr⟩
end Go.Proofs.Hc
/- The reference of layer 17: Puts. -/
namespace Go.Proofs.Hc
open Go.RowKit
attribute [local go_sem] wrap_u64 wrap_u8 bits_xor64 bits_and64 bits_or64 bits_not64 bits_xor8 bits_and8 bits_or8 signed64 signed8 ofInt_N BitVec.ofInt_add BitVec.ofInt_mul ofInt_sub' ofInt8_N64 ofInt64_N8 wide8 eqN neN shr_pow shr1 shr7 shr56
attribute [local go_sem high] bits_com64 shl_wrap
attribute [local go_sem] cell_heap ice_heap cellAt_cells iceAt_cells setAt_cells rowAt_cells canLay_cells laidAt_cells size_onObj size_setCell rowRes_some layRes_true
attribute [local go_sem] load26 load73 load23 store26 build73
attribute [local go_sem ↓] lrow26 lrow73 lrow23 srow26 zero26 brow73 heap_alloc heap_drew heap_drewN heap_setCell heap_onObj
attribute [local go_sem] tcells_size hcells_size tcells_get hcells_get tcells_one hcells_one hcells_table tcells_table hcells_all hcells_ctrl tcells_ctrl
attribute [local go_sem] nn2 nm2 nn3 nm3 nn4 nm4 nn5 nm5 nn6 nm6 nn7 nm7 nn8 nm8
attribute [local go_sem] loadA loadT2 storeA storeT2 buildA_ts buildA_sm assert_errno make_func acells_size t2cells_size acells_get t2cells_get acells_one t2cells_one acells_table acells_all t2cells_all t2cells_l t2cells_r
attribute [local go_sem ↓] lrowA lrowT2 srowA srowT2 browA zeroA_run zeroT2_run
attribute [local go_sem] nn2 nm2 nn3 nm3 nn4 nm4 nn5 nm5 nn6 nm6 nn7 nm7 nn8 nm8
attribute [local go_sem] box26 tcells_idx cell0 cell1 cell2 cell3 cell4 cell5 cell6
attribute [local go_sem] ofInt_N build_zero
attribute [local go_sem] loadP storeP allOne_pair
attribute [local go_sem ↓] lrowP srowP zeroP brow26
attribute [local go_sem high] laidAt_t laidAt_p
attribute [local irreducible] tcells
theorem place_err_ne {t : Tab} {s k : BitVec 64} {c : Int} (hP : placeT t s k = .error c) : (c != 0) = true := by
  rcases place_cases t s k with ⟨_, h⟩ | ⟨_, _, h⟩ | ⟨_, _, h⟩ | ⟨_, _, sl, h⟩
  all_goals
    rw [hP] at h
    first | (cases h; done) | (cases h; decide)
theorem pair_block (W : World) (a b x y : Value) : (World.onObj (W.alloc (.cells #[a, b] 31)) W.heap.size (laidAt 0 #[x, y])).heap[W.heap.size]? = some (.cells #[x, y] 31 (0, 0)) := by
  rw [heap_onObj, if_pos rfl, heap_alloc, if_pos rfl, Option.map_some, laidAt_p]
theorem pair_ch (W : World) (a b x y : Value) : Ch [] W (World.onObj (W.alloc (.cells #[a, b] 31)) W.heap.size (laidAt 0 #[x, y])) := ((Ch.refl [] W).alloc _).onObj (.inr (Nat.le_refl _)) _
theorem tab_block (W : World) (a b : Tab) : (World.onObj (W.alloc (.cells (tcells a) 26)) W.heap.size (laidAt 0 (tcells b))).heap[W.heap.size]? = some (.cells (tcells b) 26 (0, 0)) := by
  rw [heap_onObj, if_pos rfl, heap_alloc, if_pos rfl, Option.map_some, laidAt_t]
theorem tab_ch (W : World) (a b : Tab) : Ch [] W (World.onObj (W.alloc (.cells (tcells a) 26)) W.heap.size (laidAt 0 (tcells b))) := ((Ch.refl [] W).alloc _).onObj (.inr (Nat.le_refl _)) _
theorem rPut_no {a : Tab} {s k v : BitVec 64} {c : Int} (m : May a s) (h : placeT a s k = .error c) (w : World) : Calls Tryz.prog 23 #[U s, .agg (tcells a), .agg #[U k, U v]] w fun e w' => e = .returned (.tuple #[.agg (tcells zeroT), I 0, I c]) ∧ Ch [] w w' := rPut_err a s k v c m h w
set_option maxHeartbeats 2000000 in
set_option maxRecDepth 100000 in
theorem rPuts_any (t : Tab) (s : BitVec 64) (l : List (BitVec 64 × BitVec 64)) (a : Option Addr) (c : Nat) (cur : Array Value) (w : World) (m0 : May t s) (hn : l.length ≤ 900)
    (hp : PairsAt cur l) (ha : 0 < l.length → ∃ r, a = some ⟨r, 0, none⟩) (hr : ∀ r, a = some ⟨r, 0, none⟩ → w.heap[r]? = some (.cells cur 31 (0, 0))) :
    Calls Tryz.prog 17 #[U s, .agg (tcells t), .slice a l.length c] w fun e w' => e = .returned (tupOr (fun v => .agg (tcells v)) (.agg (tcells zeroT)) (laidT s t l)) ∧ Ch [] w w' := by
  have HR := Lib.hid hr
  have HA := Lib.hid ha
  have HP := Lib.hid hp
  clear hr ha hp
  obtain ⟨W0, hW0⟩ : ∃ W0, (w.alloc (.cells (tcells t) 26)).alloc (.cells (tcells zeroT) 26) = W0 := ⟨_, rfl⟩
  have hC0 : Ch [] w W0 := by rw [← hW0]; exact ((Ch.refl [] w).alloc _).alloc _
  have b0 : W0.heap[w.heap.size]? = some (.cells (tcells t) 26 (0, 0)) := by rw [← hW0]; simp [go_sem]
  have b1 : W0.heap[w.heap.size + 1]? = some (.cells (tcells zeroT) 26 (0, 0)) := by rw [← hW0]; simp [go_sem]
  go_enter Tryz.func17, Tryz.ntmps17
  go_wp2
  clear hW0
  obtain ⟨B, hB⟩ : ∃ B, w.heap.size = B := ⟨_, rfl⟩
  rw [hB] at b0 b1 ⊢
  have HB := Lib.hid hB
  have HRB : Hid (∀ r, a = some ⟨r, 0, none⟩ → r < B) := Lib.hid fun r h => by have := (Array.getElem?_eq_some_iff.1 (HR.out r h)).1; omega
  clear hB
  go_loopw [15] (fun i wr => ∃ (m : Nat) (tm : Tab), i = .int .i64 m ∧ m ≤ l.length ∧ May tm s ∧ laidT s t l = laidT s tm (l.drop m) ∧ wr.heap[B]? = some (.cells (tcells tm) 26 (0, 0)) ∧ Ch [B] W0 wr) (fun i _ => l.length - (intOf i).toNat)
  case atStart => exact ⟨0, t, rfl, Nat.zero_le _, m0, by rw [List.drop_zero], b0, Ch.refl _ _⟩
  case round =>
    obtain ⟨m, tm, hm, hml, hmay, hlaid, hxm, hcm⟩ := hrel
    subst hm
    have HL := Lib.hid hlaid
    have HMAY := Lib.hid hmay
    clear hlaid hmay b0
    have e1 := hkeepS hcm (show B + 1 ∉ [B] by simp) b1
    clear b1
    rcases Nat.lt_or_ge m l.length with hlt | hge
    · obtain ⟨r, hra⟩ := HA.out (by omega)
      obtain ⟨p, hpm, hdrop⟩ := drop_one hlt
      have hrow := HP.out m p hpm
      have hrow' : rowAt (m * 2) 2 (.cells cur 31 (0, 0)) = some #[U p.1, U p.2] := by rw [Nat.mul_comm]; exact hrow
      subst hra
      have hrB := HRB.out r rfl
      have hrr : wr.heap[r]? = some (.cells cur 31 (0, 0)) := by
        have h1 := HR.out r rfl
        have h2 := hkeep hC0 h1
        exact hkeepS hcm (by simp; omega) h2
      have hdec : decide (m < l.length) = true := by simpa using hlt
      have hne : ¬ B = wr.heap.size := by have := (Array.getElem?_eq_some_iff.1 hxm).1; omega
      have hne2 : ¬ r = wr.heap.size := by have := (Array.getElem?_eq_some_iff.1 hrr).1; omega
      have HD := Lib.hid hdrop
      clear hdrop hpm
      go_wp2_with fail
      have q0 := hkeep (pair_ch wr (U 0#64) (U 0#64) (U p.1) (U p.2)) hxm
      have q1 := hkeep (pair_ch wr (U 0#64) (U 0#64) (U p.1) (U p.2)) e1
      have qC := hcm.pure (pair_ch wr (U 0#64) (U 0#64) (U p.1) (U p.2))
      clear hxm e1 hcm hrr
      generalize World.onObj (wr.alloc (.cells #[U 0#64, U 0#64] 31)) wr.heap.size (laidAt 0 #[U p.1, U p.2]) = W1 at *
      cases hP : placeT tm s p.1 with
      | error e0 =>
        have HPP := Lib.hid hP
        have he0 := place_err_ne hP
        refine (rPut_err tm s p.1 p.2 e0 HMAY.out hP W1).mono ?_
        clear hP
        rintro e w2 ⟨rfl, hc2⟩
        have d1 := hkeep hc2 q1
        have dC := qC.pure hc2
        clear q0 q1 qC hc2
        have hn1 : ¬ B + 1 = w2.heap.size := by have := (Array.getElem?_eq_some_iff.1 d1).1; omega
        go_wp2
        refine bodyPost_ret (v := .tuple #[.agg (tcells zeroT), I e0]) (results_c0t Tryz.results17 _ _ _ rfl rfl (run_loadVar_row _ _ 26 26 (tcells zeroT) (0, 0) _ ?_ Tryz.underlying26 rfl (by rw [tcells_size]; kernel_rfl))) rfl ⟨by rw [HL.out, HD.out, laidT_err HPP.out]; rfl, ?_⟩
        · rw [heap_onObj, if_pos rfl, hkeep (tab_ch w2 zeroT zeroT) d1, Option.map_some, laidAt_t]
        · exact (hC0.trans2 (dC.pure (tab_ch w2 zeroT zeroT)) (by rw [HB.out]; simp)).onObj (.inr (by rw [HB.out]; omega)) _
      | ok sl =>
        have HPP := Lib.hid hP
        have HM2 := Lib.hid (HMAY.out.fill p.2 (place_spot hP))
        refine (rPut_ok tm s p.1 p.2 sl HMAY.out hP W1).mono ?_
        clear hP
        rintro e w2 ⟨rfl, hc2⟩
        have d0 := hkeep hc2 q0
        have dC := qC.pure hc2
        clear q0 q1 qC hc2
        have HLK : Hid (laidT s t l = laidT s (fillT tm s p.1 p.2 sl) (l.drop (m + 1))) := Lib.hid (by rw [HL.out, HD.out, laidT_ok HPP.out])
        generalize fillT tm s p.1 p.2 sl = tf at *
        clear HPP
        have hn0 : ¬ B = w2.heap.size := by have := (Array.getElem?_eq_some_iff.1 d0).1; omega
        go_wp2
        go_roundw
        case rel =>
          refine ⟨m + 1, tf, by go_num, hlt, HM2.out, HLK.out, ?_, (dC.pure (tab_ch w2 zeroT tf)).onObj (.inl (by simp)) _⟩
          rw [heap_onObj, if_pos rfl, hkeep (tab_ch w2 zeroT tf) d0, Option.map_some, laidAt_t]
        case measure => simp [intOf]; omega
    · have hme : m = l.length := Nat.le_antisymm hml hge
      have hdec : decide (m < l.length) = false := by simpa using hge
      have HM := Lib.hid hme
      clear hme hge
      go_wp2
      refine bodyPost_ret (v := .tuple #[.agg (tcells tm), I 0]) (results_c0t Tryz.results17 _ _ _ rfl rfl (run_loadVar_row _ _ 26 26 (tcells tm) (0, 0) _ ?_ Tryz.underlying26 rfl (by rw [tcells_size]; kernel_rfl))) rfl ⟨?_, ?_⟩
      · rw [heap_onObj, if_pos rfl, e1, Option.map_some, laidAt_t]
      · rw [HL.out, HM.out, List.drop_length, laidT_nil]; rfl
      · exact (hC0.trans2 hcm (by rw [HB.out]; simp)).onObj (.inr (by rw [HB.out]; omega)) _
end Go.Proofs.Hc
