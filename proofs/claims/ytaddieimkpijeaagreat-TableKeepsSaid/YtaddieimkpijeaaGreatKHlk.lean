/- Law 17, TableKeeps: the walk. -/
import Derived.Test.YtaddieimkpijeaaGreatKHdh
import Derived.Test.YtaddieimkpijeaaGreatKHlhHlh2
import Derived.Test.YtaddieimkpijeaaGreatKHop2
import Derived.Test.YtaddieimkpijeaaGreatKHpk
set_option linter.unusedSimpArgs false
set_option linter.unusedVariables false
namespace Go.Proofs.Hc
open Go.RowKit
attribute [local go_sem] wrap_u64 wrap_u8 bits_xor64 bits_and64 bits_or64 bits_not64 bits_xor8 bits_and8 bits_or8 signed64 signed8 ofInt_N BitVec.ofInt_add BitVec.ofInt_mul ofInt_sub' ofInt8_N64 ofInt64_N8 wide8 eqN neN shr_pow shr1 shr7 shr56
attribute [local go_sem high] bits_com64 shl_wrap
attribute [local go_sem] cell_heap ice_heap cellAt_cells iceAt_cells setAt_cells rowAt_cells canLay_cells laidAt_cells size_onObj size_setCell rowRes_some layRes_true
attribute [local go_sem] load26 load73 load23 store26 build73
attribute [local go_sem ↓] lrow26 lrow73 lrow23 srow26 zero26 brow73 heap_alloc heap_drew heap_drewN heap_setCell heap_onObj
attribute [local go_sem] tcells_size hcells_size tcells_get hcells_get tcells_one hcells_one hcells_table tcells_table hcells_all hcells_ctrl tcells_ctrl
attribute [local go_sem] nn2 nm2 nn3 nm3 nn4 nm4 nn5 nm5 nn6 nm6 nn7 nm7 nn8 nm8
attribute [local go_sem] loadA loadT2 storeA storeT2 buildA_ts buildA_sm assert_errno make_func acells_size t2cells_size acells_get t2cells_get acells_one t2cells_one acells_table acells_all t2cells_all t2cells_l t2cells_r
attribute [local go_sem ↓] lrowA lrowT2 srowA srowT2 browA zeroA_run zeroT2_run
attribute [local go_sem] nn2 nm2 nn3 nm3 nn4 nm4 nn5 nm5 nn6 nm6 nn7 nm7 nn8 nm8
attribute [local go_sem] Oper.semAt_some make_func1 ofInt_pow8
attribute [local go_sem] box26 tcells_idx cell0 cell1 cell2 cell3 cell4 hcells_idx hcells_pop
attribute [local go_sem] cell5 cell6 t2cells_idx build_slice1
attribute [local go_sem] loadP storeP allOne_pair
attribute [local go_sem ↓] lrowP srowP zeroP
attribute [local go_sem high] laidAt_t laidAt_a laidAt_t2 laidAt_p
theorem region_cut {P : Program} {c : Code} {Q : Exit → Act → World → Prop} {a : Act} {w : World} (R : Act → Act → World → Prop) (h1 : c.wp P (fun e a' w' => e = .normal ∧ R a a' w') a w) (h2 : ∀ a' w', R a a' w' → Q .normal a' w') : c.wp P Q a w :=
  wp_mono h1 fun _ a' w' h => h.1 ▸ h2 a' w' h.2
theorem one_own {W : World} {g : Nat} {x y : BitVec 64} (h : W.heap[g]? = some (.cells #[U x, U y] 31 (0, 0))) : W.ownsRow g 31 2 (.slice (some ⟨g, 0, none⟩) 1 1) 1 [U x, U y] :=
  ⟨rfl, .inr ⟨g, 1, _, rfl, Nat.le_refl _, h, Nat.le_refl _, by decide, rfl, rfl⟩⟩
theorem pcells_one_snoc (l : List (BitVec 64 × BitVec 64)) (p : BitVec 64 × BitVec 64) : pcells (l ++ [p]) = pcells l ++ [U p.1, U p.2] := pcells_snoc l p
theorem own_far {w w1 : World} {S : List Nat} {base : Nat} {e : TypeId} {size n : Nat} {v : Value} {xs : List Value} (h : w.ownsRow base e size v n xs) (c : Ch S w w1) (hS : ∀ g, v.ownBlock = some g → g ∉ S) : w1.ownsRow base e size v n xs := by
  obtain ⟨h1, h2⟩ := h
  refine ⟨h1, ?_⟩
  rcases h2 with h2 | ⟨g, cap, cur, hv, hg, hh, r⟩
  · exact .inl h2
  · exact .inr ⟨g, cap, cur, hv, hg, (c.block g (Array.getElem?_eq_some_iff.1 hh).1 (hS g (by rw [hv]; rfl))).trans hh, r⟩
/-- What the row that is wanted comes to. -/
def WantR (W6 : World) (no : Nat) (xs : List Value) (q : BitVec 64 × BitVec 64) (a a' : Act) (w' : World) : Prop :=
  ∃ x55 x56 x57 x58 av cv B, a' = (((((a.put (some 55) x55).put (some 56) x56).put (some 57) x57).put (some 58) x58).put (some 59) (.slice av (no + 1) cv)).put (some 13) (.slice av (no + 1) cv) ∧
    w'.ownsRow B 31 2 (.slice av (no + 1) cv) (no + 1) (xs ++ [U q.1, U q.2]) ∧ Ch [] W6 w' ∧ W6.heap.size ≤ B
theorem keeps_bad_pairs {t : Tab} {s : BitVec 64} (h : mayT t s = false) (w : World) : Calls Tryz.prog 26 #[U s, .agg (tcells t)] w fun e w' => e = .returned (I 270) ∧ Ch [] w w' := by
  have := check_any t s w
  rw [h, if_neg (by decide)] at this
  exact this
set_option maxHeartbeats 1000000 in
set_option maxRecDepth 100000 in
theorem keeps_bad (t : Tab) (s : BitVec 64) (la : Option Addr) (ll lc : Nat) (w : World) (hm : mayT t s = false) :
    Calls Tryz.prog 8 #[U s, .agg (tcells t), .slice la ll lc] w fun e w' => e = .returned (.bool true) ∧ Ch [] w w' := by
  have K1 := fun w => keeps_bad_pairs hm w
  have P1 := fun w => Pairs_no t s w hm
  clear hm
  go_enter Tryz.func8, Tryz.ntmps8
  go_wp2_with fail
  refine (wakes_any _).mono ?_
  rintro e w1 ⟨rfl, hc1⟩
  have b1 := hkeep hc1 (show (w.alloc (.cells (tcells t) 26)).heap[w.heap.size]? = some (.cells (tcells t) 26 (0, 0)) by simp [go_sem])
  have C1 : Ch [] w w1 := ((Ch.refl [] w).alloc _).trans hc1
  clear hc1
  go_wp2_with fail
  refine (K1 _).mono ?_
  rintro e w2 ⟨rfl, hc2⟩
  have b2 := hkeep hc2 b1
  have C2 := C1.trans hc2
  clear b1 C1 hc2 K1
  go_wp2_with fail
  refine (P1 _).mono ?_
  rintro e w3 ⟨c, rfl, hc3⟩
  go_wp2
  go_ret
  exact ⟨rfl, C2.trans hc3⟩

set_option maxHeartbeats 8000000 in
set_option maxRecDepth 100000 in
theorem keeps_ok (t : Tab) (s : BitVec 64) (la : Option Addr) (ll lc : Nat) (ps : Nat → BitVec 64 × BitVec 64) (w : World) (hm : May t s) (hll : ll ≤ 9223372036854775807) (hk : PairsIn w la ll ps) :
    Calls Tryz.prog 8 #[U s, .agg (tcells t), .slice la ll lc] w fun e w' => e = .returned (.bool true) ∧ Ch [] w w' := by
  have K1 := fun w => check_ok hm w
  have HM := Lib.hid hm
  have HK : Hid (PairsIn w la ll ps) := Lib.hid hk
  clear hm hk
  go_enter Tryz.func8, Tryz.ntmps8
  go_wp2_with fail
  refine (wakes_any _).mono ?_
  rintro e w1 ⟨rfl, hc1⟩
  have b1 := hkeep hc1 (show (w.alloc (.cells (tcells t) 26)).heap[w.heap.size]? = some (.cells (tcells t) 26 (0, 0)) by simp [go_sem])
  have C1 : Ch [] w w1 := ((Ch.refl [] w).alloc _).trans hc1
  obtain ⟨T0, hT0⟩ : ∃ T0, w.heap.size = T0 := ⟨_, rfl⟩
  rw [hT0] at b1 ⊢
  have HT0 := Lib.hid hT0
  clear hc1 hT0
  go_wp2_with fail
  refine (K1 _).mono ?_
  rintro e w2 ⟨rfl, hc2⟩
  have b2 := hkeep hc2 b1
  have C2 := C1.trans hc2
  clear b1 C1 hc2 K1
  go_wp2
  go_loopw [32] (fun i wr => ∃ (m : Nat) (a : Tab), i = .int .i64 m ∧ m ≤ ll ∧ m ≤ 24 ∧ Hid (May a s) ∧ wr.heap[T0]? = some (.cells (tcells a) 26 (0, 0)) ∧ Ch [T0] w2 wr) (fun i _ => ll - (intOf i).toNat)
  case atStart => exact ⟨0, t, rfl, by omega, by omega, HM, b2, Ch.refl _ _⟩
  case round =>
    obtain ⟨m, a, hm, hml, hm24, hg, ha, hcr⟩ := hrel
    subst hm
    have hCw : Ch [] w wr := C2.trans2 hcr (fun t ht => .inr (by simp at ht; have := HT0.out; omega))
    clear b2
    rcases Nat.lt_or_ge m ll with hlt | hge
    · obtain ⟨kb, ko, hka, hkb, hkc⟩ := HK.out m hlt
      subst hka
      have hkc' : (wr.heap[kb]?).bind (rowAt (ko + m * 2) 2) = some #[U (ps m).1, U (ps m).2] := by rw [hCw.block kb hkb (by simp)]; exact hkc
      have hkb' : ¬ kb = wr.heap.size := by have := hCw.size; omega
      have hdec : decide (m < ll) = true := by simpa using hlt
      have hne0 : ¬ T0 = wr.heap.size := by have := (Array.getElem?_eq_some_iff.1 ha).1; omega
      clear hkc hkb
      by_cases h24 : m = 24
      · subst h24
        go_wp2
        go_ret
        exact ⟨rfl, (hCw.alloc _).onObj (.inr hCw.size) _⟩
      · have h24' : ((m : Int) == 24) = false := by simp; omega
        obtain ⟨q, hq⟩ : ∃ q, ps m = q := ⟨_, rfl⟩
        rw [hq] at hkc'
        clear hq
        have HPL := Lib.hid (pairs_le a)
        have PA := fun w => Pairs_yes a s w ((may_iff a s).2 hg.out)
        obtain ⟨OL, hOL⟩ : ∃ OL, delK q.1 (pairsT a) = OL := ⟨_, rfl⟩
        obtain ⟨no, hno⟩ : ∃ no, OL.length = no := ⟨_, rfl⟩
        have HNO16 : Hid (no ≤ 16) := Lib.hid (by rw [← hno, ← hOL]; exact Nat.le_trans (List.length_filter_le _ _) (pairs_le a))
        have HNO := Lib.hid (show (delK q.1 (pairsT a)).length = no by rw [hOL]; exact hno)
        have HOL := Lib.hid hOL
        have HLO := Lib.hid hno
        clear hOL hno
        obtain ⟨nA, sA, eA, PUT, hcase⟩ := keeps_put hg.out q
        have HCASE := Lib.hid hcase
        clear hcase
        go_wp2_with fail
        have b8 : (World.onObj (wr.alloc (.cells #[U 0#64, U 0#64] 31)) wr.heap.size (laidAt 0 #[U q.1, U q.2])).heap[wr.heap.size]? = some (.cells #[U q.1, U q.2] 31 (0, 0)) := by rw [heap_onObj, if_pos rfl, heap_alloc, if_pos rfl, Option.map_some, laidAt_p]
        have C1 : Ch [] wr (World.onObj (wr.alloc (.cells #[U 0#64, U 0#64] 31)) wr.heap.size (laidAt 0 #[U q.1, U q.2])) := ((Ch.refl [] wr).alloc _).onObj (.inr (Nat.le_refl _)) _
        generalize World.onObj (wr.alloc (.cells #[U 0#64, U 0#64] 31)) wr.heap.size (laidAt 0 #[U q.1, U q.2]) = W1 at *
        obtain ⟨B8, hB8⟩ : ∃ B, wr.heap.size = B := ⟨_, rfl⟩
        rw [hB8] at b8 ⊢
        have HB8 := Lib.hid hB8
        clear hB8
        have hlt1 := (Array.getElem?_eq_some_iff.1 b8).1
        refine (PA _).mono ?_
        rintro e w3 ⟨a2, c2, rfl, own2, hc3⟩
        have b8' := hkeep hc3 b8
        have HLT1 := Lib.hid hlt1
        clear b8 PA hlt1
        go_wp2_with fail
        refine (delete_any (pairsT a) q B8 W1.heap.size a2 c2 w3 (by have := HPL.out; omega) own2 b8' HLT1.out).mono ?_
        rintro e w4 ⟨a3, c3, S4, rfl, own3, hc4, hS4⟩
        rw [HNO.out, HOL.out] at own3
        rw [HNO.out]
        have C4 : Ch [] wr w4 := (C1.trans hc3).trans2 hc4 (fun t ht => .inr (Nat.le_trans C1.size (hS4 t ht)))
        have b8 := hkeepS hc4 (fun h => by have := hS4 _ h; have := HLT1.out; omega) b8'
        have e4 := hkeep C4 ha
        clear own2 hc3 hc4 hS4 b8' C1 HLT1
        go_wp2_with fail
        refine (PUT _).mono ?_
        rintro e w5 ⟨rfl, hc5⟩
        have b85 := hkeep hc5 b8
        have e5 := hkeep hc5 e4
        have own5 := own_ch own3 hc5 (by simp)
        have C5 := C4.trans hc5
        clear own3 b8 e4 C4 hc5 PUT
        go_upto_region 11 with (fail)
        have b86 := hkeep (new_ch w5 zeroT nA) b85
        have e6 := hkeep (new_ch w5 zeroT nA) e5
        have n6 := new_block w5 zeroT nA
        have own6 := own_ch own5 (new_ch w5 zeroT nA) (by simp)
        have C6 := C5.trans (new_ch w5 zeroT nA)
        generalize World.onObj (w5.alloc (.cells (tcells zeroT) 26)) w5.heap.size (laidAt 0 (tcells nA)) = W6 at *
        have HNE : Hid (¬ T0 = w5.heap.size) := Lib.hid (by have := (Array.getElem?_eq_some_iff.1 e5).1; omega)
        have HNE8 : Hid (¬ B8 = w5.heap.size) := Lib.hid (by have := (Array.getElem?_eq_some_iff.1 b85).1; omega)
        have HB10 : Hid (wr.heap.size ≤ w5.heap.size) := Lib.hid C5.size
        have HOB : Hid (∀ g, (Value.slice a3 no c3).ownBlock = some g → g < w5.heap.size) := Lib.hid (fun g hg => own_lt own5 hg)
        generalize w5.heap.size = B10 at *
        clear b85 e5 own5 C5
        refine region_cut (WantR W6 no (pcells OL) q) ?_ ?_
        · have hS : (fun W' : World => W'.heap[B8]? = some (.cells #[U q.1, U q.2] 31 (0, 0))) W6.drew := b86
          refine wp_region_held_drew (S := fun W' => W'.heap[B8]? = some (.cells #[U q.1, U q.2] 31 (0, 0))) (by kernel_rfl) hS ?_
          intro _
          simp only [List.size_toArray, List.length_cons, List.length_nil, Nat.reduceAdd]
          refine wpAnyH_take (i := 0) (oi := ⟨some 55, _, _, _, _, none⟩) (v := ?_) rfl (by kernel_rfl) (by kernel_rfl) (by kernel_rfl) (fun _ _ _ h => by cases h.1) (Or.inl ⟨by rfl, ?_⟩) b86 ?_
          rotate_left
          · intro wq hSq
            first | (go_simp; done) | (go_simp; with_reducible rfl)
          try simp only [Act.put, List.setIfInBounds_toArray, List.set_cons_zero, List.set_cons_succ]
          refine wpAnyH_take (i := 2) (oi := ⟨some 57, _, _, _, _, none⟩) (v := ?_) rfl (by kernel_rfl) (by kernel_rfl) (by kernel_rfl) (fun _ _ _ h => by cases h.1) (Or.inl ⟨by rfl, ?_⟩) b86 ?_
          rotate_left
          · intro wq hSq
            first | (go_simp; done) | (go_simp; with_reducible rfl)
          try simp only [Act.put, List.setIfInBounds_toArray, List.set_cons_zero, List.set_cons_succ]
          have ownd : W6.drew.ownsRow _ 31 2 (.slice a3 no c3) no (pcells OL) := own_ch own6 ((Ch.refl [] W6).drew) (by simp)
          refine wpAnyH_ready (rs := [1, 3]) (by kernel_rfl) (by simp) ?_
          refine AllReadyH.cons (o := ⟨some 56, .call { callee := .value (.func 10), args := #[.tmp 55], argTypes := #[27] }, 27, _, _, none⟩) rfl (fun K hK => ?_) (AllReadyH.cons (o := ⟨some 58, .buildSlice 27 1 #[(0, .tmp 57)], 27, _, _, none⟩) rfl (fun K hK => ?_) AllReadyH.nil)
          · go_simp
            refine (clone_pairs a3 no c3 _ (pcells OL) _ ownd (pcells_one OL) (by have := HNO16.out; omega)).mono ?_
            rintro e w7 ⟨a7, c7, rfl, own7, hc7⟩
            have b87 := hkeep hc7 (show W6.drew.heap[B8]? = _ from b86)
            refine hK.out _ _ b87 (fun _ => ?_)
            clear hK K
            refine wpAnyH_ready (rs := [3]) (by kernel_rfl) (by simp) ?_
            refine AllReadyH.cons (o := ⟨some 58, .buildSlice 27 1 #[(0, .tmp 57)], 27, _, _, none⟩) rfl (fun K hK => ?_) AllReadyH.nil
            go_simp
            have hcA : Ch [] w7 (w7.alloc (.cells #[U q.1, U q.2] 31)) := (Ch.refl [] w7).alloc _
            have b88 := hkeep hcA b87
            refine hK.out _ _ b88 (fun _ => ?_)
            clear hK K
            obtain ⟨v9, w9, hrun, own9, gr9⟩ := append_pairs (w7.alloc (.cells #[U q.1, U q.2] 31)) 27 _ w7.heap.size _ no (pcells OL) (own_ch own7 hcA (by simp)) _ 1 1 [U q.1, U q.2] (one_own (by rw [heap_alloc, if_pos rfl])) (by simp [Value.oneCell']) (by have := HNO16.out; omega) (Nat.le_trans hc7.size hcA.size)
            refine wpAnyH_ready (rs := [4]) (by kernel_rfl) (by simp) ?_
            refine AllReadyH.cons (o := ⟨some 59, .call { callee := .builtin .append, args := #[.tmp 56, .tmp 58], argTypes := #[27, 27] }, 27, _, _, none⟩) rfl (fun K2 hK2 => ?_) AllReadyH.nil
            rw [if_pos (by rfl)]
            refine wp_append_at _ (.tmp 56) (.tmp 58) 27 rfl _ _ v9 w9 rfl rfl hrun ?_
            simp only [Act.put, List.setIfInBounds_toArray, List.set_cons_zero, List.set_cons_succ]
            have hob := own_block own7
            have hlt8 := (Array.getElem?_eq_some_iff.1 b86).1
            have b89 : w9.heap[B8]? = some (.cells #[U q.1, U q.2] 31 (0, 0)) := (gr9.block B8 (Array.getElem?_eq_some_iff.1 b88).1 (fun e => by have := hob _ e.symm; have e8 : W6.drew.heap.size = W6.heap.size := rfl; omega)).trans b88
            have hc9 : Ch [] W6 w9 := ((((Ch.refl [] W6).drew).trans hc7).trans hcA).trans2 (Ch.of_grown (S := (Value.slice a7 no c7).ownBlock.toList) gr9 (fun k hk => by simp [hk])) (fun t ht => .inr (hob t (by simpa using ht)))
            refine hK2.out _ _ b89 (fun _ => ?_)
            obtain ⟨av, cv, rfl⟩ := own_form own9
            clear hK2 K2
            refine wpAnyH_take (i := 5) (oi := ⟨some 13, .assign (.tmp 59), 27, _, _, none⟩) (v := ?_) rfl (by kernel_rfl) (by kernel_rfl) (by kernel_rfl) (fun _ _ _ h => by cases h.1) (Or.inl ⟨by rfl, ?_⟩) b89 ?_
            rotate_left
            · intro wq hSq
              first | (go_simp; done) | (go_simp; with_reducible rfl)
            try simp only [Act.put, List.setIfInBounds_toArray, List.set_cons_zero, List.set_cons_succ]
            refine wpAnyH_done (by kernel_rfl) ?_ _
            exact ⟨rfl, _, _, _, _, av, cv, _, rfl, own9, hc9, Nat.le_refl _⟩
          · go_simp
            have hcA : Ch [] W6 ((W6.alloc (.cells #[U q.1, U q.2] 31)).drew) := ((Ch.refl [] W6).alloc _).drew
            have b87 := hkeep hcA b86
            refine hK.out _ _ b87 (fun _ => ?_)
            clear hK K
            refine wpAnyH_ready (rs := [1]) (by kernel_rfl) (by simp) ?_
            refine AllReadyH.cons (o := ⟨some 56, .call { callee := .value (.func 10), args := #[.tmp 55], argTypes := #[27] }, 27, _, _, none⟩) rfl (fun K hK => ?_) AllReadyH.nil
            go_simp
            refine (clone_pairs a3 no c3 _ (pcells OL) _ (own_ch own6 hcA (by simp)) (pcells_one OL) (by have := HNO16.out; omega)).mono ?_
            rintro e w7 ⟨a7, c7, rfl, own7, hc7⟩
            have b88 := hkeep hc7 b87
            have blk := hkeep hc7 (show ((W6.alloc (.cells #[U q.1, U q.2] 31)).drew).heap[W6.heap.size]? = some (.cells #[U q.1, U q.2] 31 (0, 0)) by rw [heap_drew, heap_alloc, if_pos rfl])
            refine hK.out _ _ b88 (fun _ => ?_)
            clear hK K
            obtain ⟨v9, w9, hrun, own9, gr9⟩ := append_pairs w7 27 _ W6.heap.size _ no (pcells OL) own7 _ 1 1 [U q.1, U q.2] (one_own blk) (by simp [Value.oneCell']) (by have := HNO16.out; omega) hc7.size
            refine wpAnyH_ready (rs := [4]) (by kernel_rfl) (by simp) ?_
            refine AllReadyH.cons (o := ⟨some 59, .call { callee := .builtin .append, args := #[.tmp 56, .tmp 58], argTypes := #[27, 27] }, 27, _, _, none⟩) rfl (fun K2 hK2 => ?_) AllReadyH.nil
            rw [if_pos (by rfl)]
            refine wp_append_at _ (.tmp 56) (.tmp 58) 27 rfl _ _ v9 w9 rfl rfl hrun ?_
            simp only [Act.put, List.setIfInBounds_toArray, List.set_cons_zero, List.set_cons_succ]
            have hob := own_block own7
            have hlt8 := (Array.getElem?_eq_some_iff.1 b86).1
            have hzA := hcA.size
            have b89 : w9.heap[B8]? = some (.cells #[U q.1, U q.2] 31 (0, 0)) := (gr9.block B8 (Array.getElem?_eq_some_iff.1 b88).1 (fun e => by have := hob _ e.symm; omega)).trans b88
            have hc9 : Ch [] W6 w9 := (hcA.trans hc7).trans2 (Ch.of_grown (S := (Value.slice a7 no c7).ownBlock.toList) gr9 (fun k hk => by simp [hk])) (fun t ht => .inr (Nat.le_trans hzA (hob t (by simpa using ht))))
            refine hK2.out _ _ b89 (fun _ => ?_)
            obtain ⟨av, cv, rfl⟩ := own_form own9
            clear hK2 K2
            refine wpAnyH_take (i := 5) (oi := ⟨some 13, .assign (.tmp 59), 27, _, _, none⟩) (v := ?_) rfl (by kernel_rfl) (by kernel_rfl) (by kernel_rfl) (fun _ _ _ h => by cases h.1) (Or.inl ⟨by rfl, ?_⟩) b89 ?_
            rotate_left
            · intro wq hSq
              first | (go_simp; done) | (go_simp; with_reducible rfl)
            try simp only [Act.put, List.setIfInBounds_toArray, List.set_cons_zero, List.set_cons_succ]
            refine wpAnyH_done (by kernel_rfl) ?_ _
            exact ⟨rfl, _, _, _, _, av, cv, _, rfl, own9, hc9, hzA⟩
        rintro a' w7 ⟨x55, x56, x57, x58, av, cv, BW, rfl, own7, hc7, hBW⟩
        have HBW : Hid (B10 < BW) := Lib.hid (Nat.lt_of_lt_of_le (Array.getElem?_eq_some_iff.1 n6).1 hBW)
        clear hBW
        simp only [Act.put, List.setIfInBounds_toArray, List.set_cons_zero, List.set_cons_succ]
        have b87 := hkeep hc7 b86
        have e7 := hkeep hc7 e6
        have n7 := hkeep hc7 n6
        have C7 := C6.trans hc7
        have oo7 := own_ch own6 hc7 (by simp)
        clear b86 e6 n6 own6 C6 hc7

        rcases HCASE.out with (rfl | rfl) | ⟨rfl, jf, mm, hjf, hff, hkf, hfo⟩ | ⟨sl, hp, rfl, rfl, rfl⟩
        · clear HCASE
          go_wp2
          go_roundw
          case rel => exact ⟨m + 1, a, by go_num, hlt, by omega, hg, e7, hcr.pure C7⟩
          case measure => simp [intOf]; omega
        · clear HCASE
          go_wp2
          go_roundw
          case rel => exact ⟨m + 1, a, by go_num, hlt, by omega, hg, e7, hcr.pure C7⟩
          case measure => simp [intOf]; omega
        · clear HCASE
          have hOLd := HOL.out.symm.trans (delK_has hg.out hjf hff hkf)
          have mD := hg.out.drop hjf hff
          have hln : (no : Int) + 1 = a.live := by
            have h1 := mD.len
            rw [← hOLd, HLO.out] at h1
            have h2 : (dropT a jf).live = a.live - 1 := rfl
            omega
          have DR := fun w => drop_hit hg.out hfo w
          have FD := fun w => find_hit hg.out hfo w
          have ST := fun w => set_hit (v := q.2) hg.out hfo w
          have HOLD := Lib.hid hOLd
          have HLN := Lib.hid hln
          have HFO := Lib.hid hfo
          clear hOLd hln hfo
          go_wp2_with fail
          · refine (DR _).mono ?_
            rintro e w8 ⟨rfl, hc8⟩
            have e8 := hkeep hc8 e7
            have b8 := hkeep hc8 b87
            have n8 := hkeep hc8 n7
            have C8 := C7.trans hc8
            have oo8 := own_ch oo7 hc8 (by simp)
            clear e7 b87 n7 C7 oo7 own7 hc8 DR FD ST
            obtain ⟨nN, hnN⟩ : ∃ nN, dropT a jf = nN := ⟨_, rfl⟩
            have hlv : nN.live = (no : Int) := by rw [← hnN]; show a.live - 1 = _; have := HLN.out; omega
            have mN : May nN s := by rw [← hnN]; exact mD
            have fN : foundE nN s q.1 = .error 4 := by
              rw [← hnN]
              apply found_none
              intro x hx hfx
              rw [drop_full] at hfx
              by_cases e : x = jf
              · rw [if_pos e] at hfx; cases hfx
              · rw [if_neg e] at hfx
                rw [(drop_k a jf x).1]
                exact fun h => e (hg.out.inj x jf hx hjf hfx hff (h.trans hkf.symm))
            have HSUB0 : ∀ x ∈ OL, x ∈ pairsT nN := by rw [HOLD.out, hnN]; exact fun x hx => hx
            have HGL0 := len_of mN hlv
            rw [hnN]
            have FN := fun w => find_miss mN fN w
            have PN := fun w => Pairs_yes nN s w ((may_iff nN s).2 mN)
            have KN := fun w => check_ok mN w
            have HMN := Lib.hid mN
            have HLO0 := HLO.out
            have HNO0 := HNO16.out
            have HOB0 := HOB.out
            clear mN fN mD hjf hff hkf hnN HOL HOLD HNO HLO HNO16 HLN HFO HOB
            generalize OL = WL at *
            generalize no = nw at *
            have HSUB := Lib.hid HSUB0
            have HWL := Lib.hid HLO0
            have HGL := Lib.hid HGL0
            have HNW : Hid (nw ≤ 17) := Lib.hid (by omega)
            have HOB := Lib.hid HOB0
            clear HSUB0 HLO0 HGL0 HNO0 HOB0
            go_upto_region 21 with (fail)
            have e9 : (World.onObj w8 B10 (laidAt 0 (tcells nN))).heap[T0]? = some (.cells (tcells a) 26 (0, 0)) := by rw [heap_onObj, if_neg HNE.out]; exact e8
            have b9 : (World.onObj w8 B10 (laidAt 0 (tcells nN))).heap[B8]? = some (.cells #[U q.1, U q.2] 31 (0, 0)) := by rw [heap_onObj, if_neg HNE8.out]; exact b8
            have n9 : (World.onObj w8 B10 (laidAt 0 (tcells nN))).heap[B10]? = some (.cells (tcells nN) 26 (0, 0)) := by rw [heap_onObj, if_pos rfl, n8, Option.map_some, laidAt_t]
            have C9 : Ch [] wr (World.onObj w8 B10 (laidAt 0 (tcells nN))) := C8.onObj (.inr HB10.out) _
            have ow9 := own_far oo8 ((Ch.refl [B10] w8).onObj (p := B10) (.inl (by simp)) (laidAt 0 (tcells nN))) (fun g hg9 => by have := HOB.out g hg9; simp; omega)
            clear e8 b8 n8 C8 oo8
            generalize World.onObj w8 B10 (laidAt 0 (tcells nN)) = W9 at *
            go_wp2_with fail
            refine (PN _).mono ?_
            rintro e w10 ⟨ag, cg, rfl, owng, hc10⟩
            have e10 := hkeep hc10 e9
            have b10 := hkeep hc10 b9
            have n10 := hkeep hc10 n9
            have C10 := C9.trans hc10
            have ow10 := own_ch ow9 hc10 (by simp)
            rw [HGL.out] at owng
            rw [HGL.out]
            clear e9 b9 n9 C9 ow9 hc10 PN
            go_wp2_with fail
            refine (KN _).mono ?_
            rintro e w11 ⟨rfl, hc11⟩
            have e11 := hkeep hc11 e10
            have b11 := hkeep hc11 b10
            have n11 := hkeep hc11 n10
            have C11 := C10.trans hc11
            obtain ⟨curw, p1, p2, p3⟩ := pairs_at HWL.out.symm (own_ch ow10 hc11 (by simp))
            obtain ⟨curg, q1, q2, q3⟩ := pairs_at HGL.out.symm (own_ch owng hc11 (by simp))
            have KC : ∀ (x : BitVec 64 × BitVec 64) (W : World), Ch [] w11 W → x ∈ pairsT nN → Calls Tryz.prog 35 #[.slice ag nw cg, .agg #[U x.1, U x.2]] W fun e w' => e = .returned (.bool true) ∧ Ch [] W w' := by
              intro x W h hx
              have := contains_any (pairsT nN) x ag cg curg W (by have := HGL.out; have := HNW.out; omega) q1 q2 (fun r hr => hkeep h (q3 r hr).2)
              rw [decide_eq_true hx, HGL.out] at this
              exact this
            have HP := Lib.hid p1
            have HA := Lib.hid p2
            have HR := Lib.hid (fun r hr => (p3 r hr).2)
            have hnw17 := HNW.out
            clear e10 b10 n10 C10 ow10 owng hc11 KN p1 p2 p3 q1 q2 q3
            go_wp2
            obtain ⟨wo, rfl⟩ : ∃ wo : World, wo = wr := ⟨_, rfl⟩
            go_loopw [126] (fun i wr => ∃ j : Nat, i = .int .i64 j ∧ j ≤ nw ∧ Ch [] w11 wr) (fun i _ => nw - (intOf i).toNat)
            case atStart => exact ⟨0, rfl, Nat.zero_le _, Ch.refl _ _⟩
            case round =>
              obtain ⟨j2, hj2, hjl2, hcr2⟩ := hrel
              subst hj2
              rcases Nat.lt_or_ge j2 nw with hlt2 | hge2
              · obtain ⟨r, hra⟩ := HA.out (by rw [HWL.out]; omega)
                obtain ⟨x, hxm, -⟩ := drop_one (show j2 < WL.length by rw [HWL.out]; exact hlt2)
                have hrow2 : rowAt (j2 * 2) 2 (.cells curw 31 (0, 0)) = some #[U x.1, U x.2] := by rw [Nat.mul_comm]; exact HP.out j2 x hxm
                subst hra
                have hrr : wr.heap[r]? = some (.cells curw 31 (0, 0)) := hkeep hcr2 (HR.out r rfl)
                have hdec2 : decide (j2 < nw) = true := by simpa using hlt2
                have hne2 : ¬ r = wr.heap.size := by have := (Array.getElem?_eq_some_iff.1 hrr).1; omega
                have hcn : Ch [] wr (World.onObj (wr.alloc (.cells #[U 0#64, U 0#64] 31)) wr.heap.size (laidAt 0 #[U x.1, U x.2])) := ((Ch.refl [] wr).alloc _).onObj (.inr (Nat.le_refl _)) _
                have K2 := KC x _ (hcr2.trans hcn) (HSUB.out x (List.mem_of_getElem? hxm))
                have HCN := Lib.hid hcn
                clear hxm hcn KC
                go_wp2_with (go_at_call 35; refine K2.mono ?_; rintro e wg ⟨rfl, hcg⟩)
                go_roundw
                case rel => exact ⟨j2 + 1, by go_num, hlt2, (hcr2.trans HCN.out).trans hcg⟩
                case measure => simp [intOf]; omega
              · have hdec2 : decide (j2 < nw) = false := by simpa using hge2
                have e12 := hkeep hcr2 e11
                have b12 := hkeep hcr2 b11
                have n12 := hkeep hcr2 n11
                have C12 := C11.trans hcr2
                clear e11 b11 n11 C11 KC hge2 HP HA HR hcr2
                go_wp2_with fail
                refine (FN _).mono ?_
                rintro e w13 ⟨rfl, hc13⟩
                have e13 := hkeep hc13 e12
                have n13 := hkeep hc13 n12
                have HC13 := Lib.hid (C12.trans hc13)
                clear e12 b12 n12 C12 hc13 FN
                go_wp2
                go_roundw
                case rel => exact ⟨m + 1, nN, by go_num, hlt, by omega, HMN, by rw [heap_onObj, if_pos rfl, e13, Option.map_some, laidAt_t], (hcr.pure HC13.out).onObj (.inl (by simp)) _⟩
                case measure => simp [intOf]; omega
          · refine (FD _).mono ?_
            rintro e w8a ⟨rfl, hc8a⟩
            have hcwa : Ch [] wr w8a := C7.trans hc8a
            have e8a := hkeep hc8a e7
            have b8a := hkeep hc8a b87
            have n8a := hkeep hc8a n7
            have own8a := own_ch own7 hc8a (by simp)
            clear e7 b87 n7 C7 oo7 own7 hc8a DR FD
            go_wp2_with fail
            refine (ST _).mono ?_
            rintro e w8 ⟨rfl, hc8⟩
            have e8 := hkeep hc8 e8a
            have b8 := hkeep hc8 b8a
            have n8 := hkeep hc8 n8a
            have C8 := hcwa.trans hc8
            have own8 := own_ch own8a hc8 (by simp)
            clear e8a b8a n8a hcwa own8a hc8 ST
            obtain ⟨nN, hnN⟩ : ∃ nN, setT a jf q.2 = nN := ⟨_, rfl⟩
            have mN : May nN s := by rw [← hnN]; exact hg.out.set jf q.2
            have hlv0 : nN.live = ((no + 1 : Nat) : Int) := by rw [← hnN]; show a.live = _; have := HLN.out; omega
            obtain ⟨mm2, fN⟩ : ∃ n, foundE nN s q.1 = .ok (jf, n) := found_of mN hjf (by rw [← hnN]; exact hff) (by rw [← hnN]; exact hkf)
            have HSUB0 : ∀ x ∈ OL ++ [q], x ∈ pairsT nN := by
              intro x hx
              rw [← hnN]
              refine (set_pairs hg.out q.2 hjf hff x).2 ?_
              rcases List.mem_append.1 hx with h | h
              · rw [← HOL.out, delK] at h
                obtain ⟨h1, h2⟩ := List.mem_filter.1 h
                exact .inr ⟨h1, by rw [hkf]; simpa using h2⟩
              · have : x = q := by simpa using h
                subst this
                exact .inl (by rw [hkf])
            have HWL0 : (OL ++ [q]).length = no + 1 := by rw [List.length_append, HLO.out]; rfl
            rw [hnN]
            have HGL0 := len_of mN hlv0
            have FN := fun w => find_hit mN fN w
            have PN := fun w => Pairs_yes nN s w ((may_iff nN s).2 mN)
            have KN := fun w => check_ok mN w
            have HMN := Lib.hid mN
            have HNO0 := HNO16.out
            have hgt : no < no + 1 := Nat.lt_succ_self no
            have hlv := hlv0
            rw [← pcells_one_snoc] at own8
            clear mN fN hnN HOL HNO HLO HNO16 hlv0 mD hjf hff hkf HOLD HLN HFO HOB
            generalize OL ++ [q] = WL at *
            generalize hnw : no + 1 = nw at *
            have HSUB := Lib.hid HSUB0
            have HWL := Lib.hid HWL0
            have HGL := Lib.hid HGL0
            have HNW : Hid (nw ≤ 17) := Lib.hid (by omega)
            clear HSUB0 HWL0 HGL0 HNO0 hnw
            go_upto_region 21 with (fail)
            have e9 : (World.onObj w8 B10 (laidAt 0 (tcells nN))).heap[T0]? = some (.cells (tcells a) 26 (0, 0)) := by rw [heap_onObj, if_neg HNE.out]; exact e8
            have b9 : (World.onObj w8 B10 (laidAt 0 (tcells nN))).heap[B8]? = some (.cells #[U q.1, U q.2] 31 (0, 0)) := by rw [heap_onObj, if_neg HNE8.out]; exact b8
            have n9 : (World.onObj w8 B10 (laidAt 0 (tcells nN))).heap[B10]? = some (.cells (tcells nN) 26 (0, 0)) := by rw [heap_onObj, if_pos rfl, n8, Option.map_some, laidAt_t]
            have C9 : Ch [] wr (World.onObj w8 B10 (laidAt 0 (tcells nN))) := C8.onObj (.inr HB10.out) _
            have ow9 := own_ch own8 ((Ch.refl [B10] w8).onObj (p := B10) (.inl (by simp)) (laidAt 0 (tcells nN))) (fun x hx => by rw [List.mem_singleton.1 hx]; exact HBW.out)
            clear e8 b8 n8 C8 own8
            generalize World.onObj w8 B10 (laidAt 0 (tcells nN)) = W9 at *
            go_wp2_with fail
            refine (PN _).mono ?_
            rintro e w10 ⟨ag, cg, rfl, owng, hc10⟩
            have e10 := hkeep hc10 e9
            have b10 := hkeep hc10 b9
            have n10 := hkeep hc10 n9
            have C10 := C9.trans hc10
            have ow10 := own_ch ow9 hc10 (by simp)
            rw [HGL.out] at owng
            rw [HGL.out]
            clear e9 b9 n9 C9 ow9 hc10 PN
            go_wp2_with fail
            refine (KN _).mono ?_
            rintro e w11 ⟨rfl, hc11⟩
            have e11 := hkeep hc11 e10
            have b11 := hkeep hc11 b10
            have n11 := hkeep hc11 n10
            have C11 := C10.trans hc11
            obtain ⟨curw, p1, p2, p3⟩ := pairs_at HWL.out.symm (own_ch ow10 hc11 (by simp))
            obtain ⟨curg, q1, q2, q3⟩ := pairs_at HGL.out.symm (own_ch owng hc11 (by simp))
            have KC : ∀ (x : BitVec 64 × BitVec 64) (W : World), Ch [] w11 W → x ∈ pairsT nN → Calls Tryz.prog 35 #[.slice ag nw cg, .agg #[U x.1, U x.2]] W fun e w' => e = .returned (.bool true) ∧ Ch [] W w' := by
              intro x W h hx
              have := contains_any (pairsT nN) x ag cg curg W (by have := HGL.out; have := HNW.out; omega) q1 q2 (fun r hr => hkeep h (q3 r hr).2)
              rw [decide_eq_true hx, HGL.out] at this
              exact this
            have HP := Lib.hid p1
            have HA := Lib.hid p2
            have HR := Lib.hid (fun r hr => (p3 r hr).2)
            have hnw17 := HNW.out
            clear e10 b10 n10 C10 ow10 owng hc11 KN p1 p2 p3 q1 q2 q3
            go_wp2
            obtain ⟨wo, rfl⟩ : ∃ wo : World, wo = wr := ⟨_, rfl⟩
            go_loopw [126] (fun i wr => ∃ j : Nat, i = .int .i64 j ∧ j ≤ nw ∧ Ch [] w11 wr) (fun i _ => nw - (intOf i).toNat)
            case atStart => exact ⟨0, rfl, Nat.zero_le _, Ch.refl _ _⟩
            case round =>
              obtain ⟨j2, hj2, hjl2, hcr2⟩ := hrel
              subst hj2
              rcases Nat.lt_or_ge j2 nw with hlt2 | hge2
              · obtain ⟨r, hra⟩ := HA.out (by rw [HWL.out]; omega)
                obtain ⟨x, hxm, -⟩ := drop_one (show j2 < WL.length by rw [HWL.out]; exact hlt2)
                have hrow2 : rowAt (j2 * 2) 2 (.cells curw 31 (0, 0)) = some #[U x.1, U x.2] := by rw [Nat.mul_comm]; exact HP.out j2 x hxm
                subst hra
                have hrr : wr.heap[r]? = some (.cells curw 31 (0, 0)) := hkeep hcr2 (HR.out r rfl)
                have hdec2 : decide (j2 < nw) = true := by simpa using hlt2
                have hne2 : ¬ r = wr.heap.size := by have := (Array.getElem?_eq_some_iff.1 hrr).1; omega
                have hcn : Ch [] wr (World.onObj (wr.alloc (.cells #[U 0#64, U 0#64] 31)) wr.heap.size (laidAt 0 #[U x.1, U x.2])) := ((Ch.refl [] wr).alloc _).onObj (.inr (Nat.le_refl _)) _
                have K2 := KC x _ (hcr2.trans hcn) (HSUB.out x (List.mem_of_getElem? hxm))
                have HCN := Lib.hid hcn
                clear hxm hcn KC
                go_wp2_with (go_at_call 35; refine K2.mono ?_; rintro e wg ⟨rfl, hcg⟩)
                go_roundw
                case rel => exact ⟨j2 + 1, by go_num, hlt2, (hcr2.trans HCN.out).trans hcg⟩
                case measure => simp [intOf]; omega
              · have hdec2 : decide (j2 < nw) = false := by simpa using hge2
                have e12 := hkeep hcr2 e11
                have b12 := hkeep hcr2 b11
                have n12 := hkeep hcr2 n11
                have C12 := C11.trans hcr2
                clear e11 b11 n11 C11 KC hge2 HP HA HR hcr2
                go_wp2_with fail
                refine (FN _).mono ?_
                rintro e w13 ⟨rfl, hc13⟩
                have e13 := hkeep hc13 e12
                have n13 := hkeep hc13 n12
                have HC13 := Lib.hid (C12.trans hc13)
                clear e12 b12 n12 C12 hc13 FN
                go_wp2
                go_roundw
                case rel => exact ⟨m + 1, nN, by go_num, hlt, by omega, HMN, by rw [heap_onObj, if_pos rfl, e13, Option.map_some, laidAt_t], (hcr.pure HC13.out).onObj (.inl (by simp)) _⟩
                case measure => simp [intOf]; omega
        · obtain ⟨nN, hnN⟩ : ∃ nN, fillT a s q.1 q.2 sl = nN := ⟨_, rfl⟩
          have hsp := place_spot hp
          have mN : May nN s := by rw [← hnN]; exact hg.out.fill q.2 hsp
          have hOLp : OL = pairsT a := HOL.out.symm.trans (delK_not hsp.not)
          have hlv0 : nN.live = ((no + 1 : Nat) : Int) := by
            rw [← hnN]; show a.live + 1 = _
            have h1 := hg.out.len
            rw [← hOLp, HLO.out] at h1
            omega
          obtain ⟨mm2, fN⟩ : ∃ n, foundE nN s q.1 = .ok (sl, n) := found_of mN hsp.lt (by rw [← hnN, fill_full, if_pos rfl]) (by rw [← hnN]; exact fill_key a s q.1 q.2 sl)
          have HSUB0 : ∀ x ∈ OL ++ [q], x ∈ pairsT nN := by
            intro x hx
            rw [← hnN]
            refine (fill_pairs q.2 hsp x).2 ?_
            rcases List.mem_append.1 hx with h | h
            · exact .inr (by rw [← hOLp]; exact h)
            · have : x = q := by simpa using h
              subst this
              exact .inl rfl
          have HWL0 : (OL ++ [q]).length = no + 1 := by rw [List.length_append, HLO.out]; rfl
          rw [hnN] at n7
          clear hp hOLp hsp
          have HGL0 := len_of mN hlv0
          have FN := fun w => find_hit mN fN w
          have PN := fun w => Pairs_yes nN s w ((may_iff nN s).2 mN)
          have KN := fun w => check_ok mN w
          have HMN := Lib.hid mN
          have HNO0 := HNO16.out
          have hgt : no < no + 1 := Nat.lt_succ_self no
          have hlv := hlv0
          rw [← pcells_one_snoc] at own7
          clear mN fN hnN HOL HNO HLO HNO16 hlv0 HOB
          generalize OL ++ [q] = WL at *
          generalize hnw : no + 1 = nw at *
          have HSUB := Lib.hid HSUB0
          have HWL := Lib.hid HWL0
          have HGL := Lib.hid HGL0
          have HNW : Hid (nw ≤ 17) := Lib.hid (by omega)
          clear HSUB0 HWL0 HGL0 HNO0 hnw
          skip
          have e9 := e7
          have b9 := b87
          have n9 := n7
          have C9 := C7
          have ow9 := own7
          clear e7 b87 n7 C7 own7 oo7
          obtain ⟨W9, hW9⟩ : ∃ W9, w7 = W9 := ⟨_, rfl⟩
          rw [hW9] at e9 b9 n9 C9 ow9 ⊢
          clear hW9
          go_wp2_with fail
          refine (PN _).mono ?_
          rintro e w10 ⟨ag, cg, rfl, owng, hc10⟩
          have e10 := hkeep hc10 e9
          have b10 := hkeep hc10 b9
          have n10 := hkeep hc10 n9
          have C10 := C9.trans hc10
          have ow10 := own_ch ow9 hc10 (by simp)
          rw [HGL.out] at owng
          rw [HGL.out]
          clear e9 b9 n9 C9 ow9 hc10 PN
          go_wp2_with fail
          refine (KN _).mono ?_
          rintro e w11 ⟨rfl, hc11⟩
          have e11 := hkeep hc11 e10
          have b11 := hkeep hc11 b10
          have n11 := hkeep hc11 n10
          have C11 := C10.trans hc11
          obtain ⟨curw, p1, p2, p3⟩ := pairs_at HWL.out.symm (own_ch ow10 hc11 (by simp))
          obtain ⟨curg, q1, q2, q3⟩ := pairs_at HGL.out.symm (own_ch owng hc11 (by simp))
          have KC : ∀ (x : BitVec 64 × BitVec 64) (W : World), Ch [] w11 W → x ∈ pairsT nN → Calls Tryz.prog 35 #[.slice ag nw cg, .agg #[U x.1, U x.2]] W fun e w' => e = .returned (.bool true) ∧ Ch [] W w' := by
            intro x W h hx
            have := contains_any (pairsT nN) x ag cg curg W (by have := HGL.out; have := HNW.out; omega) q1 q2 (fun r hr => hkeep h (q3 r hr).2)
            rw [decide_eq_true hx, HGL.out] at this
            exact this
          have HP := Lib.hid p1
          have HA := Lib.hid p2
          have HR := Lib.hid (fun r hr => (p3 r hr).2)
          have hnw17 := HNW.out
          clear e10 b10 n10 C10 ow10 owng hc11 KN p1 p2 p3 q1 q2 q3
          go_wp2
          obtain ⟨wo, rfl⟩ : ∃ wo : World, wo = wr := ⟨_, rfl⟩
          go_loopw [126] (fun i wr => ∃ j : Nat, i = .int .i64 j ∧ j ≤ nw ∧ Ch [] w11 wr) (fun i _ => nw - (intOf i).toNat)
          case atStart => exact ⟨0, rfl, Nat.zero_le _, Ch.refl _ _⟩
          case round =>
            obtain ⟨j2, hj2, hjl2, hcr2⟩ := hrel
            subst hj2
            rcases Nat.lt_or_ge j2 nw with hlt2 | hge2
            · obtain ⟨r, hra⟩ := HA.out (by rw [HWL.out]; omega)
              obtain ⟨x, hxm, -⟩ := drop_one (show j2 < WL.length by rw [HWL.out]; exact hlt2)
              have hrow2 : rowAt (j2 * 2) 2 (.cells curw 31 (0, 0)) = some #[U x.1, U x.2] := by rw [Nat.mul_comm]; exact HP.out j2 x hxm
              subst hra
              have hrr : wr.heap[r]? = some (.cells curw 31 (0, 0)) := hkeep hcr2 (HR.out r rfl)
              have hdec2 : decide (j2 < nw) = true := by simpa using hlt2
              have hne2 : ¬ r = wr.heap.size := by have := (Array.getElem?_eq_some_iff.1 hrr).1; omega
              have hcn : Ch [] wr (World.onObj (wr.alloc (.cells #[U 0#64, U 0#64] 31)) wr.heap.size (laidAt 0 #[U x.1, U x.2])) := ((Ch.refl [] wr).alloc _).onObj (.inr (Nat.le_refl _)) _
              have K2 := KC x _ (hcr2.trans hcn) (HSUB.out x (List.mem_of_getElem? hxm))
              have HCN := Lib.hid hcn
              clear hxm hcn KC
              go_wp2_with (go_at_call 35; refine K2.mono ?_; rintro e wg ⟨rfl, hcg⟩)
              go_roundw
              case rel => exact ⟨j2 + 1, by go_num, hlt2, (hcr2.trans HCN.out).trans hcg⟩
              case measure => simp [intOf]; omega
            · have hdec2 : decide (j2 < nw) = false := by simpa using hge2
              have e12 := hkeep hcr2 e11
              have b12 := hkeep hcr2 b11
              have n12 := hkeep hcr2 n11
              have C12 := C11.trans hcr2
              clear e11 b11 n11 C11 KC hge2 HP HA HR hcr2
              go_wp2_with fail
              refine (FN _).mono ?_
              rintro e w13 ⟨rfl, hc13⟩
              have e13 := hkeep hc13 e12
              have n13 := hkeep hc13 n12
              have HC13 := Lib.hid (C12.trans hc13)
              clear e12 b12 n12 C12 hc13 FN
              go_wp2
              go_roundw
              case rel => exact ⟨m + 1, nN, by go_num, hlt, by omega, HMN, by rw [heap_onObj, if_pos rfl, e13, Option.map_some, laidAt_t], (hcr.pure HC13.out).onObj (.inl (by simp)) _⟩
              case measure => simp [intOf]; omega
    · have hdec : decide (m < ll) = false := by simpa using hge
      clear hge
      go_wp2
      go_ret
      exact ⟨rfl, hCw⟩
end Go.Proofs.Hc
