/- Law 17, TableRoom: the walk. -/
import Derived.Test.YtaddieimkpijeaaGreatKHlhHlh2
set_option linter.unusedSimpArgs false
set_option linter.unusedVariables false
namespace Go.Proofs.Hc
open Go.RowKit
attribute [local go_sem] wrap_u64 wrap_u8 bits_xor64 bits_and64 bits_or64 bits_not64 bits_xor8 bits_and8 bits_or8 signed64 signed8 ofInt_N BitVec.ofInt_add BitVec.ofInt_mul ofInt_sub' ofInt8_N64 ofInt64_N8 wide8 eqN neN shr_pow shr1 shr7 shr56
attribute [local go_sem high] bits_com64 shl_wrap
attribute [local go_sem] cell_heap ice_heap cellAt_cells iceAt_cells setAt_cells rowAt_cells canLay_cells laidAt_cells size_onObj size_setCell rowRes_some layRes_true
attribute [local go_sem] load26 load73 load23 store26 build73
attribute [local go_sem ↓] lrow26 lrow73 lrow23 srow26 zero26 brow73 heap_alloc heap_drew heap_drewN heap_setCell heap_onObj
attribute [local go_sem] tcells_size hcells_size tcells_get hcells_get tcells_one hcells_one hcells_table tcells_table hcells_all hcells_ctrl tcells_ctrl
attribute [local go_sem] nn2 nm2 nn3 nm3 nn4 nm4 nn5 nm5 nn6 nm6 nn7 nm7 nn8 nm8
attribute [local go_sem] loadA loadT2 storeA storeT2 buildA_ts buildA_sm assert_errno make_func acells_size t2cells_size acells_get t2cells_get acells_one t2cells_one acells_table acells_all t2cells_all t2cells_l t2cells_r
attribute [local go_sem ↓] lrowA lrowT2 srowA srowT2 browA zeroA_run zeroT2_run
attribute [local go_sem] nn2 nm2 nn3 nm3 nn4 nm4 nn5 nm5 nn6 nm6 nn7 nm7 nn8 nm8
attribute [local go_sem] Oper.semAt_some make_func1 ofInt_pow8
attribute [local go_sem] box26 tcells_idx cell0 cell1 cell2 cell3 cell4 hcells_idx hcells_pop
attribute [local go_sem] cell5 cell6 t2cells_idx
attribute [local go_sem] loadP storeP allOne_pair
attribute [local go_sem ↓] lrowP srowP zeroP
attribute [local go_sem high] laidAt_t laidAt_a laidAt_t2 laidAt_p
theorem check_bad {t : Tab} {s : BitVec 64} (h : mayT t s = false) (w : World) : Calls Tryz.prog 26 #[U s, .agg (tcells t)] w fun e w' => e = .returned (I 270) ∧ Ch [] w w' := by
  have := check_any t s w
  rw [h, if_neg (by decide)] at this
  exact this
set_option maxHeartbeats 1000000 in
set_option maxRecDepth 100000 in
theorem room_bad (t : Tab) (s : BitVec 64) (ka : Option Addr) (kl kc : Nat) (w : World) (hm : mayT t s = false) :
    Calls Tryz.prog 7 #[U s, .agg (tcells t), .slice ka kl kc] w fun e w' => e = .returned (.bool true) ∧ Ch [] w w' := by
  have A1 : ∀ w, Calls Tryz.prog 11 #[U s, .agg (tcells t)] w fun e w' => e = .returned (.tuple #[.agg (tcells zeroT), I 270]) ∧ Ch [] w w' := fun w => by
    have := Anew_any t s w
    rw [ifMay, hm, if_neg (by decide)] at this
    exact this
  have K1 := fun w => check_bad hm w
  clear hm
  go_enter Tryz.func7, Tryz.ntmps7
  go_wp2_with fail
  refine (wakes_any _).mono ?_
  rintro e w1 ⟨rfl, hc1⟩
  have b1 := hkeep hc1 (show (w.alloc (.cells (tcells t) 26)).heap[w.heap.size]? = some (.cells (tcells t) 26 (0, 0)) by simp [go_sem])
  have C1 : Ch [] w w1 := ((Ch.refl [] w).alloc _).trans hc1
  clear hc1
  go_wp2_with fail
  refine (A1 _).mono ?_
  rintro e w2 ⟨rfl, hc2⟩
  have b2 := hkeep hc2 b1
  have C2 := C1.trans hc2
  have hn2 : ¬ w.heap.size = w2.heap.size := by have := (Array.getElem?_eq_some_iff.1 b2).1; omega
  clear b1 C1 hc2 A1
  go_wp2_with fail
  refine (K1 _).mono ?_
  rintro e w3 ⟨rfl, hc3⟩
  go_wp2
  go_ret
  exact ⟨rfl, ((C2.alloc _).onObj (.inr C2.size) _).trans hc3⟩
/-- What a key comes to that is put in a table that may be, none of whose slots is deleted. -/
theorem put_step {a : Tab} {s : BitVec 64} (m : May a s) (hc : Clean a) (k v : BitVec 64) : (∃ c : Int, (c = 2 ∨ c = 5 ∨ c = 6 ∧ 14 ≤ a.live) ∧ placeT a s k = .error c) ∨ ∃ sl, placeT a s k = .ok sl ∧ May (fillT a s k v sl) s ∧ Clean (fillT a s k v sl) := by
  rcases place_cases a s k with ⟨_, h⟩ | ⟨_, _, h⟩ | ⟨h1, h2, h⟩ | ⟨_, _, sl, h⟩
  · exact .inl ⟨2, .inl rfl, h⟩
  · exact .inl ⟨5, .inr (.inl rfl), h⟩
  · refine .inl ⟨6, .inr (.inr ⟨rfl, ?_⟩), h⟩
    have hcan := clean_can m hc
    rcases (show 0 < a.can ∨ a.can ≤ 0 by omega) with h3 | h3
    · obtain ⟨sl, h4⟩ := place_room m h3 h1 h2
      rw [h] at h4; cases h4
    · omega
  · exact .inr ⟨sl, h, m.fill v (place_spot h), hc.fill s k v sl⟩
theorem put_err {a : Tab} {s k : BitVec 64} {c : Int} (m : May a s) (h : placeT a s k = .error c) (w : World) : Calls Tryz.prog 19 #[U s, .agg (tcells a), U k, .int .u64 1] w fun e w' => e = .returned (.tuple #[.agg (tcells zeroT), I 0, I c]) ∧ Ch [] w w' := by
  have := Put_any a s k 1#64 w
  rw [ifMay, if_pos ((may_iff a s).2 m), putA, h] at this
  exact this
theorem put_okk {a : Tab} {s k : BitVec 64} {sl : Nat} (m : May a s) (h : placeT a s k = .ok sl) (w : World) : Calls Tryz.prog 19 #[U s, .agg (tcells a), U k, .int .u64 1] w fun e w' => e = .returned (.tuple #[.agg (tcells (fillT a s k 1#64 sl)), I sl, I 0]) ∧ Ch [] w w' := by
  have := Put_any a s k 1#64 w
  rw [ifMay, if_pos ((may_iff a s).2 m), putA, h] at this
  exact this
set_option maxHeartbeats 4000000 in
set_option maxRecDepth 100000 in
theorem room_ok (t : Tab) (s : BitVec 64) (X : Tab) (PX PT : List (BitVec 64 × BitVec 64)) (ka : Option Addr) (kl kc : Nat) (ks : Nat → BitVec 64) (w : World)
    (hA : ∀ w, Calls Tryz.prog 11 #[U s, .agg (tcells t)] w fun e w' => e = .returned (.tuple #[.agg (tcells X), I 0]) ∧ Ch [] w w')
    (hPX : ∀ w, Calls Tryz.prog 29 #[U s, .agg (tcells X)] w (PairsPost w PX))
    (hPT : ∀ w, Calls Tryz.prog 29 #[U s, .agg (tcells t)] w (PairsPost w PT))
    (hlen : PX.length = PT.length) (hPT14 : PT.length ≤ 14) (hsub : ∀ p ∈ PX, p ∈ PT) (hcan : X.can = 14 - (PT.length : Int)) (hcount : X.count = t.count) (hmay : May X s) (hclean : Clean X)
    (hkl : kl ≤ 9223372036854775807) (hk : ∀ j, j < kl → ∃ kb ko, ka = some ⟨kb, ko, none⟩ ∧ kb < w.heap.size ∧ (w.heap[kb]?).bind (cellAt (ko + j)) = some (U (ks j))) :
    Calls Tryz.prog 7 #[U s, .agg (tcells t), .slice ka kl kc] w fun e w' => e = .returned (.bool true) ∧ Ch [] w w' := by
  have HSUB := Lib.hid hsub
  have HLEN := Lib.hid hlen
  have HK := Lib.hid hk
  have HMAY := Lib.hid hmay
  have HCLEAN := Lib.hid hclean
  clear hsub hlen hk hmay hclean
  go_enter Tryz.func7, Tryz.ntmps7
  go_wp2_with fail
  refine (wakes_any _).mono ?_
  rintro e w1 ⟨rfl, hc1⟩
  have b1 := hkeep hc1 (show (w.alloc (.cells (tcells t) 26)).heap[w.heap.size]? = some (.cells (tcells t) 26 (0, 0)) by simp [go_sem])
  have C1 : Ch [] w w1 := ((Ch.refl [] w).alloc _).trans hc1
  obtain ⟨T0, hT0⟩ : ∃ T0, w.heap.size = T0 := ⟨_, rfl⟩
  rw [hT0] at b1 ⊢
  have HT0 := Lib.hid hT0
  clear hc1 hT0
  go_wp2_with fail
  refine (hA _).mono ?_
  rintro e w2 ⟨rfl, hc2⟩
  have b2 := hkeep hc2 b1
  have C2 := C1.trans hc2
  clear b1 C1 hc2 hA
  go_wp2_with fail
  have b3 := hkeep (new_ch w2 zeroT X) b2
  have x3 := new_block w2 zeroT X
  have C3 := C2.trans (new_ch w2 zeroT X)
  have hz2 := C2.size
  generalize World.onObj (w2.alloc (.cells (tcells zeroT) 26)) w2.heap.size (laidAt 0 (tcells X)) = W3 at *
  generalize w2.heap.size = A7 at *
  clear b2 C2
  have hS : (fun W' : World => W'.heap[T0]? = some (.cells (tcells t) 26 (0, 0)) ∧ W'.heap[A7]? = some (.cells (tcells X) 26 (0, 0))) W3.drew := ⟨b3, x3⟩
  refine wp_region_held_drew (S := fun W' => W'.heap[T0]? = some (.cells (tcells t) 26 (0, 0)) ∧ W'.heap[A7]? = some (.cells (tcells X) 26 (0, 0))) (by kernel_rfl) hS ?_
  intro _
  simp only [List.size_toArray, List.length_cons, List.length_nil, Nat.reduceAdd]
  refine wpAnyH_take (i := 0) (oi := ⟨some 33, _, _, _, _, none⟩) (v := ?_) rfl (by kernel_rfl) (by kernel_rfl) (by kernel_rfl) (fun _ _ _ h => h) (Or.inl ⟨by rfl, ?_⟩) hS ?_
  rotate_left
  · intro wq hSq
    obtain ⟨s1, s2⟩ := hSq
    first | (go_simp; done) | (go_simp; with_reducible rfl)
  try simp only [Act.put, List.setIfInBounds_toArray, List.set_cons_zero, List.set_cons_succ]
  refine wpAnyH_take (i := 1) (oi := ⟨some 34, _, _, _, _, none⟩) (v := ?_) rfl (by kernel_rfl) (by kernel_rfl) (by kernel_rfl) (fun _ _ _ h => h) (Or.inl ⟨by rfl, ?_⟩) hS ?_
  rotate_left
  · intro wq hSq
    obtain ⟨s1, s2⟩ := hSq
    first | (go_simp; done) | (go_simp; with_reducible rfl)
  try simp only [Act.put, List.setIfInBounds_toArray, List.set_cons_zero, List.set_cons_succ]
  refine wpAnyH_take (i := 3) (oi := ⟨some 36, _, _, _, _, none⟩) (v := ?_) rfl (by kernel_rfl) (by kernel_rfl) (by kernel_rfl) (fun _ _ _ h => h) (Or.inl ⟨by rfl, ?_⟩) hS ?_
  rotate_left
  · intro wq hSq
    obtain ⟨s1, s2⟩ := hSq
    first | (go_simp; done) | (go_simp; with_reducible rfl)
  try simp only [Act.put, List.setIfInBounds_toArray, List.set_cons_zero, List.set_cons_succ]
  refine wpAnyH_take (i := 4) (oi := ⟨some 37, _, _, _, _, none⟩) (v := ?_) rfl (by kernel_rfl) (by kernel_rfl) (by kernel_rfl) (fun _ _ _ h => h) (Or.inl ⟨by rfl, ?_⟩) hS ?_
  rotate_left
  · intro wq hSq
    obtain ⟨s1, s2⟩ := hSq
    first | (go_simp; done) | (go_simp; with_reducible rfl)
  try simp only [Act.put, List.setIfInBounds_toArray, List.set_cons_zero, List.set_cons_succ]
  refine wpAnyH_ready (rs := [2]) (by kernel_rfl) (by simp) ?_
  refine AllReadyH.cons rfl (fun K hK => ?_) AllReadyH.nil
  go_simp
  refine (hPT _).mono ?_
  rintro e w4 ⟨a9, c9, rfl, own9, hc4⟩
  have hS4 : w4.heap[T0]? = some (.cells (tcells t) 26 (0, 0)) ∧ w4.heap[A7]? = some (.cells (tcells X) 26 (0, 0)) := ⟨hkeep hc4 hS.1, hkeep hc4 hS.2⟩
  refine hK.out _ _ hS4 (fun _ => ?_)
  clear hK K
  refine wpAnyH_ready (rs := [5]) (by kernel_rfl) (by simp) ?_
  refine AllReadyH.cons rfl (fun K hK => ?_) AllReadyH.nil
  go_simp
  refine (hPX _).mono ?_
  rintro e w5 ⟨a8, c8, rfl, own8, hc5⟩
  have hS5 : w5.heap[T0]? = some (.cells (tcells t) 26 (0, 0)) ∧ w5.heap[A7]? = some (.cells (tcells X) 26 (0, 0)) := ⟨hkeep hc5 hS4.1, hkeep hc5 hS4.2⟩
  refine hK.out _ _ hS5 (fun _ => ?_)
  clear hK K
  refine wpAnyH_take (i := 6) (oi := ⟨some 9, _, _, _, _, none⟩) (v := ?_) rfl (by kernel_rfl) (by kernel_rfl) (by kernel_rfl) (fun _ _ _ h => h) (Or.inl ⟨by rfl, ?_⟩) hS5 ?_
  rotate_left
  · intro wq hSq
    obtain ⟨s1, s2⟩ := hSq
    first | (go_simp; done) | (go_simp; with_reducible rfl)
  try simp only [Act.put, List.setIfInBounds_toArray, List.set_cons_zero, List.set_cons_succ]
  refine wpAnyH_take (i := 7) (oi := ⟨some 10, _, _, _, _, none⟩) (v := ?_) rfl (by kernel_rfl) (by kernel_rfl) (by kernel_rfl) (fun _ _ _ h => h) (Or.inl ⟨by rfl, ?_⟩) hS5 ?_
  rotate_left
  · intro wq hSq
    obtain ⟨s1, s2⟩ := hSq
    first | (go_simp; done) | (go_simp; with_reducible rfl)
  try simp only [Act.put, List.setIfInBounds_toArray, List.set_cons_zero, List.set_cons_succ]
  refine wpAnyH_done (by kernel_rfl) ?_ _
  have C5 : Ch [] w w5 := ((C3.drew).trans hc4).trans hc5
  have own9' := own_ch own9 hc5 (by simp)
  obtain ⟨b5, x5⟩ := hS5
  obtain ⟨cur8, p1, p2, p3⟩ := pairs_at rfl own8
  obtain ⟨cur9, q1, q2, q3⟩ := pairs_at rfl own9'
  clear own8 own9 own9' hc4 hc5 hS hS4 b3 x3 C3 hPT hPX
  have K1 : ∀ (q : BitVec 64 × BitVec 64) (W : World), Ch [] w5 W → q ∈ PT → Calls Tryz.prog 35 #[.slice a9 PT.length c9, .agg #[U q.1, U q.2]] W fun e w' => e = .returned (.bool true) ∧ Ch [] W w' := by
    intro q W h hq
    have := contains_any PT q a9 c9 cur9 W (by omega) q1 q2 (fun r hr => hkeep h (q3 r hr).2)
    rw [decide_eq_true hq] at this
    exact this
  have HP := Lib.hid p1
  have HA := Lib.hid p2
  have HR := Lib.hid (fun r hr => (p3 r hr).2)
  clear p1 p2 p3 q1 q2 q3
  rw [HLEN.out]
  go_wp2
  go_loopw [41] (fun i wr => ∃ j : Nat, i = .int .i64 j ∧ j ≤ PT.length ∧ Ch [] w5 wr) (fun i _ => PT.length - (intOf i).toNat)
  case atStart => exact ⟨0, rfl, Nat.zero_le _, Ch.refl _ _⟩
  case round =>
    obtain ⟨j, hj, hjl, hcr⟩ := hrel
    subst hj
    rcases Nat.lt_or_ge j PT.length with hlt | hge
    · obtain ⟨r, hra⟩ := HA.out (by rw [HLEN.out]; omega)
      obtain ⟨q, hqm, -⟩ := drop_one (show j < PX.length by rw [HLEN.out]; exact hlt)
      have hrow' : rowAt (j * 2) 2 (.cells cur8 31 (0, 0)) = some #[U q.1, U q.2] := by rw [Nat.mul_comm]; exact HP.out j q hqm
      subst hra
      have hrr : wr.heap[r]? = some (.cells cur8 31 (0, 0)) := hkeep hcr (HR.out r rfl)
      have hdec : decide (j < PT.length) = true := by simpa using hlt
      have hne2 : ¬ r = wr.heap.size := by have := (Array.getElem?_eq_some_iff.1 hrr).1; omega
      have hcn : Ch [] wr (World.onObj (wr.alloc (.cells #[U 0#64, U 0#64] 31)) wr.heap.size (laidAt 0 #[U q.1, U q.2])) := ((Ch.refl [] wr).alloc _).onObj (.inr (Nat.le_refl _)) _
      have K2 := K1 q _ (hcr.trans hcn) (HSUB.out q (List.mem_of_getElem? hqm))
      have HCN := Lib.hid hcn
      clear hqm hcn K1
      go_wp2_with (go_at_call 35; refine K2.mono ?_; rintro e wg ⟨rfl, hcg⟩)
      go_roundw
      case rel => exact ⟨j + 1, by go_num, hlt, (hcr.trans HCN.out).trans hcg⟩
      case measure => simp [intOf]; omega
    · have hdec : decide (j < PT.length) = false := by simpa using hge
      have x6 := hkeep hcr x5
      have b6 := hkeep hcr b5
      have C6 := C5.trans hcr
      clear x5 b5 K1 hge HP HA HR C5 hcr
      go_wp2
      obtain ⟨wo, rfl⟩ : ∃ wo : World, wo = wr := ⟨_, rfl⟩
      go_loopw [72] (fun i wr => ∃ (m : Nat) (a : Tab), i = .int .i64 m ∧ m ≤ kl ∧ m ≤ 40 ∧ Hid (May a s ∧ Clean a) ∧ wr.heap[A7]? = some (.cells (tcells a) 26 (0, 0)) ∧ Ch [A7] wo wr) (fun i _ => kl - (intOf i).toNat)
      case atStart => exact ⟨0, X, rfl, by omega, by omega, Lib.hid ⟨HMAY.out, HCLEAN.out⟩, x6, Ch.refl _ _⟩
      case round =>
        obtain ⟨m, a, hm, hml, hm40, hg, ha7, hcq⟩ := hrel
        subst hm
        have hl14 : a.live ≤ 14 := ((flatT_iff a).1 hg.out.1.flat).2.2.2.2.2.2
        have hCq : Ch [] w wr := C6.trans2 hcq (fun t ht => .inr (by simp at ht; omega))
        have KC := check_ok hg.out.1
        clear x6 b6
        rcases Nat.lt_or_ge m kl with hlt | hge
        · obtain ⟨kb, ko, hka, hkb, hkc⟩ := HK.out m hlt
          subst hka
          have hkc' : (wr.heap[kb]?).bind (cellAt (ko + m)) = some (U (ks m)) := by rw [hCq.block kb hkb (by simp)]; exact hkc
          have hdec : decide (m < kl) = true := by simpa using hlt
          clear hkc hkb
          by_cases h40 : m = 40
          · subst h40
            go_wp2_with (go_at_call 26; refine (KC _).mono ?_; rintro e wz ⟨rfl, hcz⟩)
            go_ret
            exact ⟨rfl, hCq.trans hcz⟩
          · have h40' : ((m : Int) == 40) = false := by simp; omega
            rcases put_step hg.out.1 hg.out.2 (ks m) 1#64 with ⟨c, hc, hp⟩ | ⟨sl, hp, hm', hc'⟩
            · have P1 := fun w => put_err hg.out.1 hp w
              clear hp
              rcases hc with rfl | rfl | ⟨rfl, h14⟩
              all_goals
                go_wp2_with fail
                refine (P1 _).mono ?_
                rintro e w8 ⟨rfl, hc8⟩
                have a8 := hkeep hc8 ha7
                have hne8 : ¬ A7 = w8.heap.size := by have := (Array.getElem?_eq_some_iff.1 a8).1; omega
                have HC8 := Lib.hid (hc8.trans (new_ch w8 zeroT zeroT))
                clear hc8 KC P1 ha7
                go_wp2
                go_roundw
                case rel => exact ⟨m + 1, a, by go_num, hlt, by omega, hg, hkeep (new_ch w8 zeroT zeroT) a8, hcq.pure HC8.out⟩
                case measure => simp [intOf]; omega
            · have P2 := fun w => put_okk hg.out.1 hp w
              have HG2 := Lib.hid (And.intro hm' hc')
              clear hp hm' hc'
              generalize fillT a s (ks m) 1#64 sl = a2 at *
              go_wp2_with fail
              refine (P2 _).mono ?_
              rintro e w8 ⟨rfl, hc8⟩
              have a8 := hkeep hc8 ha7
              have hne8 : ¬ A7 = w8.heap.size := by have := (Array.getElem?_eq_some_iff.1 a8).1; omega
              have HC8 := Lib.hid (hc8.trans (new_ch w8 zeroT a2))
              clear hc8 KC P2 ha7
              go_wp2
              go_roundw
              case rel => exact ⟨m + 1, a2, by go_num, hlt, by omega, HG2, by rw [heap_onObj, if_pos rfl, hkeep (new_ch w8 zeroT a2) a8, Option.map_some, laidAt_t], (hcq.pure HC8.out).onObj (.inl (by simp)) _⟩
              case measure => simp [intOf]; omega
        · have hdec : decide (m < kl) = false := by simpa using hge
          clear hge
          go_wp2_with (go_at_call 26; refine (KC _).mono ?_; rintro e wz ⟨rfl, hcz⟩)
          go_ret
          exact ⟨rfl, hCq.trans hcz⟩
theorem roomLaw (t : Tab) (s : BitVec 64) (ka : Option Addr) (kl kc : Nat) (ks : Nat → BitVec 64) (w : World) (hkl : kl ≤ 9223372036854775807) (hk : ∀ j, j < kl → ∃ kb ko, ka = some ⟨kb, ko, none⟩ ∧ kb < w.heap.size ∧ (w.heap[kb]?).bind (cellAt (ko + j)) = some (U (ks j))) :
    Calls Tryz.prog 7 #[U s, .agg (tcells t), .slice ka kl kc] w fun e w' => e = .returned (.bool true) ∧ Ch [] w w' := by
  cases hm : mayT t s with
  | false => exact room_bad t s ka kl kc w hm
  | true =>
    have m := (may_iff t s).1 hm
    obtain ⟨X, L⟩ := anew_ok m
    have e0 := L.may.len
    have hlive : X.live = ((pairsT t).length : Int) := by rw [L.live]; show (0 : Int) + _ = _; omega
    refine room_ok t s X (pairsT X) (pairsT t) ka kl kc ks w ?_ (fun w => Pairs_yes X s w ((may_iff X s).2 L.may)) (fun w => Pairs_yes t s w hm) (by omega) (by have := live_le m; omega) (fun p hp => ?_) ?_ L.count L.may L.clean hkl hk
    · intro w
      have := Anew_any t s w
      rw [ifMay, if_pos hm, anewT, L.eq] at this
      exact this
    · rcases (L.mem p).1 hp with h | h
      · exact h
      · exact absurd h (bare_pairs _ _ _ p)
    · rw [clean_can L.may L.clean, hlive]
end Go.Proofs.Hc
