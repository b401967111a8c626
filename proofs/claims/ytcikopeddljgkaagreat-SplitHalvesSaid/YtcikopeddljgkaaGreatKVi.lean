/- Law 22: SplitHalves, the walk (printed by gen_halves22.py). -/
import Derived.Test.YtcikopeddljgkaaGreatKVe
import Derived.Test.YtcikopeddljgkaaGreatK0
set_option linter.unusedSimpArgs false
set_option linter.unusedVariables false
set_option maxHeartbeats 8000000
set_option maxRecDepth 100000
namespace Go.Proofs.Hc
open Go.RowKit
attribute [local go_sem] zbr zcd zat zaz zbn zax zbm zbo zbw signed64 signed8 zar BitVec.ofInt_add BitVec.ofInt_mul ofInt_sub' zav zaw wide8 eqN neN zcc shr1 shr7 shr56
attribute [local go_sem high] zay zbv
attribute [local go_sem] zau zbx zai zal zac zbd zan zah zbk zaj zbc zbe
attribute [local go_sem] load26 load73 load23 store26 build73
attribute [local go_sem ↓] lrow26 lrow73 lrow23 srow26 zero26 brow73 zab zba zbb zaa zae
attribute [local go_sem] zag zap zaf zbf zbi zbp zam zaq zbq zbh zbg
attribute [local go_sem] nn2 nm2 nn3 nm3 nn4 nm4 nn5 nm5 nn6 nm6 nn7 nm7 nn8 nm8
section
attribute [local go_sem] loadA loadT2 storeA storeT2 buildA_ts buildA_sm zcm make_func zcl zbt zcw zcg zdd zcr zcn zde zcs t2cells_l t2cells_r
attribute [local go_sem ↓] lrowA lrowT2 srowA srowT2 browA zeroA_run zcz
attribute [local go_sem] zar zbj
attribute [local go_sem] Oper.semAt_some zak
attribute [local go_sem] zci pacell0 pacell1 pacell2 pacell3 pacell4 pacell5 pacell6 pacell7 pacell42
attribute [local go_sem] zcv zdi zdc zcy zcx zdb zdh zda zcf zct part_s6 zdg zco zbl zch zcj boxPart loadPart storePart zce zcq buildPart0 buildPart4
attribute [local go_sem ↓] lrowPart srowPart browPart zck zbs
attribute [local go_sem high] zas
attribute [local irreducible] partC
attribute [local go_sem] box26 zbz cell0 cell1 cell2 cell3 cell4 zcb zca
attribute [local irreducible] tcells t2cells
attribute [local go_sem high] zcu laidAt_t2 laid2i tmod2_64w bit64w bit64zw
attribute [local go_sem] guard26 build_two build2i_21 load2i store2i one2i index2i_0 index2i_1
attribute [local go_sem ↓] eql_tab neq_tab zero2i lrow2i srow2i
theorem halves22_yesB (t : Tab) (seed : BitVec 64) (hf : flatT t = true) (ho : oddB t.count = false) (hd : t.depth < 5) {x : T2} (hx : halvesTS t seed = some x) (hm : mayT t seed = false) (w : World) : Calls Tryz.prog 7 #[U seed, .agg (tcells t), .bool true] w fun e w' => e = .returned (.bool true) ∧ Ch [] w w' := by
  have q22 : ∀ (w : World) (a : Option Addr) (n c n' c' : Nat), (binOp .eql 44 (.slice a n c) (.slice none n' c')).run Tryz.prog w = .ok (.bool a.isNone) w := fun w a n c n' c' => Lib.run_eql_slice_nil w _ _ a n c n' c' Tryz.underlying44
  have W1 := fun w => wakes22_any w
  have L1 := fun w => cells22_ok t hf w
  have TS : TwoS 2 1 := ⟨by decide⟩
  have B1 : ∀ w, Calls Tryz.prog 24 #[.int .i64 3, .int .i64 0, .agg #[.int .i64 2, .int .i64 1], U seed] w fun e w' => e = .returned (.tuple #[.agg (partC (firstP22 3 0 2 1 seed)), I 0]) ∧ Ch [] w w' := fun w => by
    have := s22Begin_any 3 0 2 1 seed w
    rw [show begin22E 3 0 2 1 seed = .ok (firstP22 3 0 2 1 seed) by unfold begin22E; rw [if_pos (TS.right seed)]] at this
    exact this
  obtain ⟨l', p', HR, hp7, h16, -, -⟩ := half_yes (a := 2) (b := 1) TS seed hf ho hd hx
  have hlv := @nFull16 t
  obtain ⟨k, hk⟩ : ∃ k, 85 + 2 * nFull t = k := ⟨_, rfl⟩
  rw [hk] at HR
  have R1 : ∀ R w, w.heap[R]? = some (.cells (wcells (cells22 t)) 22 (0, 0)) → Calls Tryz.prog 26 #[.slice (some ⟨R, 0, none⟩) 136 136, .agg (partC (firstP22 3 0 2 1 seed))] w fun e w' => ∃ Q, e = .returned (.tuple #[.slice (some ⟨Q, 0, none⟩) 136 136, .agg (partC p'), I (k : Nat), I 0]) ∧ w'.heap[Q]? = some (.cells (wcells l') 22 (0, 0)) ∧ Ch [] w w' := fun R w hb => by
    have h := s22Run_go (cells22 t) l' R 136 (wcells (cells22 t)) _ p' k w (by rw [zbu]; omega) (by rw [zbu]; omega) hb (wcells_at _) (TS.right seed) (by rw [zbu]; exact TS.there seed) HR.run (by have := HR.le; omega)
    rw [zbu] at h
    exact h.mono fun e w' ⟨Q, h1, _, h2, h3⟩ => ⟨Q, h1, h2, h3⟩
  have E16 := fun {Q R : Nat} w h1 h2 => eqSub_any 0 16 Q R 136 136 (wcells l') (wcells (cells22 t)) w (by omega) HR.sub.1 h1 h2
  have E39 := fun {Q R : Nat} w h1 h2 => eqSub_any 17 39 Q R 119 119 (wcells l') (wcells (cells22 t)) w (by omega) HR.sub.2 h1 h2
  have H1 := fun w => Halves_is t seed w
  have hk117 : (k : Int) ≤ 117 := by have := HR.le; omega
  have C0 : Ch [] w (w.alloc (.cells (tcells t) 26)) := (Ch.refl [] w).alloc _
  have t0 : (w.alloc (.cells (tcells t) 26)).heap[w.heap.size]? = some (.cells (tcells t) 26 (0, 0)) := by rw [zab, if_pos rfl]
  have eT0 : (tcells t)[0]? = some (U t.count) := by rw [zaf]; rfl
  have eT1 : (tcells t)[1]? = some (I t.depth) := by rw [zaf]; rfl
  have eT4 : (tcells t)[4]? = some (I t.live) := by rw [zaf]; rfl
  obtain ⟨p0, hp0⟩ : ∃ p, firstP22 3 0 2 1 seed = p := ⟨_, rfl⟩
  rw [hp0] at B1
  simp only [hp0] at R1
  have KC : ∀ w, Calls Tryz.prog 43 #[U seed, .agg (tcells t)] w fun e w' => e = .returned (I 270) ∧ Ch [] w w' := fun w => by
    have := check_any t seed w
    rw [hm, if_neg (by decide)] at this
    exact this
  rw [show ifMay t seed (halvesE t (halfX t seed)) = .error 270 by unfold ifMay; rw [if_neg (by rw [hm]; decide)]] at H1
  simp only [tupOr] at H1
  obtain ⟨y2, hy2⟩ : ∃ y : T2, zeroT2 = y := ⟨_, rfl⟩
  rw [hy2] at H1
  clear hx
  obtain ⟨c0, hc0⟩ : ∃ c, wcells (cells22 t) = c := ⟨_, rfl⟩
  obtain ⟨c1, hc1⟩ : ∃ c, wcells l' = c := ⟨_, rfl⟩
  rw [hc0] at L1
  rw [hc1] at h16
  simp only [hc0, hc1] at R1 E16 E39
  have hd5 : ¬ 5 ≤ t.depth := by omega
  clear hf HR hc0 hc1 hp0 TS hm hk hlv hy2
  go_enter Tryz.func7, Tryz.ntmps7
  go_wp2_with fail
  obtain ⟨w0, hw0⟩ : ∃ W, w.alloc (.cells (tcells t) 26) = W := ⟨_, rfl⟩
  rw [hw0] at C0 t0 ⊢
  clear hw0
  obtain ⟨T, hT⟩ : ∃ T, w.heap.size = T := ⟨_, rfl⟩
  rw [hT] at t0 ⊢
  have hTw : w.heap.size ≤ T := by omega
  clear hT
  refine (W1 _).mono ?_
  rintro e w1 ⟨rfl, hc⟩
  have t1 := hkeep hc t0
  have C1 := C0.trans hc
  clear t0 C0 hc W1
  go_wp2_with fail
  refine (L1 _).mono ?_
  rintro e w2 ⟨R, rfl, -, r2, hc⟩
  have t2 := hkeep hc t1
  have C2 := C1.trans hc
  clear t1 C1 hc L1
  have nt := nsz t2
  have nr := nsz r2
  go_upto_region 7 with (fail)
  clear nt nr
  have hch := two_put_ch 1 2 w2
  have i3 := two_put 1 2 w2
  have t3 := hkeep hch t2
  have r3 := hkeep hch r2
  have ltIB := zad t2
  have lrIB := zad r2
  have C3 := C2.trans hch
  have hIBw := C2.size
  clear t2 r2 C2 hch
  obtain ⟨w3, hw3⟩ : ∃ W, World.onObj (w2.alloc (.cells #[I 0, I 0] 45)) w2.heap.size (laidAt 0 #[I 1, I 2]) = W := ⟨_, rfl⟩
  rw [hw3] at i3 t3 r3 C3 ⊢
  clear hw3
  obtain ⟨IB, hIB⟩ : ∃ b, w2.heap.size = b := ⟨_, rfl⟩
  rw [hIB] at i3 hIBw ltIB lrIB ⊢
  clear hIB
  go_upto_region 9 with (fail)
  have i4 : (World.onObj w3 IB (laidAt 0 #[I 2, I 1])).heap[IB]? = some (.cells #[I 2, I 1] 45 (0, 0)) := by rw [zae, if_pos rfl, i3, Option.map_some, laid2i]
  have t4 := (zao (w := w3) (F := IB) (laidAt 0 #[I 2, I 1]) (show ¬ T = IB by omega)).trans t3
  have r4 := (zao (w := w3) (F := IB) (laidAt 0 #[I 2, I 1]) (show ¬ R = IB by omega)).trans r3
  have C4 : Ch [] w (World.onObj w3 IB (laidAt 0 #[I 2, I 1])) := C3.onObj (p := IB) (.inr hIBw) _
  clear t3 r3 i3 C3
  obtain ⟨w4, hw4⟩ : ∃ W, (World.onObj w3 IB (laidAt 0 #[I 2, I 1])) = W := ⟨_, rfl⟩
  rw [hw4] at t4 r4 i4 C4 ⊢
  clear hw4
  go_wp2_with fail
  refine (B1 _).mono ?_
  rintro e w5 ⟨rfl, hc⟩
  have t5 := hkeep hc t4
  have r5 := hkeep hc r4
  have i5 := hkeep hc i4
  have C5 := C4.trans hc
  clear t4 r4 i4 C4 hc B1
  have nt := nsz t5
  have nr := nsz r5
  have ni := nsz i5
  go_upto_region 10 with (fail)
  clear nt nr ni
  have hch := part_put_ch p0 w5
  have p6 := part_put p0 w5
  have t6 := hkeep hch t5
  have r6 := hkeep hch r5
  have i6 := hkeep hch i5
  have ltPB := zad t5
  have lrPB := zad r5
  have liPB := zad i5
  have C6 := C5.trans hch
  have hPBw := C5.size
  clear t5 r5 i5 C5 hch
  obtain ⟨w6, hw6⟩ : ∃ W, World.onObj (w5.alloc (.cells (partC zeroPart) 51)) w5.heap.size (laidAt 0 (partC p0)) = W := ⟨_, rfl⟩
  rw [hw6] at p6 t6 r6 i6 C6 ⊢
  clear hw6
  obtain ⟨PB, hPB⟩ : ∃ b, w5.heap.size = b := ⟨_, rfl⟩
  rw [hPB] at p6 hPBw ltPB lrPB liPB ⊢
  clear hPB
  go_wp2_with fail
  refine (R1 _ _ r6).mono ?_
  rintro e w7 ⟨Q, rfl, q7, hc⟩
  have t7 := hkeep hc t6
  have r7 := hkeep hc r6
  have i7 := hkeep hc i6
  have p7 := hkeep hc p6
  have C7 := C6.trans hc
  clear t6 r6 i6 p6 C6 hc R1
  have nt := nsz t7
  have nr := nsz r7
  have ni := nsz i7
  have np := nsz p7
  have nq := nsz q7
  go_upto_region 11 with (fail)
  clear nt nr ni np nq
  have hch := part_put_ch p' w7
  have x8 := part_put p' w7
  have t8 := hkeep hch t7
  have r8 := hkeep hch r7
  have i8 := hkeep hch i7
  have p8 := hkeep hch p7
  have q8 := hkeep hch q7
  have ltXB := zad t7
  have lrXB := zad r7
  have liXB := zad i7
  have lpXB := zad p7
  have lqXB := zad q7
  have C8 := C7.trans hch
  have hXBw := C7.size
  clear t7 r7 i7 p7 q7 C7 hch
  obtain ⟨w8, hw8⟩ : ∃ W, World.onObj (w7.alloc (.cells (partC zeroPart) 51)) w7.heap.size (laidAt 0 (partC p')) = W := ⟨_, rfl⟩
  rw [hw8] at x8 t8 r8 i8 p8 q8 C8 ⊢
  clear hw8
  obtain ⟨XB, hXB⟩ : ∃ b, w7.heap.size = b := ⟨_, rfl⟩
  rw [hXB] at x8 hXBw ltXB lrXB liXB lpXB lqXB ⊢
  clear hXB
  clear p8
  refine sp_region_cut (fun a a' w' => ∃ (x46 x47 x48 x49 x50 x51 x52 x53 x54 x55 x56 x57 x58 x59 x60 x61 x62 x63 x64 x65 x66 x67 x68 x69 x70 x71 x72 x73 : Value), a' = (((((((((((((((((((((((((((((a.put (some 46) x46).put (some 47) x47).put (some 48) x48).put (some 49) x49).put (some 50) x50).put (some 51) x51).put (some 52) x52).put (some 53) x53).put (some 54) x54).put (some 55) x55).put (some 56) x56).put (some 57) x57).put (some 58) x58).put (some 59) x59).put (some 60) x60).put (some 61) x61).put (some 62) x62).put (some 63) x63).put (some 64) x64).put (some 65) x65).put (some 66) x66).put (some 67) x67).put (some 68) x68).put (some 69) x69).put (some 70) x70).put (some 71) x71).put (some 72) x72).put (some 73) x73).put (some 74) (.bool false)) ∧ w'.heap[T]? = some (.cells (tcells t) 26 (0, 0)) ∧ w'.heap[R]? = some (.cells c0 22 (0, 0)) ∧ w'.heap[IB]? = some (.cells #[I 2, I 1] 45 (0, 0)) ∧ w'.heap[Q]? = some (.cells c1 22 (0, 0)) ∧ w'.heap[XB]? = some (.cells (partC p') 51 (0, 0)) ∧ Ch [] w w') ?_ ?_
  · have s : (fun W' : World => W'.heap[Q]? = some (.cells c1 22 (0, 0)) ∧ W'.heap[R]? = some (.cells c0 22 (0, 0))) w8.drew := ⟨q8, r8⟩
    have td : w8.drew.heap[T]? = some (.cells (tcells t) 26 (0, 0)) := t8
    have id : w8.drew.heap[IB]? = some (.cells #[I 2, I 1] 45 (0, 0)) := i8
    have xd : w8.drew.heap[XB]? = some (.cells (partC p') 51 (0, 0)) := x8
    have Cd : Ch [] w w8.drew := C8.drew
    refine wp_region_held_drew (S := fun W' => W'.heap[Q]? = some (.cells c1 22 (0, 0)) ∧ W'.heap[R]? = some (.cells c0 22 (0, 0))) (by kernel_rfl) s ?_
    intro _
    simp only [List.size_toArray, List.length_cons, List.length_nil, Nat.reduceAdd]
    obtain ⟨wd, hwd⟩ : ∃ W, w8.drew = W := ⟨_, rfl⟩
    rw [hwd] at s Cd td id xd ⊢
    clear hwd
    refine wpAnyH_take (i := 0) (oi := ⟨some 46, _, _, _, _, none⟩) (v := ?_) rfl (by kernel_rfl) (by kernel_rfl) (by kernel_rfl) (fun _ _ _ h => by cases h.1) (Or.inl ⟨by rfl, ?_⟩) s ?_
    rotate_left
    · intro wq hSq
      obtain ⟨hSa, hSb⟩ := hSq
      first | (go_simp; done) | (go_simp; with_reducible rfl)
    try simp only [Act.put, List.setIfInBounds_toArray, List.set_cons_zero, List.set_cons_succ]
    refine wpAnyH_take (i := 1) (oi := ⟨some 47, _, _, _, _, none⟩) (v := ?_) rfl (by kernel_rfl) (by kernel_rfl) (by kernel_rfl) (fun _ _ _ h => by cases h.1) (Or.inl ⟨by rfl, ?_⟩) s ?_
    rotate_left
    · intro wq hSq
      obtain ⟨hSa, hSb⟩ := hSq
      first | (go_simp; done) | (go_simp; with_reducible rfl)
    try simp only [Act.put, List.setIfInBounds_toArray, List.set_cons_zero, List.set_cons_succ]
    refine wpAnyH_take (i := 2) (oi := ⟨some 48, _, _, _, _, none⟩) (v := ?_) rfl (by kernel_rfl) (by kernel_rfl) (by kernel_rfl) (fun _ _ _ h => by cases h.1) (Or.inl ⟨by rfl, ?_⟩) s ?_
    rotate_left
    · intro wq hSq
      obtain ⟨hSa, hSb⟩ := hSq
      first | (go_simp; done) | (go_simp; with_reducible rfl)
    try simp only [Act.put, List.setIfInBounds_toArray, List.set_cons_zero, List.set_cons_succ]
    refine wpAnyH_take (i := 3) (oi := ⟨some 49, _, _, _, _, _⟩) (v := ?_) rfl (by kernel_rfl) (by kernel_rfl) (by kernel_rfl) (fun _ _ _ h => by cases h.1) (Or.inl ⟨by rfl, ?_⟩) s ?_
    rotate_left
    · intro wq hSq
      obtain ⟨hSa, hSb⟩ := hSq
      first | (go_simp; done) | (go_simp; with_reducible rfl)
    try simp only [Act.put, List.setIfInBounds_toArray, List.set_cons_zero, List.set_cons_succ]
    refine wpAnyH_take (i := 4) (oi := ⟨some 50, _, _, _, _, _⟩) (v := ?_) rfl (by kernel_rfl) (by kernel_rfl) (by kernel_rfl) (fun _ _ _ h => by cases h.1) (Or.inl ⟨by rfl, ?_⟩) s ?_
    rotate_left
    · intro wq hSq
      obtain ⟨hSa, hSb⟩ := hSq
      first | (go_simp; done) | (go_simp; with_reducible rfl)
    try simp only [Act.put, List.setIfInBounds_toArray, List.set_cons_zero, List.set_cons_succ]
    refine wpAnyH_take (i := 5) (oi := ⟨some 51, _, _, _, _, none⟩) (v := ?_) rfl (by kernel_rfl) (by kernel_rfl) (by kernel_rfl) (fun _ _ _ h => by cases h.1) (Or.inl ⟨by rfl, ?_⟩) s ?_
    rotate_left
    · intro wq hSq
      obtain ⟨hSa, hSb⟩ := hSq
      first | (go_simp; done) | (go_simp; with_reducible rfl)
    try simp only [Act.put, List.setIfInBounds_toArray, List.set_cons_zero, List.set_cons_succ]
    refine wpAnyH_take (i := 6) (oi := ⟨some 52, _, _, _, _, none⟩) (v := ?_) rfl (by kernel_rfl) (by kernel_rfl) (by kernel_rfl) (fun _ _ _ h => by cases h.1) (Or.inl ⟨by rfl, ?_⟩) s ?_
    rotate_left
    · intro wq hSq
      obtain ⟨hSa, hSb⟩ := hSq
      first | (go_simp; done) | (go_simp; with_reducible rfl)
    try simp only [Act.put, List.setIfInBounds_toArray, List.set_cons_zero, List.set_cons_succ]
    refine wpAnyH_take (i := 7) (oi := ⟨some 53, _, _, _, _, _⟩) (v := ?_) rfl (by kernel_rfl) (by kernel_rfl) (by kernel_rfl) (fun _ _ _ h => by cases h.1) (Or.inl ⟨by rfl, ?_⟩) s ?_
    rotate_left
    · intro wq hSq
      obtain ⟨hSa, hSb⟩ := hSq
      first | (go_simp; done) | (go_simp; with_reducible rfl)
    try simp only [Act.put, List.setIfInBounds_toArray, List.set_cons_zero, List.set_cons_succ]
    refine wpAnyH_take (i := 9) (oi := ⟨some 55, _, _, _, _, _⟩) (v := ?_) rfl (by kernel_rfl) (by kernel_rfl) (by kernel_rfl) (fun _ _ _ h => by cases h.1) (Or.inl ⟨by rfl, ?_⟩) s ?_
    rotate_left
    · intro wq hSq
      obtain ⟨hSa, hSb⟩ := hSq
      first | (go_simp; done) | (go_simp; with_reducible rfl)
    try simp only [Act.put, List.setIfInBounds_toArray, List.set_cons_zero, List.set_cons_succ]
    refine wpAnyH_ready (rs := [8, 10]) (by kernel_rfl) (by simp) ?_
    refine AllReadyH.cons rfl (fun K hK => ?_) (AllReadyH.cons rfl (fun K hK => ?_) AllReadyH.nil)
    · go_simp
      refine hK.out _ _ s (fun _ => ?_)
      clear hK K
      refine rd 10 rfl (fun K hK => ?_); go_simp
      refine hK.out _ _ s (fun _ => ?_)
      clear hK K
      refine wpAnyH_take (i := 11) (oi := ⟨some 57, _, _, _, _, _⟩) (v := ?_) rfl (by kernel_rfl) (by kernel_rfl) (by kernel_rfl) (fun _ _ _ h => by cases h.1) (Or.inl ⟨by rfl, ?_⟩) s ?_
      rotate_left
      · intro wq hSq
        first | (go_simp; done) | (go_simp; with_reducible rfl)
      try simp only [Act.put, List.setIfInBounds_toArray, List.set_cons_zero, List.set_cons_succ]
      refine wpAnyH_take (i := 12) (oi := ⟨some 58, _, _, _, _, none⟩) (v := ?_) rfl (by kernel_rfl) (by kernel_rfl) (by kernel_rfl) (fun _ _ _ h => by cases h.1) (Or.inl ⟨by rfl, ?_⟩) s ?_
      rotate_left
      · intro wq hSq
        first | (go_simp; done) | (go_simp; with_reducible rfl)
      try simp only [Act.put, List.setIfInBounds_toArray, List.set_cons_zero, List.set_cons_succ]
      refine wpAnyH_take (i := 13) (oi := ⟨some 59, _, _, _, _, none⟩) (v := ?_) rfl (by kernel_rfl) (by kernel_rfl) (by kernel_rfl) (fun _ _ _ h => by cases h.1) (Or.inl ⟨by rfl, ?_⟩) s ?_
      rotate_left
      · intro wq hSq
        first | (go_simp; done) | (go_simp; with_reducible rfl)
      try simp only [Act.put, List.setIfInBounds_toArray, List.set_cons_zero, List.set_cons_succ]
      refine wpAnyH_take (i := 14) (oi := ⟨some 60, _, _, _, _, _⟩) (v := ?_) rfl (by kernel_rfl) (by kernel_rfl) (by kernel_rfl) (fun _ _ _ h => by cases h.1) (Or.inl ⟨by rfl, ?_⟩) s ?_
      rotate_left
      · intro wq hSq
        first | (go_simp; done) | (go_simp; with_reducible rfl)
      try simp only [Act.put, List.setIfInBounds_toArray, List.set_cons_zero, List.set_cons_succ]
      refine wpAnyH_take (i := 15) (oi := ⟨some 61, _, _, _, _, _⟩) (v := ?_) rfl (by kernel_rfl) (by kernel_rfl) (by kernel_rfl) (fun _ _ _ h => by cases h.1) (Or.inl ⟨by rfl, ?_⟩) s ?_
      rotate_left
      · intro wq hSq
        first | (go_simp; done) | (go_simp; with_reducible rfl)
      try simp only [Act.put, List.setIfInBounds_toArray, List.set_cons_zero, List.set_cons_succ]
      refine wpAnyH_take (i := 16) (oi := ⟨some 62, _, _, _, _, _⟩) (v := ?_) rfl (by kernel_rfl) (by kernel_rfl) (by kernel_rfl) (fun _ _ _ h => by cases h.1) (Or.inl ⟨by rfl, ?_⟩) s ?_
      rotate_left
      · intro wq hSq
        first | (go_simp; done) | (go_simp; with_reducible rfl)
      try simp only [Act.put, List.setIfInBounds_toArray, List.set_cons_zero, List.set_cons_succ]
      refine wpAnyH_take (i := 17) (oi := ⟨some 63, _, _, _, _, _⟩) (v := ?_) rfl (by kernel_rfl) (by kernel_rfl) (by kernel_rfl) (fun _ _ _ h => by cases h.1) (Or.inl ⟨by rfl, ?_⟩) s ?_
      rotate_left
      · intro wq hSq
        first | (go_simp; done) | (go_simp; with_reducible rfl)
      try simp only [Act.put, List.setIfInBounds_toArray, List.set_cons_zero, List.set_cons_succ]
      refine rd 18 rfl (fun K hK => ?_); go_simp
      refine (E16 _ s.1 s.2).mono ?_
      rintro e we ⟨rfl, he⟩
      have s' : (fun W' : World => W'.heap[Q]? = some (.cells c1 22 (0, 0)) ∧ W'.heap[R]? = some (.cells c0 22 (0, 0))) we := ⟨hkeep he s.1, hkeep he s.2⟩
      have t' := hkeep he td
      have i' := hkeep he id
      have x' := hkeep he xd
      have C' := Cd.trans he
      refine hK.out _ _ s' (fun _ => ?_)
      clear hK K s Cd he td id xd
      refine wpAnyH_take (i := 19) (oi := ⟨some 65, _, _, _, _, _⟩) (v := ?_) rfl (by kernel_rfl) (by kernel_rfl) (by kernel_rfl) (fun _ _ _ h => by cases h.1) (Or.inl ⟨by rfl, ?_⟩) s' ?_
      rotate_left
      · intro wq hSq
        first | (go_simp; done) | (go_simp; with_reducible rfl)
      try simp only [Act.put, List.setIfInBounds_toArray, List.set_cons_zero, List.set_cons_succ]
      refine wpAnyH_take (i := 20) (oi := ⟨some 66, _, _, _, _, none⟩) (v := ?_) rfl (by kernel_rfl) (by kernel_rfl) (by kernel_rfl) (fun _ _ _ h => by cases h.1) (Or.inl ⟨by rfl, ?_⟩) s' ?_
      rotate_left
      · intro wq hSq
        first | (go_simp; done) | (go_simp; with_reducible rfl)
      try simp only [Act.put, List.setIfInBounds_toArray, List.set_cons_zero, List.set_cons_succ]
      refine wpAnyH_take (i := 21) (oi := ⟨some 67, _, _, _, _, none⟩) (v := ?_) rfl (by kernel_rfl) (by kernel_rfl) (by kernel_rfl) (fun _ _ _ h => by cases h.1) (Or.inl ⟨by rfl, ?_⟩) s' ?_
      rotate_left
      · intro wq hSq
        first | (go_simp; done) | (go_simp; with_reducible rfl)
      try simp only [Act.put, List.setIfInBounds_toArray, List.set_cons_zero, List.set_cons_succ]
      refine wpAnyH_take (i := 22) (oi := ⟨some 68, _, _, _, _, _⟩) (v := ?_) rfl (by kernel_rfl) (by kernel_rfl) (by kernel_rfl) (fun _ _ _ h => by cases h.1) (Or.inl ⟨by rfl, ?_⟩) s' ?_
      rotate_left
      · intro wq hSq
        first | (go_simp; done) | (go_simp; with_reducible rfl)
      try simp only [Act.put, List.setIfInBounds_toArray, List.set_cons_zero, List.set_cons_succ]
      refine wpAnyH_take (i := 23) (oi := ⟨some 69, _, _, _, _, _⟩) (v := ?_) rfl (by kernel_rfl) (by kernel_rfl) (by kernel_rfl) (fun _ _ _ h => by cases h.1) (Or.inl ⟨by rfl, ?_⟩) s' ?_
      rotate_left
      · intro wq hSq
        first | (go_simp; done) | (go_simp; with_reducible rfl)
      try simp only [Act.put, List.setIfInBounds_toArray, List.set_cons_zero, List.set_cons_succ]
      refine wpAnyH_take (i := 24) (oi := ⟨some 70, _, _, _, _, _⟩) (v := ?_) rfl (by kernel_rfl) (by kernel_rfl) (by kernel_rfl) (fun _ _ _ h => by cases h.1) (Or.inl ⟨by rfl, ?_⟩) s' ?_
      rotate_left
      · intro wq hSq
        first | (go_simp; done) | (go_simp; with_reducible rfl)
      try simp only [Act.put, List.setIfInBounds_toArray, List.set_cons_zero, List.set_cons_succ]
      refine wpAnyH_take (i := 25) (oi := ⟨some 71, _, _, _, _, _⟩) (v := ?_) rfl (by kernel_rfl) (by kernel_rfl) (by kernel_rfl) (fun _ _ _ h => by cases h.1) (Or.inl ⟨by rfl, ?_⟩) s' ?_
      rotate_left
      · intro wq hSq
        first | (go_simp; done) | (go_simp; with_reducible rfl)
      try simp only [Act.put, List.setIfInBounds_toArray, List.set_cons_zero, List.set_cons_succ]
      refine rd 26 rfl (fun K hK => ?_); go_simp
      refine (E39 _ s'.1 s'.2).mono ?_
      rintro e wf ⟨rfl, he⟩
      have s := (⟨hkeep he s'.1, hkeep he s'.2⟩ : (fun W' : World => W'.heap[Q]? = some (.cells c1 22 (0, 0)) ∧ W'.heap[R]? = some (.cells c0 22 (0, 0))) wf)
      have td := hkeep he t'
      have id := hkeep he i'
      have xd := hkeep he x'
      have Cd := C'.trans he
      refine hK.out _ _ s (fun _ => ?_)
      clear hK K s' C' he t' i' x'
      refine wpAnyH_take (i := 27) (oi := ⟨some 73, _, _, _, _, _⟩) (v := ?_) rfl (by kernel_rfl) (by kernel_rfl) (by kernel_rfl) (fun _ _ _ h => by cases h.1) (Or.inl ⟨by rfl, ?_⟩) s ?_
      rotate_left
      · intro wq hSq
        first | (go_simp; done) | (go_simp; with_reducible rfl)
      try simp only [Act.put, List.setIfInBounds_toArray, List.set_cons_zero, List.set_cons_succ]
      refine wpAnyH_take (i := 28) (oi := ⟨some 74, _, _, _, _, none⟩) (v := ?_) rfl (by kernel_rfl) (by kernel_rfl) (by kernel_rfl) (fun _ _ _ h => by cases h.1) (Or.inl ⟨by rfl, ?_⟩) s ?_
      rotate_left
      · intro wq hSq
        first | (go_simp; done) | (go_simp; with_reducible rfl)
      try simp only [Act.put, List.setIfInBounds_toArray, List.set_cons_zero, List.set_cons_succ]
      refine wpAnyH_done (by kernel_rfl) ?_ _
      exact ⟨rfl, _, _, _, _, _, _, _, _, _, _, _, _, _, _, _, _, _, _, _, _, _, _, _, _, _, _, _, _, rfl, td, s.2, id, s.1, xd, Cd⟩
    · go_simp
      refine hK.out _ _ s (fun _ => ?_)
      clear hK K
      refine rd 8 rfl (fun K hK => ?_); go_simp
      refine hK.out _ _ s (fun _ => ?_)
      clear hK K
      refine wpAnyH_take (i := 11) (oi := ⟨some 57, _, _, _, _, _⟩) (v := ?_) rfl (by kernel_rfl) (by kernel_rfl) (by kernel_rfl) (fun _ _ _ h => by cases h.1) (Or.inl ⟨by rfl, ?_⟩) s ?_
      rotate_left
      · intro wq hSq
        first | (go_simp; done) | (go_simp; with_reducible rfl)
      try simp only [Act.put, List.setIfInBounds_toArray, List.set_cons_zero, List.set_cons_succ]
      refine wpAnyH_take (i := 12) (oi := ⟨some 58, _, _, _, _, none⟩) (v := ?_) rfl (by kernel_rfl) (by kernel_rfl) (by kernel_rfl) (fun _ _ _ h => by cases h.1) (Or.inl ⟨by rfl, ?_⟩) s ?_
      rotate_left
      · intro wq hSq
        first | (go_simp; done) | (go_simp; with_reducible rfl)
      try simp only [Act.put, List.setIfInBounds_toArray, List.set_cons_zero, List.set_cons_succ]
      refine wpAnyH_take (i := 13) (oi := ⟨some 59, _, _, _, _, none⟩) (v := ?_) rfl (by kernel_rfl) (by kernel_rfl) (by kernel_rfl) (fun _ _ _ h => by cases h.1) (Or.inl ⟨by rfl, ?_⟩) s ?_
      rotate_left
      · intro wq hSq
        first | (go_simp; done) | (go_simp; with_reducible rfl)
      try simp only [Act.put, List.setIfInBounds_toArray, List.set_cons_zero, List.set_cons_succ]
      refine wpAnyH_take (i := 14) (oi := ⟨some 60, _, _, _, _, _⟩) (v := ?_) rfl (by kernel_rfl) (by kernel_rfl) (by kernel_rfl) (fun _ _ _ h => by cases h.1) (Or.inl ⟨by rfl, ?_⟩) s ?_
      rotate_left
      · intro wq hSq
        first | (go_simp; done) | (go_simp; with_reducible rfl)
      try simp only [Act.put, List.setIfInBounds_toArray, List.set_cons_zero, List.set_cons_succ]
      refine wpAnyH_take (i := 15) (oi := ⟨some 61, _, _, _, _, _⟩) (v := ?_) rfl (by kernel_rfl) (by kernel_rfl) (by kernel_rfl) (fun _ _ _ h => by cases h.1) (Or.inl ⟨by rfl, ?_⟩) s ?_
      rotate_left
      · intro wq hSq
        first | (go_simp; done) | (go_simp; with_reducible rfl)
      try simp only [Act.put, List.setIfInBounds_toArray, List.set_cons_zero, List.set_cons_succ]
      refine wpAnyH_take (i := 16) (oi := ⟨some 62, _, _, _, _, _⟩) (v := ?_) rfl (by kernel_rfl) (by kernel_rfl) (by kernel_rfl) (fun _ _ _ h => by cases h.1) (Or.inl ⟨by rfl, ?_⟩) s ?_
      rotate_left
      · intro wq hSq
        first | (go_simp; done) | (go_simp; with_reducible rfl)
      try simp only [Act.put, List.setIfInBounds_toArray, List.set_cons_zero, List.set_cons_succ]
      refine wpAnyH_take (i := 17) (oi := ⟨some 63, _, _, _, _, _⟩) (v := ?_) rfl (by kernel_rfl) (by kernel_rfl) (by kernel_rfl) (fun _ _ _ h => by cases h.1) (Or.inl ⟨by rfl, ?_⟩) s ?_
      rotate_left
      · intro wq hSq
        first | (go_simp; done) | (go_simp; with_reducible rfl)
      try simp only [Act.put, List.setIfInBounds_toArray, List.set_cons_zero, List.set_cons_succ]
      refine rd 18 rfl (fun K hK => ?_); go_simp
      refine (E16 _ s.1 s.2).mono ?_
      rintro e we ⟨rfl, he⟩
      have s' : (fun W' : World => W'.heap[Q]? = some (.cells c1 22 (0, 0)) ∧ W'.heap[R]? = some (.cells c0 22 (0, 0))) we := ⟨hkeep he s.1, hkeep he s.2⟩
      have t' := hkeep he td
      have i' := hkeep he id
      have x' := hkeep he xd
      have C' := Cd.trans he
      refine hK.out _ _ s' (fun _ => ?_)
      clear hK K s Cd he td id xd
      refine wpAnyH_take (i := 19) (oi := ⟨some 65, _, _, _, _, _⟩) (v := ?_) rfl (by kernel_rfl) (by kernel_rfl) (by kernel_rfl) (fun _ _ _ h => by cases h.1) (Or.inl ⟨by rfl, ?_⟩) s' ?_
      rotate_left
      · intro wq hSq
        first | (go_simp; done) | (go_simp; with_reducible rfl)
      try simp only [Act.put, List.setIfInBounds_toArray, List.set_cons_zero, List.set_cons_succ]
      refine wpAnyH_take (i := 20) (oi := ⟨some 66, _, _, _, _, none⟩) (v := ?_) rfl (by kernel_rfl) (by kernel_rfl) (by kernel_rfl) (fun _ _ _ h => by cases h.1) (Or.inl ⟨by rfl, ?_⟩) s' ?_
      rotate_left
      · intro wq hSq
        first | (go_simp; done) | (go_simp; with_reducible rfl)
      try simp only [Act.put, List.setIfInBounds_toArray, List.set_cons_zero, List.set_cons_succ]
      refine wpAnyH_take (i := 21) (oi := ⟨some 67, _, _, _, _, none⟩) (v := ?_) rfl (by kernel_rfl) (by kernel_rfl) (by kernel_rfl) (fun _ _ _ h => by cases h.1) (Or.inl ⟨by rfl, ?_⟩) s' ?_
      rotate_left
      · intro wq hSq
        first | (go_simp; done) | (go_simp; with_reducible rfl)
      try simp only [Act.put, List.setIfInBounds_toArray, List.set_cons_zero, List.set_cons_succ]
      refine wpAnyH_take (i := 22) (oi := ⟨some 68, _, _, _, _, _⟩) (v := ?_) rfl (by kernel_rfl) (by kernel_rfl) (by kernel_rfl) (fun _ _ _ h => by cases h.1) (Or.inl ⟨by rfl, ?_⟩) s' ?_
      rotate_left
      · intro wq hSq
        first | (go_simp; done) | (go_simp; with_reducible rfl)
      try simp only [Act.put, List.setIfInBounds_toArray, List.set_cons_zero, List.set_cons_succ]
      refine wpAnyH_take (i := 23) (oi := ⟨some 69, _, _, _, _, _⟩) (v := ?_) rfl (by kernel_rfl) (by kernel_rfl) (by kernel_rfl) (fun _ _ _ h => by cases h.1) (Or.inl ⟨by rfl, ?_⟩) s' ?_
      rotate_left
      · intro wq hSq
        first | (go_simp; done) | (go_simp; with_reducible rfl)
      try simp only [Act.put, List.setIfInBounds_toArray, List.set_cons_zero, List.set_cons_succ]
      refine wpAnyH_take (i := 24) (oi := ⟨some 70, _, _, _, _, _⟩) (v := ?_) rfl (by kernel_rfl) (by kernel_rfl) (by kernel_rfl) (fun _ _ _ h => by cases h.1) (Or.inl ⟨by rfl, ?_⟩) s' ?_
      rotate_left
      · intro wq hSq
        first | (go_simp; done) | (go_simp; with_reducible rfl)
      try simp only [Act.put, List.setIfInBounds_toArray, List.set_cons_zero, List.set_cons_succ]
      refine wpAnyH_take (i := 25) (oi := ⟨some 71, _, _, _, _, _⟩) (v := ?_) rfl (by kernel_rfl) (by kernel_rfl) (by kernel_rfl) (fun _ _ _ h => by cases h.1) (Or.inl ⟨by rfl, ?_⟩) s' ?_
      rotate_left
      · intro wq hSq
        first | (go_simp; done) | (go_simp; with_reducible rfl)
      try simp only [Act.put, List.setIfInBounds_toArray, List.set_cons_zero, List.set_cons_succ]
      refine rd 26 rfl (fun K hK => ?_); go_simp
      refine (E39 _ s'.1 s'.2).mono ?_
      rintro e wf ⟨rfl, he⟩
      have s := (⟨hkeep he s'.1, hkeep he s'.2⟩ : (fun W' : World => W'.heap[Q]? = some (.cells c1 22 (0, 0)) ∧ W'.heap[R]? = some (.cells c0 22 (0, 0))) wf)
      have td := hkeep he t'
      have id := hkeep he i'
      have xd := hkeep he x'
      have Cd := C'.trans he
      refine hK.out _ _ s (fun _ => ?_)
      clear hK K s' C' he t' i' x'
      refine wpAnyH_take (i := 27) (oi := ⟨some 73, _, _, _, _, _⟩) (v := ?_) rfl (by kernel_rfl) (by kernel_rfl) (by kernel_rfl) (fun _ _ _ h => by cases h.1) (Or.inl ⟨by rfl, ?_⟩) s ?_
      rotate_left
      · intro wq hSq
        first | (go_simp; done) | (go_simp; with_reducible rfl)
      try simp only [Act.put, List.setIfInBounds_toArray, List.set_cons_zero, List.set_cons_succ]
      refine wpAnyH_take (i := 28) (oi := ⟨some 74, _, _, _, _, none⟩) (v := ?_) rfl (by kernel_rfl) (by kernel_rfl) (by kernel_rfl) (fun _ _ _ h => by cases h.1) (Or.inl ⟨by rfl, ?_⟩) s ?_
      rotate_left
      · intro wq hSq
        first | (go_simp; done) | (go_simp; with_reducible rfl)
      try simp only [Act.put, List.setIfInBounds_toArray, List.set_cons_zero, List.set_cons_succ]
      refine wpAnyH_done (by kernel_rfl) ?_ _
      exact ⟨rfl, _, _, _, _, _, _, _, _, _, _, _, _, _, _, _, _, _, _, _, _, _, _, _, _, _, _, _, _, rfl, td, s.2, id, s.1, xd, Cd⟩
  rintro a' w9 ⟨x46, x47, x48, x49, x50, x51, x52, x53, x54, x55, x56, x57, x58, x59, x60, x61, x62, x63, x64, x65, x66, x67, x68, x69, x70, x71, x72, x73, rfl, t9, r9, i9, q9, x9, C9⟩
  try simp only [Act.put, List.setIfInBounds_toArray, List.set_cons_zero, List.set_cons_succ]
  clear t8 r8 i8 q8 x8 C8 E16 E39
  go_wp2_with fail
  refine (H1 _).mono ?_
  rintro e w10 ⟨rfl, hc⟩
  have t10 := hkeep hc t9
  have r10 := hkeep hc r9
  have i10 := hkeep hc i9
  have q10 := hkeep hc q9
  have x10 := hkeep hc x9
  have C10 := C9.trans hc
  clear t9 r9 i9 q9 x9 C9 hc H1
  have nt := nsz t10
  have nr := nsz r10
  have ni := nsz i10
  have nq := nsz q10
  have nx := nsz x10
  go_upto_region 14 with (fail)
  clear nt nr ni nq nx
  have hch := t2_put_ch y2 w10
  have h11 := t2_put y2 w10
  have t11 := hkeep hch t10
  have r11 := hkeep hch r10
  have i11 := hkeep hch i10
  have q11 := hkeep hch q10
  have x11 := hkeep hch x10
  have ltHB := zad t10
  have lrHB := zad r10
  have liHB := zad i10
  have lqHB := zad q10
  have lxHB := zad x10
  have C11 := C10.trans hch
  have hHBw := C10.size
  clear t10 r10 i10 q10 x10 C10 hch
  obtain ⟨w11, hw11⟩ : ∃ W, World.onObj (w10.alloc (.cells (t2cells zeroT2) 35)) w10.heap.size (laidAt 0 (t2cells y2)) = W := ⟨_, rfl⟩
  rw [hw11] at h11 t11 r11 i11 q11 x11 C11 ⊢
  clear hw11
  obtain ⟨HB, hHB⟩ : ∃ b, w10.heap.size = b := ⟨_, rfl⟩
  rw [hHB] at h11 hHBw ltHB lrHB liHB lqHB lxHB ⊢
  clear hHB
  go_upto_region 16 with (fail)
  have s : (fun W' : World => W'.heap[Q]? = some (.cells c1 22 (0, 0)) ∧ W'.heap[T]? = some (.cells (tcells t) 26 (0, 0))) w11.drew := ⟨q11, t11⟩
  have r12 : w11.drew.heap[R]? = some (.cells c0 22 (0, 0)) := r11
  have i12 : w11.drew.heap[IB]? = some (.cells #[I 2, I 1] 45 (0, 0)) := i11
  have x12 : w11.drew.heap[XB]? = some (.cells (partC p') 51 (0, 0)) := x11
  have h12 : w11.drew.heap[HB]? = some (.cells (t2cells y2) 35 (0, 0)) := h11
  have C12 : Ch [] w w11.drew := C11.drew
  refine wp_region_held_drew (S := fun W' => W'.heap[Q]? = some (.cells c1 22 (0, 0)) ∧ W'.heap[T]? = some (.cells (tcells t) 26 (0, 0))) (by kernel_rfl) s ?_
  intro _
  simp only [List.size_toArray, List.length_cons, List.length_nil, Nat.reduceAdd]
  obtain ⟨w12, hwd⟩ : ∃ W, w11.drew = W := ⟨_, rfl⟩
  rw [hwd] at s C12 r12 i12 x12 h12 ⊢
  clear hwd t11 r11 i11 q11 x11 h11 C11
  refine tk 0 111 ?_ rfl s ?_ ?_; rotate_left
  · intro wq hSq; obtain ⟨hSa, hSb⟩ := hSq; go_simp; try with_reducible rfl
  try go_frame
  refine tk 1 112 ?_ rfl s ?_ ?_; rotate_left
  · intro wq hSq; obtain ⟨hSa, hSb⟩ := hSq; go_simp; try with_reducible rfl
  try go_frame
  refine tk 2 113 ?_ rfl s ?_ ?_; rotate_left
  · intro wq hSq; obtain ⟨hSa, hSb⟩ := hSq; go_simp; try with_reducible rfl
  try go_frame
  refine tk 3 114 ?_ rfl s ?_ ?_; rotate_left
  · intro wq hSq; obtain ⟨hSa, hSb⟩ := hSq; go_simp; try with_reducible rfl
  try go_frame
  refine tk 4 115 ?_ rfl s ?_ ?_; rotate_left
  · intro wq hSq; obtain ⟨hSa, hSb⟩ := hSq; go_simp; try with_reducible rfl
  try go_frame
  refine tk 5 116 ?_ rfl s ?_ ?_; rotate_left
  · intro wq hSq; obtain ⟨hSa, hSb⟩ := hSq; go_simp; try with_reducible rfl
  try go_frame
  refine tk 6 117 ?_ rfl s ?_ ?_; rotate_left
  · intro wq hSq; obtain ⟨hSa, hSb⟩ := hSq; go_simp; try with_reducible rfl
  try go_frame
  refine tk 7 118 ?_ rfl s ?_ ?_; rotate_left
  · intro wq hSq; obtain ⟨hSa, hSb⟩ := hSq; go_simp; try with_reducible rfl
  try go_frame
  refine tk 8 119 ?_ rfl s ?_ ?_; rotate_left
  · intro wq hSq; obtain ⟨hSa, hSb⟩ := hSq; go_simp; try with_reducible rfl
  try go_frame
  refine tk 9 120 ?_ rfl s ?_ ?_; rotate_left
  · intro wq hSq; obtain ⟨hSa, hSb⟩ := hSq; go_simp; try with_reducible rfl
  try go_frame
  refine tk 10 121 ?_ rfl s ?_ ?_; rotate_left
  · intro wq hSq; obtain ⟨hSa, hSb⟩ := hSq; go_simp; try with_reducible rfl
  try go_frame
  refine tk 11 122 ?_ rfl s ?_ ?_; rotate_left
  · intro wq hSq; obtain ⟨hSa, hSb⟩ := hSq; go_simp; try with_reducible rfl
  try go_frame
  refine tk 12 123 ?_ rfl s ?_ ?_; rotate_left
  · intro wq hSq; obtain ⟨hSa, hSb⟩ := hSq; go_simp; try with_reducible rfl
  try go_frame
  refine tk 13 124 ?_ rfl s ?_ ?_; rotate_left
  · intro wq hSq; obtain ⟨hSa, hSb⟩ := hSq; go_simp; try with_reducible rfl
  try go_frame
  refine tk 14 125 ?_ rfl s ?_ ?_; rotate_left
  · intro wq hSq; obtain ⟨hSa, hSb⟩ := hSq; go_simp; try with_reducible rfl
  try go_frame
  refine tk 15 126 ?_ rfl s ?_ ?_; rotate_left
  · intro wq hSq; obtain ⟨hSa, hSb⟩ := hSq; go_simp; try with_reducible rfl
  try go_frame
  refine tk 16 127 ?_ rfl s ?_ ?_; rotate_left
  · intro wq hSq; obtain ⟨hSa, hSb⟩ := hSq; go_simp; try with_reducible rfl
  try go_frame
  refine tk 17 128 ?_ rfl s ?_ ?_; rotate_left
  · intro wq hSq; obtain ⟨hSa, hSb⟩ := hSq; go_simp; try with_reducible rfl
  try go_frame
  refine wpAnyH_done (by kernel_rfl) ?_ _
  obtain ⟨q12, t12⟩ := s
  go_wp2_with fail
  refine (KC _).mono ?_
  rintro e w13 ⟨rfl, hc⟩
  have t13 := hkeep hc t12
  have r13 := hkeep hc r12
  have i13 := hkeep hc i12
  have q13 := hkeep hc q12
  have x13 := hkeep hc x12
  have h13 := hkeep hc h12
  have C13 := C12.trans hc
  clear t12 r12 i12 q12 x12 h12 C12 hc 
  go_wp2
  go_ret
  exact ⟨rfl, C13⟩
end
end Go.Proofs.Hc
