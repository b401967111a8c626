/- Law 22: SplitHalves, the walk (printed by gen_halves22.py). -/
import Derived.Test.YtcikopeddljgkaaGreatKVe
import Derived.Test.YtcikopeddljgkaaGreatK0
set_option linter.unusedSimpArgs false
set_option linter.unusedVariables false
set_option maxHeartbeats 8000000
set_option maxRecDepth 100000
namespace Go.Proofs.Hc
open Go.RowKit
attribute [local go_sem] zbr zcd zat zaz zbn zax zbm zbo zbw signed64 signed8 zar BitVec.ofInt_add BitVec.ofInt_mul ofInt_sub' zav zaw wide8 eqN neN zcc shr1 shr7 shr56
attribute [local go_sem high] zay zbv
attribute [local go_sem] zau zbx zai zal zac zbd zan zah zbk zaj zbc zbe
attribute [local go_sem] load26 load73 load23 store26 build73
attribute [local go_sem ↓] lrow26 lrow73 lrow23 srow26 zero26 brow73 zab zba zbb zaa zae
attribute [local go_sem] zag zap zaf zbf zbi zbp zam zaq zbq zbh zbg
attribute [local go_sem] nn2 nm2 nn3 nm3 nn4 nm4 nn5 nm5 nn6 nm6 nn7 nm7 nn8 nm8
section
attribute [local go_sem] loadA loadT2 storeA storeT2 buildA_ts buildA_sm zcm make_func zcl zbt zcw zcg zdd zcr zcn zde zcs t2cells_l t2cells_r
attribute [local go_sem ↓] lrowA lrowT2 srowA srowT2 browA zeroA_run zcz
attribute [local go_sem] zar zbj
attribute [local go_sem] Oper.semAt_some zak
attribute [local go_sem] zci pacell0 pacell1 pacell2 pacell3 pacell4 pacell5 pacell6 pacell7 pacell42
attribute [local go_sem] zcv zdi zdc zcy zcx zdb zdh zda zcf zct part_s6 zdg zco zbl zch zcj boxPart loadPart storePart zce zcq buildPart0 buildPart4
attribute [local go_sem ↓] lrowPart srowPart browPart zck zbs
attribute [local go_sem high] zas
attribute [local irreducible] partC
attribute [local go_sem] box26 zbz cell0 cell1 cell2 cell3 cell4 zcb zca
attribute [local irreducible] tcells t2cells
attribute [local go_sem high] zcu laidAt_t2 laid2i tmod2_64w bit64w bit64zw
attribute [local go_sem] guard26 build_two build2i_21 load2i store2i one2i index2i_0 index2i_1
attribute [local go_sem ↓] eql_tab neq_tab zero2i lrow2i srow2i
theorem halves22_mayA (t : Tab) (seed : BitVec 64) (hf : flatT t = true) (ho : oddB t.count = false) (hd : t.depth < 5) (hm : mayT t seed = true) (w : World) : Calls Tryz.prog 7 #[U seed, .agg (tcells t), .bool false] w fun e w' => e = .returned (.bool true) ∧ Ch [] w w' := by
  have q22 : ∀ (w : World) (a : Option Addr) (n c n' c' : Nat), (binOp .eql 44 (.slice a n c) (.slice none n' c')).run Tryz.prog w = .ok (.bool a.isNone) w := fun w a n c n' c' => Lib.run_eql_slice_nil w _ _ a n c n' c' Tryz.underlying44
  have W1 := fun w => wakes22_any w
  have L1 := fun w => cells22_ok t hf w
  have TS : TwoS 1 2 := ⟨by decide⟩
  have B1 : ∀ w, Calls Tryz.prog 24 #[.int .i64 3, .int .i64 0, .agg #[.int .i64 1, .int .i64 2], U seed] w fun e w' => e = .returned (.tuple #[.agg (partC (firstP22 3 0 1 2 seed)), I 0]) ∧ Ch [] w w' := fun w => by
    have := s22Begin_any 3 0 1 2 seed w
    rw [show begin22E 3 0 1 2 seed = .ok (firstP22 3 0 1 2 seed) by unfold begin22E; rw [if_pos (TS.right seed)]] at this
    exact this
  have hx := halvesTS_laid ((may_iff t seed).1 hm) hd
  have hm0 := halfTS_may hf hd 0 (by omega) (halvesTS_some hx).1
  have hm1 := halfTS_may hf hd 1 (by omega) (halvesTS_some hx).2
  obtain ⟨l', p', HR, hp7, h16, ha, hb⟩ := half_yes (a := 1) (b := 2) TS seed hf ho hd hx
  dsimp only at hm0 hm1 ha hb
  have hlv := @nFull16 t
  obtain ⟨k, hk⟩ : ∃ k, 85 + 2 * nFull t = k := ⟨_, rfl⟩
  rw [hk] at HR
  have R1 : ∀ R w, w.heap[R]? = some (.cells (wcells (cells22 t)) 22 (0, 0)) → Calls Tryz.prog 26 #[.slice (some ⟨R, 0, none⟩) 136 136, .agg (partC (firstP22 3 0 1 2 seed))] w fun e w' => ∃ Q, e = .returned (.tuple #[.slice (some ⟨Q, 0, none⟩) 136 136, .agg (partC p'), I (k : Nat), I 0]) ∧ w'.heap[Q]? = some (.cells (wcells l') 22 (0, 0)) ∧ Ch [] w w' := fun R w hb => by
    have h := s22Run_go (cells22 t) l' R 136 (wcells (cells22 t)) _ p' k w (by rw [zbu]; omega) (by rw [zbu]; omega) hb (wcells_at _) (TS.right seed) (by rw [zbu]; exact TS.there seed) HR.run (by have := HR.le; omega)
    rw [zbu] at h
    exact h.mono fun e w' ⟨Q, h1, _, h2, h3⟩ => ⟨Q, h1, h2, h3⟩
  have E16 := fun {Q R : Nat} w h1 h2 => eqSub_any 0 16 Q R 136 136 (wcells l') (wcells (cells22 t)) w (by omega) HR.sub.1 h1 h2
  have E39 := fun {Q R : Nat} w h1 h2 => eqSub_any 17 39 Q R 119 119 (wcells l') (wcells (cells22 t)) w (by omega) HR.sub.2 h1 h2
  have H1 := fun w => Halves_is t seed w
  have hk117 : (k : Int) ≤ 117 := by have := HR.le; omega
  have C0 : Ch [] w (w.alloc (.cells (tcells t) 26)) := (Ch.refl [] w).alloc _
  have t0 : (w.alloc (.cells (tcells t) 26)).heap[w.heap.size]? = some (.cells (tcells t) 26 (0, 0)) := by rw [zab, if_pos rfl]
  have eT0 : (tcells t)[0]? = some (U t.count) := by rw [zaf]; rfl
  have eT1 : (tcells t)[1]? = some (I t.depth) := by rw [zaf]; rfl
  have eT4 : (tcells t)[4]? = some (I t.live) := by rw [zaf]; rfl
  obtain ⟨p0, hp0⟩ : ∃ p, firstP22 3 0 1 2 seed = p := ⟨_, rfl⟩
  rw [hp0] at B1
  simp only [hp0] at R1
  have hke : ((k : Int) == 85 + 2 * t.live) = true := by rw [((may_iff t seed).1 hm).live, beq_iff_eq]; omega
  have hlw : IntKind.i64.wrap (2 * t.live) = 2 * t.live := by rw [((may_iff t seed).1 hm).live, IntKind.wrap_i64]; omega
  have hlw2 : IntKind.i64.wrap (85 + 2 * t.live) = 85 + 2 * t.live := by rw [((may_iff t seed).1 hm).live, IntKind.wrap_i64]; omega
  have TC0 : ∀ (Q : Nat) w, w.heap[Q]? = some (.cells (wcells l') 22 (0, 0)) → Calls Tryz.prog 35 #[.slice (some ⟨Q, 56, none⟩) 40 80] w fun e w' => e = .returned (.tuple #[.agg (tcells (halfX t seed 0)), I 0]) ∧ Ch [] w w' := fun Q w h => by
    have := Table_any Q 56 80 (wcells l') 22 (tword (halfX t seed 0)) (by omega) (by omega) w h ha
    rw [readE_flat hm0.flat] at this
    simp only [tupOr, normT_cells] at this
    exact this
  have CL0 : ∀ w, Calls Tryz.prog 44 #[.int .i64 1, .int .i64 0] w fun e w' => e = .returned (.tuple #[.int .i64 56, I 0]) ∧ w = w' := fun w => cell_ok 1 0 (by decide) (by decide) (by decide) (by decide) w
  have KC0 : ∀ w, Calls Tryz.prog 43 #[U seed, .agg (tcells (halfX t seed 0))] w fun e w' => e = .returned (I 0) ∧ Ch [] w w' := fun w => by
    have := check_any (halfX t seed 0) seed w
    rw [(may_iff _ _).2 hm0, if_pos rfl] at this
    exact this
  have TC1 : ∀ (Q : Nat) w, w.heap[Q]? = some (.cells (wcells l') 22 (0, 0)) → Calls Tryz.prog 35 #[.slice (some ⟨Q, 96, none⟩) 40 40] w fun e w' => e = .returned (.tuple #[.agg (tcells (halfX t seed 1)), I 0]) ∧ Ch [] w w' := fun Q w h => by
    have := Table_any Q 96 40 (wcells l') 22 (tword (halfX t seed 1)) (by omega) (by omega) w h hb
    rw [readE_flat hm1.flat] at this
    simp only [tupOr, normT_cells] at this
    exact this
  have CL1 : ∀ w, Calls Tryz.prog 44 #[.int .i64 2, .int .i64 0] w fun e w' => e = .returned (.tuple #[.int .i64 96, I 0]) ∧ w = w' := fun w => cell_ok 2 0 (by decide) (by decide) (by decide) (by decide) w
  have KC1 : ∀ w, Calls Tryz.prog 43 #[U seed, .agg (tcells (halfX t seed 1))] w fun e w' => e = .returned (I 0) ∧ Ch [] w w' := fun w => by
    have := check_any (halfX t seed 1) seed w
    rw [(may_iff _ _).2 hm1, if_pos rfl] at this
    exact this
  rw [show ifMay t seed (halvesE t (halfX t seed)) = .ok ⟨halfX t seed 0, halfX t seed 1⟩ by unfold ifMay halvesE; rw [if_pos hm, decide_eq_true hd, if_pos rfl]] at H1
  simp only [tupOr] at H1
  obtain ⟨X0, hX0⟩ : ∃ x, halfX t seed 0 = x := ⟨_, rfl⟩
  obtain ⟨X1, hX1⟩ : ∃ x, halfX t seed 1 = x := ⟨_, rfl⟩
  simp only [hX0] at TC0 KC0 H1
  simp only [hX1] at TC1 KC1 H1
  clear hm0 hm1 ha hb hx hX0 hX1
  obtain ⟨c0, hc0⟩ : ∃ c, wcells (cells22 t) = c := ⟨_, rfl⟩
  obtain ⟨c1, hc1⟩ : ∃ c, wcells l' = c := ⟨_, rfl⟩
  rw [hc0] at L1
  rw [hc1] at h16
  simp only [hc0, hc1] at R1 E16 E39 TC0 TC1
  have hd5 : ¬ 5 ≤ t.depth := by omega
  clear hf HR hc0 hc1 hp0 TS hm hk hlv
  go_enter Tryz.func7, Tryz.ntmps7
  go_wp2_with fail
  obtain ⟨w0, hw0⟩ : ∃ W, w.alloc (.cells (tcells t) 26) = W := ⟨_, rfl⟩
  rw [hw0] at C0 t0 ⊢
  clear hw0
  obtain ⟨T, hT⟩ : ∃ T, w.heap.size = T := ⟨_, rfl⟩
  rw [hT] at t0 ⊢
  have hTw : w.heap.size ≤ T := by omega
  clear hT
  refine (W1 _).mono ?_
  rintro e w1 ⟨rfl, hc⟩
  have t1 := hkeep hc t0
  have C1 := C0.trans hc
  clear t0 C0 hc W1
  go_wp2_with fail
  refine (L1 _).mono ?_
  rintro e w2 ⟨R, rfl, -, r2, hc⟩
  have t2 := hkeep hc t1
  have C2 := C1.trans hc
  clear t1 C1 hc L1
  have nt := nsz t2
  have nr := nsz r2
  go_upto_region 9 with (fail)
  clear nt nr
  have hch := two_put_ch 1 2 w2
  have i3 := two_put 1 2 w2
  have t3 := hkeep hch t2
  have r3 := hkeep hch r2
  have ltIB := zad t2
  have lrIB := zad r2
  have C3 := C2.trans hch
  have hIBw := C2.size
  clear t2 r2 C2 hch
  obtain ⟨w3, hw3⟩ : ∃ W, World.onObj (w2.alloc (.cells #[I 0, I 0] 45)) w2.heap.size (laidAt 0 #[I 1, I 2]) = W := ⟨_, rfl⟩
  rw [hw3] at i3 t3 r3 C3 ⊢
  clear hw3
  obtain ⟨IB, hIB⟩ : ∃ b, w2.heap.size = b := ⟨_, rfl⟩
  rw [hIB] at i3 hIBw ltIB lrIB ⊢
  clear hIB
  go_wp2_with fail
  refine (B1 _).mono ?_
  rintro e w4 ⟨rfl, hc⟩
  have t4 := hkeep hc t3
  have r4 := hkeep hc r3
  have i4 := hkeep hc i3
  have C4 := C3.trans hc
  clear t3 r3 i3 C3 hc B1
  have nt := nsz t4
  have nr := nsz r4
  have ni := nsz i4
  go_upto_region 10 with (fail)
  clear nt nr ni
  have hch := part_put_ch p0 w4
  have p5 := part_put p0 w4
  have t5 := hkeep hch t4
  have r5 := hkeep hch r4
  have i5 := hkeep hch i4
  have ltPB := zad t4
  have lrPB := zad r4
  have liPB := zad i4
  have C5 := C4.trans hch
  have hPBw := C4.size
  clear t4 r4 i4 C4 hch
  obtain ⟨w5, hw5⟩ : ∃ W, World.onObj (w4.alloc (.cells (partC zeroPart) 51)) w4.heap.size (laidAt 0 (partC p0)) = W := ⟨_, rfl⟩
  rw [hw5] at p5 t5 r5 i5 C5 ⊢
  clear hw5
  obtain ⟨PB, hPB⟩ : ∃ b, w4.heap.size = b := ⟨_, rfl⟩
  rw [hPB] at p5 hPBw ltPB lrPB liPB ⊢
  clear hPB
  go_wp2_with fail
  refine (R1 _ _ r5).mono ?_
  rintro e w6 ⟨Q, rfl, q6, hc⟩
  have t6 := hkeep hc t5
  have r6 := hkeep hc r5
  have i6 := hkeep hc i5
  have p6 := hkeep hc p5
  have C6 := C5.trans hc
  clear t5 r5 i5 p5 C5 hc R1
  have nt := nsz t6
  have nr := nsz r6
  have ni := nsz i6
  have np := nsz p6
  have nq := nsz q6
  go_upto_region 11 with (fail)
  clear nt nr ni np nq
  have hch := part_put_ch p' w6
  have x7 := part_put p' w6
  have t7 := hkeep hch t6
  have r7 := hkeep hch r6
  have i7 := hkeep hch i6
  have p7 := hkeep hch p6
  have q7 := hkeep hch q6
  have ltXB := zad t6
  have lrXB := zad r6
  have liXB := zad i6
  have lpXB := zad p6
  have lqXB := zad q6
  have C7 := C6.trans hch
  have hXBw := C6.size
  clear t6 r6 i6 p6 q6 C6 hch
  obtain ⟨w7, hw7⟩ : ∃ W, World.onObj (w6.alloc (.cells (partC zeroPart) 51)) w6.heap.size (laidAt 0 (partC p')) = W := ⟨_, rfl⟩
  rw [hw7] at x7 t7 r7 i7 p7 q7 C7 ⊢
  clear hw7
  obtain ⟨XB, hXB⟩ : ∃ b, w6.heap.size = b := ⟨_, rfl⟩
  rw [hXB] at x7 hXBw ltXB lrXB liXB lpXB lqXB ⊢
  clear hXB
  clear p7
  refine sp_region_cut (fun a a' w' => ∃ (x46 x47 x48 x49 x50 x51 x52 x53 x54 x55 x56 x57 x58 x59 x60 x61 x62 x63 x64 x65 x66 x67 x68 x69 x70 x71 x72 x73 : Value), a' = (((((((((((((((((((((((((((((a.put (some 46) x46).put (some 47) x47).put (some 48) x48).put (some 49) x49).put (some 50) x50).put (some 51) x51).put (some 52) x52).put (some 53) x53).put (some 54) x54).put (some 55) x55).put (some 56) x56).put (some 57) x57).put (some 58) x58).put (some 59) x59).put (some 60) x60).put (some 61) x61).put (some 62) x62).put (some 63) x63).put (some 64) x64).put (some 65) x65).put (some 66) x66).put (some 67) x67).put (some 68) x68).put (some 69) x69).put (some 70) x70).put (some 71) x71).put (some 72) x72).put (some 73) x73).put (some 74) (.bool false)) ∧ w'.heap[T]? = some (.cells (tcells t) 26 (0, 0)) ∧ w'.heap[R]? = some (.cells c0 22 (0, 0)) ∧ w'.heap[IB]? = some (.cells #[I 1, I 2] 45 (0, 0)) ∧ w'.heap[Q]? = some (.cells c1 22 (0, 0)) ∧ w'.heap[XB]? = some (.cells (partC p') 51 (0, 0)) ∧ Ch [] w w') ?_ ?_
  · have s : (fun W' : World => W'.heap[Q]? = some (.cells c1 22 (0, 0)) ∧ W'.heap[R]? = some (.cells c0 22 (0, 0))) w7.drew := ⟨q7, r7⟩
    have td : w7.drew.heap[T]? = some (.cells (tcells t) 26 (0, 0)) := t7
    have id : w7.drew.heap[IB]? = some (.cells #[I 1, I 2] 45 (0, 0)) := i7
    have xd : w7.drew.heap[XB]? = some (.cells (partC p') 51 (0, 0)) := x7
    have Cd : Ch [] w w7.drew := C7.drew
    refine wp_region_held_drew (S := fun W' => W'.heap[Q]? = some (.cells c1 22 (0, 0)) ∧ W'.heap[R]? = some (.cells c0 22 (0, 0))) (by kernel_rfl) s ?_
    intro _
    simp only [List.size_toArray, List.length_cons, List.length_nil, Nat.reduceAdd]
    obtain ⟨wd, hwd⟩ : ∃ W, w7.drew = W := ⟨_, rfl⟩
    rw [hwd] at s Cd td id xd ⊢
    clear hwd
    refine wpAnyH_take (i := 0) (oi := ⟨some 46, _, _, _, _, none⟩) (v := ?_) rfl (by kernel_rfl) (by kernel_rfl) (by kernel_rfl) (fun _ _ _ h => by cases h.1) (Or.inl ⟨by rfl, ?_⟩) s ?_
    rotate_left
    · intro wq hSq
      obtain ⟨hSa, hSb⟩ := hSq
      first | (go_simp; done) | (go_simp; with_reducible rfl)
    try simp only [Act.put, List.setIfInBounds_toArray, List.set_cons_zero, List.set_cons_succ]
    refine wpAnyH_take (i := 1) (oi := ⟨some 47, _, _, _, _, none⟩) (v := ?_) rfl (by kernel_rfl) (by kernel_rfl) (by kernel_rfl) (fun _ _ _ h => by cases h.1) (Or.inl ⟨by rfl, ?_⟩) s ?_
    rotate_left
    · intro wq hSq
      obtain ⟨hSa, hSb⟩ := hSq
      first | (go_simp; done) | (go_simp; with_reducible rfl)
    try simp only [Act.put, List.setIfInBounds_toArray, List.set_cons_zero, List.set_cons_succ]
    refine wpAnyH_take (i := 2) (oi := ⟨some 48, _, _, _, _, none⟩) (v := ?_) rfl (by kernel_rfl) (by kernel_rfl) (by kernel_rfl) (fun _ _ _ h => by cases h.1) (Or.inl ⟨by rfl, ?_⟩) s ?_
    rotate_left
    · intro wq hSq
      obtain ⟨hSa, hSb⟩ := hSq
      first | (go_simp; done) | (go_simp; with_reducible rfl)
    try simp only [Act.put, List.setIfInBounds_toArray, List.set_cons_zero, List.set_cons_succ]
    refine wpAnyH_take (i := 3) (oi := ⟨some 49, _, _, _, _, _⟩) (v := ?_) rfl (by kernel_rfl) (by kernel_rfl) (by kernel_rfl) (fun _ _ _ h => by cases h.1) (Or.inl ⟨by rfl, ?_⟩) s ?_
    rotate_left
    · intro wq hSq
      obtain ⟨hSa, hSb⟩ := hSq
      first | (go_simp; done) | (go_simp; with_reducible rfl)
    try simp only [Act.put, List.setIfInBounds_toArray, List.set_cons_zero, List.set_cons_succ]
    refine wpAnyH_take (i := 4) (oi := ⟨some 50, _, _, _, _, _⟩) (v := ?_) rfl (by kernel_rfl) (by kernel_rfl) (by kernel_rfl) (fun _ _ _ h => by cases h.1) (Or.inl ⟨by rfl, ?_⟩) s ?_
    rotate_left
    · intro wq hSq
      obtain ⟨hSa, hSb⟩ := hSq
      first | (go_simp; done) | (go_simp; with_reducible rfl)
    try simp only [Act.put, List.setIfInBounds_toArray, List.set_cons_zero, List.set_cons_succ]
    refine wpAnyH_take (i := 5) (oi := ⟨some 51, _, _, _, _, none⟩) (v := ?_) rfl (by kernel_rfl) (by kernel_rfl) (by kernel_rfl) (fun _ _ _ h => by cases h.1) (Or.inl ⟨by rfl, ?_⟩) s ?_
    rotate_left
    · intro wq hSq
      obtain ⟨hSa, hSb⟩ := hSq
      first | (go_simp; done) | (go_simp; with_reducible rfl)
    try simp only [Act.put, List.setIfInBounds_toArray, List.set_cons_zero, List.set_cons_succ]
    refine wpAnyH_take (i := 6) (oi := ⟨some 52, _, _, _, _, none⟩) (v := ?_) rfl (by kernel_rfl) (by kernel_rfl) (by kernel_rfl) (fun _ _ _ h => by cases h.1) (Or.inl ⟨by rfl, ?_⟩) s ?_
    rotate_left
    · intro wq hSq
      obtain ⟨hSa, hSb⟩ := hSq
      first | (go_simp; done) | (go_simp; with_reducible rfl)
    try simp only [Act.put, List.setIfInBounds_toArray, List.set_cons_zero, List.set_cons_succ]
    refine wpAnyH_take (i := 7) (oi := ⟨some 53, _, _, _, _, _⟩) (v := ?_) rfl (by kernel_rfl) (by kernel_rfl) (by kernel_rfl) (fun _ _ _ h => by cases h.1) (Or.inl ⟨by rfl, ?_⟩) s ?_
    rotate_left
    · intro wq hSq
      obtain ⟨hSa, hSb⟩ := hSq
      first | (go_simp; done) | (go_simp; with_reducible rfl)
    try simp only [Act.put, List.setIfInBounds_toArray, List.set_cons_zero, List.set_cons_succ]
    refine wpAnyH_take (i := 9) (oi := ⟨some 55, _, _, _, _, _⟩) (v := ?_) rfl (by kernel_rfl) (by kernel_rfl) (by kernel_rfl) (fun _ _ _ h => by cases h.1) (Or.inl ⟨by rfl, ?_⟩) s ?_
    rotate_left
    · intro wq hSq
      obtain ⟨hSa, hSb⟩ := hSq
      first | (go_simp; done) | (go_simp; with_reducible rfl)
    try simp only [Act.put, List.setIfInBounds_toArray, List.set_cons_zero, List.set_cons_succ]
    refine wpAnyH_ready (rs := [8, 10]) (by kernel_rfl) (by simp) ?_
    refine AllReadyH.cons rfl (fun K hK => ?_) (AllReadyH.cons rfl (fun K hK => ?_) AllReadyH.nil)
    · go_simp
      refine hK.out _ _ s (fun _ => ?_)
      clear hK K
      refine rd 10 rfl (fun K hK => ?_); go_simp
      refine hK.out _ _ s (fun _ => ?_)
      clear hK K
      refine wpAnyH_take (i := 11) (oi := ⟨some 57, _, _, _, _, _⟩) (v := ?_) rfl (by kernel_rfl) (by kernel_rfl) (by kernel_rfl) (fun _ _ _ h => by cases h.1) (Or.inl ⟨by rfl, ?_⟩) s ?_
      rotate_left
      · intro wq hSq
        first | (go_simp; done) | (go_simp; with_reducible rfl)
      try simp only [Act.put, List.setIfInBounds_toArray, List.set_cons_zero, List.set_cons_succ]
      refine wpAnyH_take (i := 12) (oi := ⟨some 58, _, _, _, _, none⟩) (v := ?_) rfl (by kernel_rfl) (by kernel_rfl) (by kernel_rfl) (fun _ _ _ h => by cases h.1) (Or.inl ⟨by rfl, ?_⟩) s ?_
      rotate_left
      · intro wq hSq
        first | (go_simp; done) | (go_simp; with_reducible rfl)
      try simp only [Act.put, List.setIfInBounds_toArray, List.set_cons_zero, List.set_cons_succ]
      refine wpAnyH_take (i := 13) (oi := ⟨some 59, _, _, _, _, none⟩) (v := ?_) rfl (by kernel_rfl) (by kernel_rfl) (by kernel_rfl) (fun _ _ _ h => by cases h.1) (Or.inl ⟨by rfl, ?_⟩) s ?_
      rotate_left
      · intro wq hSq
        first | (go_simp; done) | (go_simp; with_reducible rfl)
      try simp only [Act.put, List.setIfInBounds_toArray, List.set_cons_zero, List.set_cons_succ]
      refine wpAnyH_take (i := 14) (oi := ⟨some 60, _, _, _, _, _⟩) (v := ?_) rfl (by kernel_rfl) (by kernel_rfl) (by kernel_rfl) (fun _ _ _ h => by cases h.1) (Or.inl ⟨by rfl, ?_⟩) s ?_
      rotate_left
      · intro wq hSq
        first | (go_simp; done) | (go_simp; with_reducible rfl)
      try simp only [Act.put, List.setIfInBounds_toArray, List.set_cons_zero, List.set_cons_succ]
      refine wpAnyH_take (i := 15) (oi := ⟨some 61, _, _, _, _, _⟩) (v := ?_) rfl (by kernel_rfl) (by kernel_rfl) (by kernel_rfl) (fun _ _ _ h => by cases h.1) (Or.inl ⟨by rfl, ?_⟩) s ?_
      rotate_left
      · intro wq hSq
        first | (go_simp; done) | (go_simp; with_reducible rfl)
      try simp only [Act.put, List.setIfInBounds_toArray, List.set_cons_zero, List.set_cons_succ]
      refine wpAnyH_take (i := 16) (oi := ⟨some 62, _, _, _, _, _⟩) (v := ?_) rfl (by kernel_rfl) (by kernel_rfl) (by kernel_rfl) (fun _ _ _ h => by cases h.1) (Or.inl ⟨by rfl, ?_⟩) s ?_
      rotate_left
      · intro wq hSq
        first | (go_simp; done) | (go_simp; with_reducible rfl)
      try simp only [Act.put, List.setIfInBounds_toArray, List.set_cons_zero, List.set_cons_succ]
      refine wpAnyH_take (i := 17) (oi := ⟨some 63, _, _, _, _, _⟩) (v := ?_) rfl (by kernel_rfl) (by kernel_rfl) (by kernel_rfl) (fun _ _ _ h => by cases h.1) (Or.inl ⟨by rfl, ?_⟩) s ?_
      rotate_left
      · intro wq hSq
        first | (go_simp; done) | (go_simp; with_reducible rfl)
      try simp only [Act.put, List.setIfInBounds_toArray, List.set_cons_zero, List.set_cons_succ]
      refine rd 18 rfl (fun K hK => ?_); go_simp
      refine (E16 _ s.1 s.2).mono ?_
      rintro e we ⟨rfl, he⟩
      have s' : (fun W' : World => W'.heap[Q]? = some (.cells c1 22 (0, 0)) ∧ W'.heap[R]? = some (.cells c0 22 (0, 0))) we := ⟨hkeep he s.1, hkeep he s.2⟩
      have t' := hkeep he td
      have i' := hkeep he id
      have x' := hkeep he xd
      have C' := Cd.trans he
      refine hK.out _ _ s' (fun _ => ?_)
      clear hK K s Cd he td id xd
      refine wpAnyH_take (i := 19) (oi := ⟨some 65, _, _, _, _, _⟩) (v := ?_) rfl (by kernel_rfl) (by kernel_rfl) (by kernel_rfl) (fun _ _ _ h => by cases h.1) (Or.inl ⟨by rfl, ?_⟩) s' ?_
      rotate_left
      · intro wq hSq
        first | (go_simp; done) | (go_simp; with_reducible rfl)
      try simp only [Act.put, List.setIfInBounds_toArray, List.set_cons_zero, List.set_cons_succ]
      refine wpAnyH_take (i := 20) (oi := ⟨some 66, _, _, _, _, none⟩) (v := ?_) rfl (by kernel_rfl) (by kernel_rfl) (by kernel_rfl) (fun _ _ _ h => by cases h.1) (Or.inl ⟨by rfl, ?_⟩) s' ?_
      rotate_left
      · intro wq hSq
        first | (go_simp; done) | (go_simp; with_reducible rfl)
      try simp only [Act.put, List.setIfInBounds_toArray, List.set_cons_zero, List.set_cons_succ]
      refine wpAnyH_take (i := 21) (oi := ⟨some 67, _, _, _, _, none⟩) (v := ?_) rfl (by kernel_rfl) (by kernel_rfl) (by kernel_rfl) (fun _ _ _ h => by cases h.1) (Or.inl ⟨by rfl, ?_⟩) s' ?_
      rotate_left
      · intro wq hSq
        first | (go_simp; done) | (go_simp; with_reducible rfl)
      try simp only [Act.put, List.setIfInBounds_toArray, List.set_cons_zero, List.set_cons_succ]
      refine wpAnyH_take (i := 22) (oi := ⟨some 68, _, _, _, _, _⟩) (v := ?_) rfl (by kernel_rfl) (by kernel_rfl) (by kernel_rfl) (fun _ _ _ h => by cases h.1) (Or.inl ⟨by rfl, ?_⟩) s' ?_
      rotate_left
      · intro wq hSq
        first | (go_simp; done) | (go_simp; with_reducible rfl)
      try simp only [Act.put, List.setIfInBounds_toArray, List.set_cons_zero, List.set_cons_succ]
      refine wpAnyH_take (i := 23) (oi := ⟨some 69, _, _, _, _, _⟩) (v := ?_) rfl (by kernel_rfl) (by kernel_rfl) (by kernel_rfl) (fun _ _ _ h => by cases h.1) (Or.inl ⟨by rfl, ?_⟩) s' ?_
      rotate_left
      · intro wq hSq
        first | (go_simp; done) | (go_simp; with_reducible rfl)
      try simp only [Act.put, List.setIfInBounds_toArray, List.set_cons_zero, List.set_cons_succ]
      refine wpAnyH_take (i := 24) (oi := ⟨some 70, _, _, _, _, _⟩) (v := ?_) rfl (by kernel_rfl) (by kernel_rfl) (by kernel_rfl) (fun _ _ _ h => by cases h.1) (Or.inl ⟨by rfl, ?_⟩) s' ?_
      rotate_left
      · intro wq hSq
        first | (go_simp; done) | (go_simp; with_reducible rfl)
      try simp only [Act.put, List.setIfInBounds_toArray, List.set_cons_zero, List.set_cons_succ]
      refine wpAnyH_take (i := 25) (oi := ⟨some 71, _, _, _, _, _⟩) (v := ?_) rfl (by kernel_rfl) (by kernel_rfl) (by kernel_rfl) (fun _ _ _ h => by cases h.1) (Or.inl ⟨by rfl, ?_⟩) s' ?_
      rotate_left
      · intro wq hSq
        first | (go_simp; done) | (go_simp; with_reducible rfl)
      try simp only [Act.put, List.setIfInBounds_toArray, List.set_cons_zero, List.set_cons_succ]
      refine rd 26 rfl (fun K hK => ?_); go_simp
      refine (E39 _ s'.1 s'.2).mono ?_
      rintro e wf ⟨rfl, he⟩
      have s := (⟨hkeep he s'.1, hkeep he s'.2⟩ : (fun W' : World => W'.heap[Q]? = some (.cells c1 22 (0, 0)) ∧ W'.heap[R]? = some (.cells c0 22 (0, 0))) wf)
      have td := hkeep he t'
      have id := hkeep he i'
      have xd := hkeep he x'
      have Cd := C'.trans he
      refine hK.out _ _ s (fun _ => ?_)
      clear hK K s' C' he t' i' x'
      refine wpAnyH_take (i := 27) (oi := ⟨some 73, _, _, _, _, _⟩) (v := ?_) rfl (by kernel_rfl) (by kernel_rfl) (by kernel_rfl) (fun _ _ _ h => by cases h.1) (Or.inl ⟨by rfl, ?_⟩) s ?_
      rotate_left
      · intro wq hSq
        first | (go_simp; done) | (go_simp; with_reducible rfl)
      try simp only [Act.put, List.setIfInBounds_toArray, List.set_cons_zero, List.set_cons_succ]
      refine wpAnyH_take (i := 28) (oi := ⟨some 74, _, _, _, _, none⟩) (v := ?_) rfl (by kernel_rfl) (by kernel_rfl) (by kernel_rfl) (fun _ _ _ h => by cases h.1) (Or.inl ⟨by rfl, ?_⟩) s ?_
      rotate_left
      · intro wq hSq
        first | (go_simp; done) | (go_simp; with_reducible rfl)
      try simp only [Act.put, List.setIfInBounds_toArray, List.set_cons_zero, List.set_cons_succ]
      refine wpAnyH_done (by kernel_rfl) ?_ _
      exact ⟨rfl, _, _, _, _, _, _, _, _, _, _, _, _, _, _, _, _, _, _, _, _, _, _, _, _, _, _, _, _, rfl, td, s.2, id, s.1, xd, Cd⟩
    · go_simp
      refine hK.out _ _ s (fun _ => ?_)
      clear hK K
      refine rd 8 rfl (fun K hK => ?_); go_simp
      refine hK.out _ _ s (fun _ => ?_)
      clear hK K
      refine wpAnyH_take (i := 11) (oi := ⟨some 57, _, _, _, _, _⟩) (v := ?_) rfl (by kernel_rfl) (by kernel_rfl) (by kernel_rfl) (fun _ _ _ h => by cases h.1) (Or.inl ⟨by rfl, ?_⟩) s ?_
      rotate_left
      · intro wq hSq
        first | (go_simp; done) | (go_simp; with_reducible rfl)
      try simp only [Act.put, List.setIfInBounds_toArray, List.set_cons_zero, List.set_cons_succ]
      refine wpAnyH_take (i := 12) (oi := ⟨some 58, _, _, _, _, none⟩) (v := ?_) rfl (by kernel_rfl) (by kernel_rfl) (by kernel_rfl) (fun _ _ _ h => by cases h.1) (Or.inl ⟨by rfl, ?_⟩) s ?_
      rotate_left
      · intro wq hSq
        first | (go_simp; done) | (go_simp; with_reducible rfl)
      try simp only [Act.put, List.setIfInBounds_toArray, List.set_cons_zero, List.set_cons_succ]
      refine wpAnyH_take (i := 13) (oi := ⟨some 59, _, _, _, _, none⟩) (v := ?_) rfl (by kernel_rfl) (by kernel_rfl) (by kernel_rfl) (fun _ _ _ h => by cases h.1) (Or.inl ⟨by rfl, ?_⟩) s ?_
      rotate_left
      · intro wq hSq
        first | (go_simp; done) | (go_simp; with_reducible rfl)
      try simp only [Act.put, List.setIfInBounds_toArray, List.set_cons_zero, List.set_cons_succ]
      refine wpAnyH_take (i := 14) (oi := ⟨some 60, _, _, _, _, _⟩) (v := ?_) rfl (by kernel_rfl) (by kernel_rfl) (by kernel_rfl) (fun _ _ _ h => by cases h.1) (Or.inl ⟨by rfl, ?_⟩) s ?_
      rotate_left
      · intro wq hSq
        first | (go_simp; done) | (go_simp; with_reducible rfl)
      try simp only [Act.put, List.setIfInBounds_toArray, List.set_cons_zero, List.set_cons_succ]
      refine wpAnyH_take (i := 15) (oi := ⟨some 61, _, _, _, _, _⟩) (v := ?_) rfl (by kernel_rfl) (by kernel_rfl) (by kernel_rfl) (fun _ _ _ h => by cases h.1) (Or.inl ⟨by rfl, ?_⟩) s ?_
      rotate_left
      · intro wq hSq
        first | (go_simp; done) | (go_simp; with_reducible rfl)
      try simp only [Act.put, List.setIfInBounds_toArray, List.set_cons_zero, List.set_cons_succ]
      refine wpAnyH_take (i := 16) (oi := ⟨some 62, _, _, _, _, _⟩) (v := ?_) rfl (by kernel_rfl) (by kernel_rfl) (by kernel_rfl) (fun _ _ _ h => by cases h.1) (Or.inl ⟨by rfl, ?_⟩) s ?_
      rotate_left
      · intro wq hSq
        first | (go_simp; done) | (go_simp; with_reducible rfl)
      try simp only [Act.put, List.setIfInBounds_toArray, List.set_cons_zero, List.set_cons_succ]
      refine wpAnyH_take (i := 17) (oi := ⟨some 63, _, _, _, _, _⟩) (v := ?_) rfl (by kernel_rfl) (by kernel_rfl) (by kernel_rfl) (fun _ _ _ h => by cases h.1) (Or.inl ⟨by rfl, ?_⟩) s ?_
      rotate_left
      · intro wq hSq
        first | (go_simp; done) | (go_simp; with_reducible rfl)
      try simp only [Act.put, List.setIfInBounds_toArray, List.set_cons_zero, List.set_cons_succ]
      refine rd 18 rfl (fun K hK => ?_); go_simp
      refine (E16 _ s.1 s.2).mono ?_
      rintro e we ⟨rfl, he⟩
      have s' : (fun W' : World => W'.heap[Q]? = some (.cells c1 22 (0, 0)) ∧ W'.heap[R]? = some (.cells c0 22 (0, 0))) we := ⟨hkeep he s.1, hkeep he s.2⟩
      have t' := hkeep he td
      have i' := hkeep he id
      have x' := hkeep he xd
      have C' := Cd.trans he
      refine hK.out _ _ s' (fun _ => ?_)
      clear hK K s Cd he td id xd
      refine wpAnyH_take (i := 19) (oi := ⟨some 65, _, _, _, _, _⟩) (v := ?_) rfl (by kernel_rfl) (by kernel_rfl) (by kernel_rfl) (fun _ _ _ h => by cases h.1) (Or.inl ⟨by rfl, ?_⟩) s' ?_
      rotate_left
      · intro wq hSq
        first | (go_simp; done) | (go_simp; with_reducible rfl)
      try simp only [Act.put, List.setIfInBounds_toArray, List.set_cons_zero, List.set_cons_succ]
      refine wpAnyH_take (i := 20) (oi := ⟨some 66, _, _, _, _, none⟩) (v := ?_) rfl (by kernel_rfl) (by kernel_rfl) (by kernel_rfl) (fun _ _ _ h => by cases h.1) (Or.inl ⟨by rfl, ?_⟩) s' ?_
      rotate_left
      · intro wq hSq
        first | (go_simp; done) | (go_simp; with_reducible rfl)
      try simp only [Act.put, List.setIfInBounds_toArray, List.set_cons_zero, List.set_cons_succ]
      refine wpAnyH_take (i := 21) (oi := ⟨some 67, _, _, _, _, none⟩) (v := ?_) rfl (by kernel_rfl) (by kernel_rfl) (by kernel_rfl) (fun _ _ _ h => by cases h.1) (Or.inl ⟨by rfl, ?_⟩) s' ?_
      rotate_left
      · intro wq hSq
        first | (go_simp; done) | (go_simp; with_reducible rfl)
      try simp only [Act.put, List.setIfInBounds_toArray, List.set_cons_zero, List.set_cons_succ]
      refine wpAnyH_take (i := 22) (oi := ⟨some 68, _, _, _, _, _⟩) (v := ?_) rfl (by kernel_rfl) (by kernel_rfl) (by kernel_rfl) (fun _ _ _ h => by cases h.1) (Or.inl ⟨by rfl, ?_⟩) s' ?_
      rotate_left
      · intro wq hSq
        first | (go_simp; done) | (go_simp; with_reducible rfl)
      try simp only [Act.put, List.setIfInBounds_toArray, List.set_cons_zero, List.set_cons_succ]
      refine wpAnyH_take (i := 23) (oi := ⟨some 69, _, _, _, _, _⟩) (v := ?_) rfl (by kernel_rfl) (by kernel_rfl) (by kernel_rfl) (fun _ _ _ h => by cases h.1) (Or.inl ⟨by rfl, ?_⟩) s' ?_
      rotate_left
      · intro wq hSq
        first | (go_simp; done) | (go_simp; with_reducible rfl)
      try simp only [Act.put, List.setIfInBounds_toArray, List.set_cons_zero, List.set_cons_succ]
      refine wpAnyH_take (i := 24) (oi := ⟨some 70, _, _, _, _, _⟩) (v := ?_) rfl (by kernel_rfl) (by kernel_rfl) (by kernel_rfl) (fun _ _ _ h => by cases h.1) (Or.inl ⟨by rfl, ?_⟩) s' ?_
      rotate_left
      · intro wq hSq
        first | (go_simp; done) | (go_simp; with_reducible rfl)
      try simp only [Act.put, List.setIfInBounds_toArray, List.set_cons_zero, List.set_cons_succ]
      refine wpAnyH_take (i := 25) (oi := ⟨some 71, _, _, _, _, _⟩) (v := ?_) rfl (by kernel_rfl) (by kernel_rfl) (by kernel_rfl) (fun _ _ _ h => by cases h.1) (Or.inl ⟨by rfl, ?_⟩) s' ?_
      rotate_left
      · intro wq hSq
        first | (go_simp; done) | (go_simp; with_reducible rfl)
      try simp only [Act.put, List.setIfInBounds_toArray, List.set_cons_zero, List.set_cons_succ]
      refine rd 26 rfl (fun K hK => ?_); go_simp
      refine (E39 _ s'.1 s'.2).mono ?_
      rintro e wf ⟨rfl, he⟩
      have s := (⟨hkeep he s'.1, hkeep he s'.2⟩ : (fun W' : World => W'.heap[Q]? = some (.cells c1 22 (0, 0)) ∧ W'.heap[R]? = some (.cells c0 22 (0, 0))) wf)
      have td := hkeep he t'
      have id := hkeep he i'
      have xd := hkeep he x'
      have Cd := C'.trans he
      refine hK.out _ _ s (fun _ => ?_)
      clear hK K s' C' he t' i' x'
      refine wpAnyH_take (i := 27) (oi := ⟨some 73, _, _, _, _, _⟩) (v := ?_) rfl (by kernel_rfl) (by kernel_rfl) (by kernel_rfl) (fun _ _ _ h => by cases h.1) (Or.inl ⟨by rfl, ?_⟩) s ?_
      rotate_left
      · intro wq hSq
        first | (go_simp; done) | (go_simp; with_reducible rfl)
      try simp only [Act.put, List.setIfInBounds_toArray, List.set_cons_zero, List.set_cons_succ]
      refine wpAnyH_take (i := 28) (oi := ⟨some 74, _, _, _, _, none⟩) (v := ?_) rfl (by kernel_rfl) (by kernel_rfl) (by kernel_rfl) (fun _ _ _ h => by cases h.1) (Or.inl ⟨by rfl, ?_⟩) s ?_
      rotate_left
      · intro wq hSq
        first | (go_simp; done) | (go_simp; with_reducible rfl)
      try simp only [Act.put, List.setIfInBounds_toArray, List.set_cons_zero, List.set_cons_succ]
      refine wpAnyH_done (by kernel_rfl) ?_ _
      exact ⟨rfl, _, _, _, _, _, _, _, _, _, _, _, _, _, _, _, _, _, _, _, _, _, _, _, _, _, _, _, _, rfl, td, s.2, id, s.1, xd, Cd⟩
  rintro a' w8 ⟨x46, x47, x48, x49, x50, x51, x52, x53, x54, x55, x56, x57, x58, x59, x60, x61, x62, x63, x64, x65, x66, x67, x68, x69, x70, x71, x72, x73, rfl, t8, r8, i8, q8, x8, C8⟩
  try simp only [Act.put, List.setIfInBounds_toArray, List.set_cons_zero, List.set_cons_succ]
  clear t7 r7 i7 q7 x7 C7 E16 E39
  go_wp2_with fail
  refine (H1 _).mono ?_
  rintro e w9 ⟨rfl, hc⟩
  have t9 := hkeep hc t8
  have r9 := hkeep hc r8
  have i9 := hkeep hc i8
  have q9 := hkeep hc q8
  have x9 := hkeep hc x8
  have C9 := C8.trans hc
  clear t8 r8 i8 q8 x8 C8 hc H1
  have nt := nsz t9
  have nr := nsz r9
  have ni := nsz i9
  have nq := nsz q9
  have nx := nsz x9
  go_upto_region 14 with (fail)
  clear nt nr ni nq nx
  have hch := t2_put_ch ⟨X0, X1⟩ w9
  have h10 := t2_put ⟨X0, X1⟩ w9
  have t10 := hkeep hch t9
  have r10 := hkeep hch r9
  have i10 := hkeep hch i9
  have q10 := hkeep hch q9
  have x10 := hkeep hch x9
  have ltHB := zad t9
  have lrHB := zad r9
  have liHB := zad i9
  have lqHB := zad q9
  have lxHB := zad x9
  have C10 := C9.trans hch
  have hHBw := C9.size
  clear t9 r9 i9 q9 x9 C9 hch
  obtain ⟨w10, hw10⟩ : ∃ W, World.onObj (w9.alloc (.cells (t2cells zeroT2) 35)) w9.heap.size (laidAt 0 (t2cells ⟨X0, X1⟩)) = W := ⟨_, rfl⟩
  rw [hw10] at h10 t10 r10 i10 q10 x10 C10 ⊢
  clear hw10
  obtain ⟨HB, hHB⟩ : ∃ b, w9.heap.size = b := ⟨_, rfl⟩
  rw [hHB] at h10 hHBw ltHB lrHB liHB lqHB lxHB ⊢
  clear hHB
  go_upto_region 16 with (fail)
  have s : (fun W' : World => W'.heap[Q]? = some (.cells c1 22 (0, 0)) ∧ W'.heap[T]? = some (.cells (tcells t) 26 (0, 0))) w10.drew := ⟨q10, t10⟩
  have r11 : w10.drew.heap[R]? = some (.cells c0 22 (0, 0)) := r10
  have i11 : w10.drew.heap[IB]? = some (.cells #[I 1, I 2] 45 (0, 0)) := i10
  have x11 : w10.drew.heap[XB]? = some (.cells (partC p') 51 (0, 0)) := x10
  have h11 : w10.drew.heap[HB]? = some (.cells (t2cells ⟨X0, X1⟩) 35 (0, 0)) := h10
  have C11 : Ch [] w w10.drew := C10.drew
  refine wp_region_held_drew (S := fun W' => W'.heap[Q]? = some (.cells c1 22 (0, 0)) ∧ W'.heap[T]? = some (.cells (tcells t) 26 (0, 0))) (by kernel_rfl) s ?_
  intro _
  simp only [List.size_toArray, List.length_cons, List.length_nil, Nat.reduceAdd]
  obtain ⟨w11, hwd⟩ : ∃ W, w10.drew = W := ⟨_, rfl⟩
  rw [hwd] at s C11 r11 i11 x11 h11 ⊢
  clear hwd t10 r10 i10 q10 x10 h10 C10
  refine tk 0 111 ?_ rfl s ?_ ?_; rotate_left
  · intro wq hSq; obtain ⟨hSa, hSb⟩ := hSq; go_simp; try with_reducible rfl
  try go_frame
  refine tk 1 112 ?_ rfl s ?_ ?_; rotate_left
  · intro wq hSq; obtain ⟨hSa, hSb⟩ := hSq; go_simp; try with_reducible rfl
  try go_frame
  refine tk 2 113 ?_ rfl s ?_ ?_; rotate_left
  · intro wq hSq; obtain ⟨hSa, hSb⟩ := hSq; go_simp; try with_reducible rfl
  try go_frame
  refine tk 3 114 ?_ rfl s ?_ ?_; rotate_left
  · intro wq hSq; obtain ⟨hSa, hSb⟩ := hSq; go_simp; try with_reducible rfl
  try go_frame
  refine tk 4 115 ?_ rfl s ?_ ?_; rotate_left
  · intro wq hSq; obtain ⟨hSa, hSb⟩ := hSq; go_simp; try with_reducible rfl
  try go_frame
  refine tk 5 116 ?_ rfl s ?_ ?_; rotate_left
  · intro wq hSq; obtain ⟨hSa, hSb⟩ := hSq; go_simp; try with_reducible rfl
  try go_frame
  refine tk 6 117 ?_ rfl s ?_ ?_; rotate_left
  · intro wq hSq; obtain ⟨hSa, hSb⟩ := hSq; go_simp; try with_reducible rfl
  try go_frame
  refine tk 7 118 ?_ rfl s ?_ ?_; rotate_left
  · intro wq hSq; obtain ⟨hSa, hSb⟩ := hSq; go_simp; try with_reducible rfl
  try go_frame
  refine tk 8 119 ?_ rfl s ?_ ?_; rotate_left
  · intro wq hSq; obtain ⟨hSa, hSb⟩ := hSq; go_simp; try with_reducible rfl
  try go_frame
  refine tk 9 120 ?_ rfl s ?_ ?_; rotate_left
  · intro wq hSq; obtain ⟨hSa, hSb⟩ := hSq; go_simp; try with_reducible rfl
  try go_frame
  refine tk 10 121 ?_ rfl s ?_ ?_; rotate_left
  · intro wq hSq; obtain ⟨hSa, hSb⟩ := hSq; go_simp; try with_reducible rfl
  try go_frame
  refine tk 11 122 ?_ rfl s ?_ ?_; rotate_left
  · intro wq hSq; obtain ⟨hSa, hSb⟩ := hSq; go_simp; try with_reducible rfl
  try go_frame
  refine tk 12 123 ?_ rfl s ?_ ?_; rotate_left
  · intro wq hSq; obtain ⟨hSa, hSb⟩ := hSq; go_simp; try with_reducible rfl
  try go_frame
  refine tk 13 124 ?_ rfl s ?_ ?_; rotate_left
  · intro wq hSq; obtain ⟨hSa, hSb⟩ := hSq; go_simp; try with_reducible rfl
  try go_frame
  refine tk 14 125 ?_ rfl s ?_ ?_; rotate_left
  · intro wq hSq; obtain ⟨hSa, hSb⟩ := hSq; go_simp; try with_reducible rfl
  try go_frame
  refine tk 15 126 ?_ rfl s ?_ ?_; rotate_left
  · intro wq hSq; obtain ⟨hSa, hSb⟩ := hSq; go_simp; try with_reducible rfl
  try go_frame
  refine tk 16 127 ?_ rfl s ?_ ?_; rotate_left
  · intro wq hSq; obtain ⟨hSa, hSb⟩ := hSq; go_simp; try with_reducible rfl
  try go_frame
  refine tk 17 128 ?_ rfl s ?_ ?_; rotate_left
  · intro wq hSq; obtain ⟨hSa, hSb⟩ := hSq; go_simp; try with_reducible rfl
  try go_frame
  refine wpAnyH_done (by kernel_rfl) ?_ _
  obtain ⟨q11, t11⟩ := s
  go_wp2_with fail
  refine wp_loop_rounds 3 ?_
  rw [rounds_succ]
  go_wp2_with fail
  refine (CL0 _).mono ?_
  rintro e w' ⟨rfl, rfl⟩
  go_wp2_with fail
  refine (TC0 _ _ q11).mono ?_
  rintro e w12 ⟨rfl, hc⟩
  have t12 := hkeep hc t11
  have r12 := hkeep hc r11
  have i12 := hkeep hc i11
  have q12 := hkeep hc q11
  have x12 := hkeep hc x11
  have h12 := hkeep hc h11
  have C12 := C11.trans hc
  clear t11 r11 i11 q11 x11 h11 C11 hc 
  have nt := nsz t12
  have nr := nsz r12
  have ni := nsz i12
  have nq := nsz q12
  have nx := nsz x12
  have nh := nsz h12
  go_upto_region 25 with (fail)
  clear nt nr ni nq nx nh
  have hch := tabz_put_ch X0 w12
  have g13 := tabz_put X0 w12
  have t13 := hkeep hch t12
  have r13 := hkeep hch r12
  have i13 := hkeep hch i12
  have q13 := hkeep hch q12
  have x13 := hkeep hch x12
  have h13 := hkeep hch h12
  have ltG0 := zad t12
  have lrG0 := zad r12
  have liG0 := zad i12
  have lqG0 := zad q12
  have lxG0 := zad x12
  have lhG0 := zad h12
  have C13 := C12.trans hch
  have hG0w := C12.size
  clear t12 r12 i12 q12 x12 h12 C12 hch
  obtain ⟨w13, hw13⟩ : ∃ W, World.onObj (w12.alloc (.cells (tcells zeroT) 26)) w12.heap.size (laidAt 0 (tcells X0)) = W := ⟨_, rfl⟩
  rw [hw13] at g13 t13 r13 i13 q13 x13 h13 C13 ⊢
  clear hw13
  obtain ⟨G0, hG0⟩ : ∃ b, w12.heap.size = b := ⟨_, rfl⟩
  rw [hG0] at g13 hG0w ltG0 lrG0 liG0 lqG0 lxG0 lhG0 ⊢
  clear hG0
  have s : (fun W' : World => W'.heap[G0]? = some (.cells (tcells X0) 26 (0, 0)) ∧ W'.heap[HB]? = some (.cells (t2cells ⟨X0, X1⟩) 35 (0, 0))) w13.drew := ⟨g13, h13⟩
  have td : w13.drew.heap[T]? = some (.cells (tcells t) 26 (0, 0)) := t13
  have rdd : w13.drew.heap[R]? = some (.cells c0 22 (0, 0)) := r13
  have id : w13.drew.heap[IB]? = some (.cells #[I 1, I 2] 45 (0, 0)) := i13
  have qd : w13.drew.heap[Q]? = some (.cells c1 22 (0, 0)) := q13
  have xd : w13.drew.heap[XB]? = some (.cells (partC p') 51 (0, 0)) := x13
  have Cd : Ch [] w w13.drew := C13.drew
  refine wp_region_held_drew (S := fun W' => W'.heap[G0]? = some (.cells (tcells X0) 26 (0, 0)) ∧ W'.heap[HB]? = some (.cells (t2cells ⟨X0, X1⟩) 35 (0, 0))) (by kernel_rfl) s ?_
  intro _
  simp only [List.size_toArray, List.length_cons, List.length_nil, Nat.reduceAdd]
  obtain ⟨wd, hwd⟩ : ∃ W, w13.drew = W := ⟨_, rfl⟩
  rw [hwd] at s Cd td rdd id qd xd ⊢
  clear hwd t13 r13 i13 q13 x13 h13 g13 C13
  refine tk 0 154 ?_ rfl s ?_ ?_; rotate_left
  · intro wq hSq; obtain ⟨hSa, hSb⟩ := hSq; go_simp; try with_reducible rfl
  try go_frame
  refine tk 1 155 ?_ rfl s ?_ ?_; rotate_left
  · intro wq hSq; obtain ⟨hSa, hSb⟩ := hSq; go_simp; try with_reducible rfl
  try go_frame
  refine tk 2 156 ?_ rfl s ?_ ?_; rotate_left
  · intro wq hSq; obtain ⟨hSa, hSb⟩ := hSq; go_simp; try with_reducible rfl
  try go_frame
  refine tk 3 157 ?_ rfl s ?_ ?_; rotate_left
  · intro wq hSq; obtain ⟨hSa, hSb⟩ := hSq; go_simp; try with_reducible rfl
  try go_frame
  refine tk 4 158 ?_ rfl s ?_ ?_; rotate_left
  · intro wq hSq; obtain ⟨hSa, hSb⟩ := hSq; go_simp; try with_reducible rfl
  try go_frame
  refine tk 5 159 ?_ rfl s ?_ ?_; rotate_left
  · intro wq hSq; obtain ⟨hSa, hSb⟩ := hSq; go_simp; try with_reducible rfl
  try go_frame
  refine tk 6 160 ?_ rfl s ?_ ?_; rotate_left
  · intro wq hSq; obtain ⟨hSa, hSb⟩ := hSq; go_simp; try with_reducible rfl
  try go_frame
  refine tk 7 161 ?_ rfl s ?_ ?_; rotate_left
  · intro wq hSq; obtain ⟨hSa, hSb⟩ := hSq; go_simp; try with_reducible rfl
  try go_frame
  refine tk 8 162 ?_ rfl s ?_ ?_; rotate_left
  · intro wq hSq; obtain ⟨hSa, hSb⟩ := hSq; go_simp; try with_reducible rfl
  try go_frame
  refine tk 9 163 ?_ rfl s ?_ ?_; rotate_left
  · intro wq hSq; obtain ⟨hSa, hSb⟩ := hSq; go_simp; try with_reducible rfl
  try go_frame
  refine tk 10 164 ?_ rfl s ?_ ?_; rotate_left
  · intro wq hSq; obtain ⟨hSa, hSb⟩ := hSq; go_simp; try with_reducible rfl
  try go_frame
  refine tk 11 165 ?_ rfl s ?_ ?_; rotate_left
  · intro wq hSq; obtain ⟨hSa, hSb⟩ := hSq; go_simp; try with_reducible rfl
  try go_frame
  refine tk 12 166 ?_ rfl s ?_ ?_; rotate_left
  · intro wq hSq; obtain ⟨hSa, hSb⟩ := hSq; go_simp; try with_reducible rfl
  try go_frame
  refine tk 13 167 ?_ rfl s ?_ ?_; rotate_left
  · intro wq hSq; obtain ⟨hSa, hSb⟩ := hSq; go_simp; try with_reducible rfl
  try go_frame
  refine tk 14 168 ?_ rfl s ?_ ?_; rotate_left
  · intro wq hSq; obtain ⟨hSa, hSb⟩ := hSq; go_simp; try with_reducible rfl
  try go_frame
  refine tk 15 169 ?_ rfl s ?_ ?_; rotate_left
  · intro wq hSq; obtain ⟨hSa, hSb⟩ := hSq; go_simp; try with_reducible rfl
  try go_frame
  refine rd 16 rfl (fun K hK => ?_); go_simp
  refine (KC0 _).mono ?_
  rintro e w14 ⟨rfl, he⟩
  have s' : (fun W' : World => W'.heap[G0]? = some (.cells (tcells X0) 26 (0, 0)) ∧ W'.heap[HB]? = some (.cells (t2cells ⟨X0, X1⟩) 35 (0, 0))) w14 := ⟨hkeep he s.1, hkeep he s.2⟩
  have t14 := hkeep he td
  have r14 := hkeep he rdd
  have i14 := hkeep he id
  have q14 := hkeep he qd
  have x14 := hkeep he xd
  have C14 := Cd.trans he
  refine hK.out _ _ s' (fun _ => ?_)
  clear hK K s Cd he td rdd id qd xd
  refine tk 17 171 ?_ rfl s' ?_ ?_; rotate_left
  · intro _ _; go_simp; try with_reducible rfl
  try go_frame
  refine tk 18 172 ?_ rfl s' ?_ ?_; rotate_left
  · intro _ _; go_simp; try with_reducible rfl
  try go_frame
  refine wpAnyH_done (by kernel_rfl) ?_ _
  obtain ⟨g14, h14⟩ := s'
  clear g14
  go_wp2_with fail
  rw [rounds_succ]
  go_wp2_with fail
  refine (CL1 _).mono ?_
  rintro e w' ⟨rfl, rfl⟩
  go_wp2_with fail
  refine (TC1 _ _ q14).mono ?_
  rintro e w15 ⟨rfl, hc⟩
  have t15 := hkeep hc t14
  have r15 := hkeep hc r14
  have i15 := hkeep hc i14
  have q15 := hkeep hc q14
  have x15 := hkeep hc x14
  have h15 := hkeep hc h14
  have C15 := C14.trans hc
  clear t14 r14 i14 q14 x14 h14 C14 hc 
  have nt := nsz t15
  have nr := nsz r15
  have ni := nsz i15
  have nq := nsz q15
  have nx := nsz x15
  have nh := nsz h15
  go_upto_region 25 with (fail)
  clear nt nr ni nq nx nh
  have hch := tabz_put_ch X1 w15
  have g16 := tabz_put X1 w15
  have t16 := hkeep hch t15
  have r16 := hkeep hch r15
  have i16 := hkeep hch i15
  have q16 := hkeep hch q15
  have x16 := hkeep hch x15
  have h16 := hkeep hch h15
  have ltG1 := zad t15
  have lrG1 := zad r15
  have liG1 := zad i15
  have lqG1 := zad q15
  have lxG1 := zad x15
  have lhG1 := zad h15
  have C16 := C15.trans hch
  have hG1w := C15.size
  clear t15 r15 i15 q15 x15 h15 C15 hch
  obtain ⟨w16, hw16⟩ : ∃ W, World.onObj (w15.alloc (.cells (tcells zeroT) 26)) w15.heap.size (laidAt 0 (tcells X1)) = W := ⟨_, rfl⟩
  rw [hw16] at g16 t16 r16 i16 q16 x16 h16 C16 ⊢
  clear hw16
  obtain ⟨G1, hG1⟩ : ∃ b, w15.heap.size = b := ⟨_, rfl⟩
  rw [hG1] at g16 hG1w ltG1 lrG1 liG1 lqG1 lxG1 lhG1 ⊢
  clear hG1
  have s : (fun W' : World => W'.heap[G1]? = some (.cells (tcells X1) 26 (0, 0)) ∧ W'.heap[HB]? = some (.cells (t2cells ⟨X0, X1⟩) 35 (0, 0))) w16.drew := ⟨g16, h16⟩
  have td : w16.drew.heap[T]? = some (.cells (tcells t) 26 (0, 0)) := t16
  have rdd : w16.drew.heap[R]? = some (.cells c0 22 (0, 0)) := r16
  have id : w16.drew.heap[IB]? = some (.cells #[I 1, I 2] 45 (0, 0)) := i16
  have qd : w16.drew.heap[Q]? = some (.cells c1 22 (0, 0)) := q16
  have xd : w16.drew.heap[XB]? = some (.cells (partC p') 51 (0, 0)) := x16
  have Cd : Ch [] w w16.drew := C16.drew
  refine wp_region_held_drew (S := fun W' => W'.heap[G1]? = some (.cells (tcells X1) 26 (0, 0)) ∧ W'.heap[HB]? = some (.cells (t2cells ⟨X0, X1⟩) 35 (0, 0))) (by kernel_rfl) s ?_
  intro _
  simp only [List.size_toArray, List.length_cons, List.length_nil, Nat.reduceAdd]
  obtain ⟨wd, hwd⟩ : ∃ W, w16.drew = W := ⟨_, rfl⟩
  rw [hwd] at s Cd td rdd id qd xd ⊢
  clear hwd t16 r16 i16 q16 x16 h16 g16 C16
  refine tk 0 154 ?_ rfl s ?_ ?_; rotate_left
  · intro wq hSq; obtain ⟨hSa, hSb⟩ := hSq; go_simp; try with_reducible rfl
  try go_frame
  refine tk 1 155 ?_ rfl s ?_ ?_; rotate_left
  · intro wq hSq; obtain ⟨hSa, hSb⟩ := hSq; go_simp; try with_reducible rfl
  try go_frame
  refine tk 2 156 ?_ rfl s ?_ ?_; rotate_left
  · intro wq hSq; obtain ⟨hSa, hSb⟩ := hSq; go_simp; try with_reducible rfl
  try go_frame
  refine tk 3 157 ?_ rfl s ?_ ?_; rotate_left
  · intro wq hSq; obtain ⟨hSa, hSb⟩ := hSq; go_simp; try with_reducible rfl
  try go_frame
  refine tk 4 158 ?_ rfl s ?_ ?_; rotate_left
  · intro wq hSq; obtain ⟨hSa, hSb⟩ := hSq; go_simp; try with_reducible rfl
  try go_frame
  refine tk 5 159 ?_ rfl s ?_ ?_; rotate_left
  · intro wq hSq; obtain ⟨hSa, hSb⟩ := hSq; go_simp; try with_reducible rfl
  try go_frame
  refine tk 6 160 ?_ rfl s ?_ ?_; rotate_left
  · intro wq hSq; obtain ⟨hSa, hSb⟩ := hSq; go_simp; try with_reducible rfl
  try go_frame
  refine tk 7 161 ?_ rfl s ?_ ?_; rotate_left
  · intro wq hSq; obtain ⟨hSa, hSb⟩ := hSq; go_simp; try with_reducible rfl
  try go_frame
  refine tk 8 162 ?_ rfl s ?_ ?_; rotate_left
  · intro wq hSq; obtain ⟨hSa, hSb⟩ := hSq; go_simp; try with_reducible rfl
  try go_frame
  refine tk 9 163 ?_ rfl s ?_ ?_; rotate_left
  · intro wq hSq; obtain ⟨hSa, hSb⟩ := hSq; go_simp; try with_reducible rfl
  try go_frame
  refine tk 10 164 ?_ rfl s ?_ ?_; rotate_left
  · intro wq hSq; obtain ⟨hSa, hSb⟩ := hSq; go_simp; try with_reducible rfl
  try go_frame
  refine tk 11 165 ?_ rfl s ?_ ?_; rotate_left
  · intro wq hSq; obtain ⟨hSa, hSb⟩ := hSq; go_simp; try with_reducible rfl
  try go_frame
  refine tk 12 166 ?_ rfl s ?_ ?_; rotate_left
  · intro wq hSq; obtain ⟨hSa, hSb⟩ := hSq; go_simp; try with_reducible rfl
  try go_frame
  refine tk 13 167 ?_ rfl s ?_ ?_; rotate_left
  · intro wq hSq; obtain ⟨hSa, hSb⟩ := hSq; go_simp; try with_reducible rfl
  try go_frame
  refine tk 14 168 ?_ rfl s ?_ ?_; rotate_left
  · intro wq hSq; obtain ⟨hSa, hSb⟩ := hSq; go_simp; try with_reducible rfl
  try go_frame
  refine tk 15 169 ?_ rfl s ?_ ?_; rotate_left
  · intro wq hSq; obtain ⟨hSa, hSb⟩ := hSq; go_simp; try with_reducible rfl
  try go_frame
  refine rd 16 rfl (fun K hK => ?_); go_simp
  refine (KC1 _).mono ?_
  rintro e w17 ⟨rfl, he⟩
  have s' : (fun W' : World => W'.heap[G1]? = some (.cells (tcells X1) 26 (0, 0)) ∧ W'.heap[HB]? = some (.cells (t2cells ⟨X0, X1⟩) 35 (0, 0))) w17 := ⟨hkeep he s.1, hkeep he s.2⟩
  have t17 := hkeep he td
  have r17 := hkeep he rdd
  have i17 := hkeep he id
  have q17 := hkeep he qd
  have x17 := hkeep he xd
  have C17 := Cd.trans he
  refine hK.out _ _ s' (fun _ => ?_)
  clear hK K s Cd he td rdd id qd xd
  refine tk 17 171 ?_ rfl s' ?_ ?_; rotate_left
  · intro _ _; go_simp; try with_reducible rfl
  try go_frame
  refine tk 18 172 ?_ rfl s' ?_ ?_; rotate_left
  · intro _ _; go_simp; try with_reducible rfl
  try go_frame
  refine wpAnyH_done (by kernel_rfl) ?_ _
  obtain ⟨g17, h17⟩ := s'
  clear g17
  go_wp2_with fail
  rw [rounds_succ]
  go_wp2
  go_ret
  exact ⟨rfl, C17⟩
end
end Go.Proofs.Hc
