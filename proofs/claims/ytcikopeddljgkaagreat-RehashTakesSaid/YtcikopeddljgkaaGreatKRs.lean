/- Package rehash: ways, Need, Take (printed by gen_nt20.py). -/
import Derived.Test.YtcikopeddljgkaaGreatKRj
import Derived.Test.YtcikopeddljgkaaGreatK0
set_option linter.unusedSimpArgs false
set_option linter.unusedVariables false
set_option maxHeartbeats 4000000
set_option maxRecDepth 100000
namespace Go.Proofs.Hc
open Go.RowKit
attribute [local go_sem] zbs zca zax zbc zbn zba zbm zbo zbu signed64 signed8 zar BitVec.ofInt_add BitVec.ofInt_mul ofInt_sub' zay zaz wide8 eqN neN zbz shr1 shr7 shr56
attribute [local go_sem high] zbb zbt
attribute [local go_sem] zag zbw zah zas zad zbe zaq zal zbl zan zbd zbf
attribute [local go_sem] load26 load73 load23 store26 build73
attribute [local go_sem ↓] lrow26 lrow73 lrow23 srow26 zero26 brow73 zac zaw zbg zaa zab
attribute [local go_sem] zai zav zat zbj zbk zbp zao zau zbq zbi zbh
attribute [local go_sem] nn2 nm2 nn3 nm3 nn4 nm4 nn5 nm5 nn6 nm6 nn7 nm7 nn8 nm8
section
attribute [local go_sem] acc_g0 acc_g1 acc_g2 acc_g4 acc_s0 acc_s1 acc_s2 acc_s4 zcv accC_one accC_all loadAcc storeAcc bacc0 bacc2 bacc3 bacc3u bacc4
attribute [local go_sem ↓] lrowAcc srowAcc browAcc zcn
attribute [local go_sem high] zak
attribute [local go_sem] zcq seenC_one seenC_all seenC_g0 loadSeen storeSeen buildSeen buildSeen0
attribute [local go_sem ↓] lrowSeen srowSeen browSeen zcr
attribute [local go_sem high] zam
attribute [local irreducible] seenC
attribute [local go_sem] zar zby
attribute [local go_sem] Oper.semAt_some zap
attribute [local go_sem] layC_idx lcell0 lcell1 lcell2 lcell3 lcell4 lcell5 lcell46
attribute [local go_sem] lay_g0 lay_g1 lay_g2 lay_g3 lay_g4 lay_g5 lay_g46 lay_s0 lay_s4 lay_s5 lay_s46 zck layC_one layC_all layC_ws boxLay loadLay storeLay build_lay box_lay buildLay0 buildLay2 buildLay3
attribute [local go_sem ↓] lrowLay srowLay browLay brow_lay zcs
attribute [local go_sem high] zaj
attribute [local irreducible] layC
attribute [local irreducible] accC
attribute [local go_sem] boxSeen
def waysV (c : Nat) : Array Value := #[.func (.func 189) #[] #[], .func (.func 191) #[] #[], .func (.func 192) #[] #[], .func (.func 194) #[] #[], .func (.func 195) #[] #[], .func (.func 196) #[] #[], .func (.func 198) #[] #[], .func (.func 199) #[] #[], .func (.func 200) #[] #[], .func (.func 188) #[] #[.pointer (some ⟨c, 0, none⟩)]]
def waysZ : Array Value := Array.replicate 10 (.nilFunc)
theorem waysV_size (c : Nat) : (waysV c).size = 10 := rfl
theorem waysZ_size : waysZ.size = 10 := rfl
theorem waysV_one (c : Nat) : allOne (waysV c) = true := by unfold allOne waysV; simp [Value.oneCell']
theorem brow_way (ps : Array (Nat × Value)) : Instr.build 191 ps = buildRow 191 ps := rfl
theorem brow_ways (ps : Array (Nat × Value)) : Instr.build 192 ps = buildRow 192 ps := rfl
theorem build_way (f g : Nat) (a b : Array Value) (w : World) : (buildRow 191 #[(0, .func (.func f) #[] a), (1, .func (.func g) #[] b)]).run Tryz.prog w = .ok (.agg #[.func (.func f) #[] a, .func (.func g) #[] b]) w := by kernel_rfl
theorem build_ways (c : Nat) (w : World) : (buildRow 192 #[(0, .agg #[.func (.func 189) #[] #[], .func (.func 191) #[] #[]]), (1, .agg #[.func (.func 192) #[] #[], .func (.func 194) #[] #[]]), (2, .agg #[.func (.func 195) #[] #[], .func (.func 196) #[] #[]]), (3, .agg #[.func (.func 198) #[] #[], .func (.func 199) #[] #[]]), (4, .agg #[.func (.func 200) #[] #[], .func (.func 188) #[] #[.pointer (some ⟨c, 0, none⟩)]])]).run Tryz.prog w = .ok (.agg (waysV c)) w := by kernel_rfl
theorem zero_ways (w : World) : (zeroValue 192).run Tryz.prog w = .ok (.agg waysZ) w := by kernel_rfl
theorem store_ways (g o : Nat) (vs : Array Value) (w : World) : (storeRow 192 ⟨g, o, none⟩ (.agg vs)).run Tryz.prog w = layRes Tryz.prog 192 g o vs w (((w.heap[g]?).map (canLay o 10 vs)).getD false) :=
  run_lay (by kernel_rfl) g o vs w
theorem srow_ways (a : Addr) (v : Value) : storeVar 192 a v = storeRow 192 a v := rfl
theorem laidAt_ways (c : Nat) (t : TypeId) (fr : Nat × Nat) : laidAt 0 (waysV c) (.cells waysZ t fr) = .cells (waysV c) t fr := by
  rw [zal, laid_whole _ _ (by rw [waysZ_size, waysV_size])]
attribute [local go_sem] build_way build_ways store_ways waysV_one waysV_size waysZ_size
attribute [local go_sem ↓] brow_way brow_ways zero_ways srow_ways
attribute [local go_sem high] laidAt_ways
theorem index_ways0 (c : Nat) (w : World) : (Instr.index 192 (.agg (waysV c)) (.int .i64 0)).run Tryz.prog w = .ok (.agg #[.func (.func 189) #[] #[], .func (.func 191) #[] #[]]) w := by kernel_rfl
theorem index_ways1 (c : Nat) (w : World) : (Instr.index 192 (.agg (waysV c)) (.int .i64 1)).run Tryz.prog w = .ok (.agg #[.func (.func 192) #[] #[], .func (.func 194) #[] #[]]) w := by kernel_rfl
theorem index_ways2 (c : Nat) (w : World) : (Instr.index 192 (.agg (waysV c)) (.int .i64 2)).run Tryz.prog w = .ok (.agg #[.func (.func 195) #[] #[], .func (.func 196) #[] #[]]) w := by kernel_rfl
theorem index_ways3 (c : Nat) (w : World) : (Instr.index 192 (.agg (waysV c)) (.int .i64 3)).run Tryz.prog w = .ok (.agg #[.func (.func 198) #[] #[], .func (.func 199) #[] #[]]) w := by kernel_rfl
theorem index_ways4 (c : Nat) (w : World) : (Instr.index 192 (.agg (waysV c)) (.int .i64 4)).run Tryz.prog w = .ok (.agg #[.func (.func 200) #[] #[], .func (.func 188) #[] #[.pointer (some ⟨c, 0, none⟩)]]) w := by kernel_rfl
theorem field_way0 (a b : Value) (w : World) : (Instr.field 191 (.agg #[a, b]) 0).run Tryz.prog w = .ok a w := by kernel_rfl
theorem field_way1 (a b : Value) (w : World) : (Instr.field 191 (.agg #[a, b]) 1).run Tryz.prog w = .ok b w := by kernel_rfl
attribute [local irreducible] waysV waysZ
theorem to_any (n : Int) (w : World) : Calls Tryz.prog 187 #[I n] w fun e w' => e = .returned (.func (.func 188) #[] #[.pointer (some ⟨w.heap.size, 0, none⟩)]) ∧ w' = w.alloc (.cells #[I n] 3) := by
  go_enter Tryz.func187, Tryz.ntmps187
  go_wp2
  go_ret
  exact ⟨rfl, rfl⟩
theorem ways_any (w : World) : Calls Tryz.prog 120 #[] w fun e w' => ∃ c, e = .returned (.agg (waysV c)) ∧ w.heap.size ≤ c ∧ w'.heap[c]? = some (.cells #[I 5] 3 (0, 0)) ∧ Ch [] w w' := by
  have C0 : Ch [] w (w.alloc (.cells waysZ 192)) := (Ch.refl [] w).alloc _
  have z0 : (w.alloc (.cells waysZ 192)).heap[w.heap.size]? = some (.cells waysZ 192 (0, 0)) := by rw [zac, if_pos rfl]
  have T1 := fun w => to_any 5 w
  go_enter Tryz.func120, Tryz.ntmps120
  go_upto_region 2 with (fail)
  generalize w.alloc (.cells waysZ 192) = W0 at *
  go_wp2_with fail
  refine (T1 _).mono ?_
  rintro e w1 ⟨rfl, rfl⟩
  have hs := C0.size
  have hl := (Array.getElem?_eq_some_iff.1 z0).1
  have hne : ¬ w.heap.size = W0.heap.size := by omega
  clear hl
  go_wp2
  refine bodyPost_ret (zcf Tryz.results120 _ _ _ rfl (run_loadVar_row _ w.heap.size 192 192 (waysV W0.heap.size) (0, 0) _ ?_ Tryz.underlying192 rfl (by rw [waysV_size]; kernel_rfl))) rfl ⟨W0.heap.size, rfl, hs, ?_, ?_⟩
  · rw [zab, if_pos rfl, zac, if_neg hne, z0, Option.map_some, laidAt_ways]
  · rw [zab, if_neg (fun e => hne e.symm), zac, if_pos rfl]
  · exact (C0.alloc _).onObj (.inr (Nat.le_refl _)) _
theorem lnew_lay (p : LayT) (w : World) : ((w.alloc (.cells (layC p) 72)).alloc (.cells (accC 0 0 0 0) 87)).heap[w.heap.size]? = some (.cells (layC p) 72 (0, 0)) := by
  rw [zac, if_neg (by simp), zac, if_pos rfl]
theorem lnew_layz (p : LayT) (w : World) : ((w.alloc (.cells (layC p) 72)).alloc (.cells (accC 0 0 0 0) 87)).heap[w.heap.size + 1]? = some (.cells (accC 0 0 0 0) 87 (0, 0)) := by
  rw [zac, if_pos (by simp)]
theorem lNeed_no (p : LayT) (h : (rightL p && decide (p.ph ≤ 4)) = false) (w : World) : Calls Tryz.prog 58 #[.agg (layC p)] w fun e w' => e = .returned (.tuple #[.agg (accC 0 0 0 0), .bool false]) ∧ Ch [] w w' := by
  have R1 := fun w => lCheck_any p w
  have hcs : checkL p = 300 ∨ checkL p = 0 ∧ 5 ≤ p.ph := by
    cases hr : rightL p
    · exact .inl (checkL_no hr)
    · rw [hr] at h; exact .inr ⟨checkL_yes hr, by have : 4 < p.ph := by simpa using h
                                                  omega⟩
  generalize checkL p = r at *
  clear h
  rcases hcs with rfl | ⟨rfl, hph⟩
  all_goals
    go_enter Tryz.func58, Tryz.ntmps58
    go_wp2_with fail
    have hC0 : Ch [] w ((w.alloc (.cells (layC p) 72)).alloc (.cells (accC 0 0 0 0) 87)) := ((Ch.refl [] w).alloc _).alloc _
    have b0 := lnew_lay p w
    have z0 := lnew_layz p w
    generalize (w.alloc (.cells (layC p) 72)).alloc (.cells (accC 0 0 0 0) 87) = W0 at *
    refine (R1 _).mono ?_
    rintro e w1 ⟨rfl, hc1⟩
    have b1 := hkeep hc1 b0
    have z1 := hkeep hc1 z0
    have hC1 := hC0.trans hc1
    clear b0 z0 hc1 R1 hC0
    go_wp2
    refine bodyPost_ret (need_results Tryz.results58 _ _ _ 0 0 0 0 _ rfl rfl ?_) rfl ⟨rfl, ?_⟩
    · simp [go_sem, z1]
    · exact hC1.onObj (p := w.heap.size + 1) (.inr (by omega)) _
theorem lNeed_core (p : LayT) (n k : Nat) (kd at_ nw : Int) (hr : rightL p = true) (hpn : p.ph = (n : Int)) (hn : (n : Int) < 5) (gv : Nat → Value) (hix : ∀ c w, (Instr.index 192 (.agg (waysV c)) (.int .i64 (n : Int))).run Tryz.prog w = .ok (.agg #[.func (.func k) #[] #[], gv c]) w)
    (hdf : ∀ args w, (callFunc k args).run Tryz.prog w = .ok (.enter k args) w)
    (X1 : ∀ (g : Nat) (w : World), w.heap[g]? = some (.cells (layC p) 163 (0, 0)) → Calls Tryz.prog k #[.pointer (some ⟨g, 0, none⟩)] w fun e w' => e = .returned (.agg (accC p.who kd at_ nw)) ∧ Ch [] w w') (w : World) :
    Calls Tryz.prog 58 #[.agg (layC p)] w fun e w' => e = .returned (.tuple #[.agg (accC p.who kd at_ nw), .bool true]) ∧ Ch [] w w' := by
  have R1 := fun w => lCheck_any p w
  rw [checkL_yes hr] at R1
  have A1 := fun w => ways_any w
  have FF := fun a b w => field_way0 a b w
  obtain ⟨wh, hwh⟩ : ∃ x, p.who = x := ⟨_, rfl⟩
  rw [hwh] at X1 ⊢
  clear hr hwh
  go_enter Tryz.func58, Tryz.ntmps58
  go_wp2_with fail
  have hC0 : Ch [] w ((w.alloc (.cells (layC p) 72)).alloc (.cells (accC 0 0 0 0) 87)) := ((Ch.refl [] w).alloc _).alloc _
  have b0 := lnew_lay p w
  have z0 := lnew_layz p w
  generalize (w.alloc (.cells (layC p) 72)).alloc (.cells (accC 0 0 0 0) 87) = W0 at *
  refine (R1 _).mono ?_
  rintro e w0 ⟨rfl, hc0⟩
  have b1 := hkeep hc0 b0
  have z1 := hkeep hc0 z0
  have hC1 := hC0.trans hc0
  clear b0 z0 hc0 R1 hC0
  go_upto_region 3 with (fail)
  obtain ⟨B, hB⟩ : ∃ B, w.heap.size = B := ⟨_, rfl⟩
  rw [hB] at b1 z1 ⊢
  have hBw : w.heap.size ≤ B := by omega
  clear hB
  have s1 : (fun W' : World => W'.heap[B]? = some (.cells (layC p) 72 (0, 0))) w0.drew := b1
  have zz1 : w0.drew.heap[B + 1]? = some (.cells (accC 0 0 0 0) 87 (0, 0)) := z1
  have C1 : Ch [] w w0.drew := hC1.drew
  refine wp_region_held_drew (S := fun W' => W'.heap[B]? = some (.cells (layC p) 72 (0, 0))) (by kernel_rfl) s1 ?_
  intro _
  simp only [List.size_toArray, List.length_cons, List.length_nil, Nat.reduceAdd]
  clear b1 z1 hC1
  generalize w0.drew = w1 at *
  refine tk 1 14 ?_ rfl s1 ?_ ?_; rotate_left
  · intro _ _; go_simp; try with_reducible rfl
  try go_frame
  refine tk 2 15 ?_ rfl s1 ?_ ?_; rotate_left
  · intro _ _; go_simp; try with_reducible rfl
  try go_frame
  refine tk 5 18 ?_ rfl s1 ?_ ?_; rotate_left
  · intro _ _; go_simp; try with_reducible rfl
  try go_frame
  refine tk 6 19 ?_ rfl s1 ?_ ?_; rotate_left
  · intro _ _; go_simp; try with_reducible rfl
  try go_frame
  refine wpAnyH_ready (rs := [0, 7]) (by kernel_rfl) (by simp) ?_
  refine AllReadyH.cons rfl (fun K hK => ?_) (AllReadyH.cons (o := ⟨some 20, _, _, _, _, none⟩) rfl (fun K hK => ?_) AllReadyH.nil)
  · go_simp
    refine (A1 _).mono ?_
    rintro e w2 ⟨c, rfl, -, -, hc2⟩
    have s2 := hkeep hc2 s1
    have zz2 := hkeep hc2 zz1
    have C2 := C1.trans hc2
    refine hK.out _ _ s2 (fun _ => ?_)
    clear hK K hc2 s1 zz1 C1
    refine tk 3 16 ?_ rfl s2 ?_ ?_; rotate_left
    · intro _ _; go_simp; try with_reducible rfl
    try go_frame
    refine tk 4 17 ?_ rfl s2 ?_ ?_; rotate_left
    · intro _ _; go_simp; try with_reducible rfl
    try go_frame
    refine rd (o := ⟨some 20, _, _, _, _, none⟩) 7 rfl (fun K hK => ?_); go_simp
    have hc3 : Ch [] w2 (w2.alloc (.cells (layC p) 163)) := (Ch.refl [] w2).alloc _
    have g3 : (w2.alloc (.cells (layC p) 163)).heap[w2.heap.size]? = some (.cells (layC p) 163 (0, 0)) := by rw [zac, if_pos rfl]
    have s3 := hkeep hc3 s2
    have zz3 := hkeep hc3 zz2
    have C3 := C2.trans hc3
    refine hK.out _ _ s3 (fun _ => ?_)
    clear hK K hc3 s2 zz2 C2
    generalize (w2.alloc (.cells (layC p) 163)) = w3 at *
    generalize w2.heap.size = G at *
    refine rd (o := ⟨some 21, _, _, _, _, none⟩) 8 rfl (fun K hK => ?_); go_simp
    refine (X1 _ _ g3).mono ?_
    rintro e w4 ⟨rfl, hc4⟩
    have s4 := hkeep hc4 s3
    have zz4 := hkeep hc4 zz3
    have C4 := C3.trans hc4
    refine hK.out _ _ s4 (fun _ => ?_)
    clear hK K hc4 s3 zz3 C3 g3
    refine rd 9 rfl (fun K hK => ?_); go_simp
    have s5 : (World.onObj w4 (B + 1) (laidAt 0 (accC wh kd at_ nw))).heap[B]? = some (.cells (layC p) 72 (0, 0)) := by rw [zab, if_neg (by omega)]; exact s4
    have zz5 : (World.onObj w4 (B + 1) (laidAt 0 (accC wh kd at_ nw))).heap[B + 1]? = some (.cells (accC wh kd at_ nw) 87 (0, 0)) := by rw [zab, if_pos rfl, zz4, Option.map_some, zak]
    have C5 : Ch [] w (World.onObj w4 (B + 1) (laidAt 0 (accC wh kd at_ nw))) := C4.onObj (.inr (by omega)) _
    refine hK.out _ _ s5 (fun _ => ?_)
    clear hK K s4 zz4 C4
    generalize (World.onObj w4 (B + 1) (laidAt 0 (accC wh kd at_ nw))) = w5 at *
    refine tk 10 3 ?_ rfl s5 ?_ ?_; rotate_left
    · intro _ _; go_simp; try with_reducible rfl
    try go_frame
    refine wpAnyH_done (by kernel_rfl) ?_ _
    go_wp2
    exact bodyPost_ret (need_results Tryz.results58 _ (B + 1) _ wh kd at_ nw _ rfl rfl zz5) rfl ⟨rfl, C5⟩
  · go_simp
    have hc2 : Ch [] w1 (w1.alloc (.cells (layC p) 163)) := (Ch.refl [] w1).alloc _
    have g2 : (w1.alloc (.cells (layC p) 163)).heap[w1.heap.size]? = some (.cells (layC p) 163 (0, 0)) := by rw [zac, if_pos rfl]
    have s2 := hkeep hc2 s1
    have zz2 := hkeep hc2 zz1
    have C2 := C1.trans hc2
    refine hK.out _ _ s2 (fun _ => ?_)
    clear hK K hc2 s1 zz1 C1
    generalize (w1.alloc (.cells (layC p) 163)) = w2 at *
    generalize w1.heap.size = G at *
    refine rd (o := ⟨some 13, _, _, _, _, none⟩) 0 rfl (fun K hK => ?_); go_simp
    refine (A1 _).mono ?_
    rintro e w3 ⟨c, rfl, -, -, hc3⟩
    have s3 := hkeep hc3 s2
    have zz3 := hkeep hc3 zz2
    have C3 := C2.trans hc3
    have g3 := hkeep hc3 g2
    refine hK.out _ _ s3 (fun _ => ?_)
    clear hK K hc3 s2 zz2 C2 g2
    refine tk 3 16 ?_ rfl s3 ?_ ?_; rotate_left
    · intro _ _; go_simp; try with_reducible rfl
    try go_frame
    refine tk 4 17 ?_ rfl s3 ?_ ?_; rotate_left
    · intro _ _; go_simp; try with_reducible rfl
    try go_frame
    refine rd (o := ⟨some 21, _, _, _, _, none⟩) 8 rfl (fun K hK => ?_); go_simp
    refine (X1 _ _ g3).mono ?_
    rintro e w4 ⟨rfl, hc4⟩
    have s4 := hkeep hc4 s3
    have zz4 := hkeep hc4 zz3
    have C4 := C3.trans hc4
    refine hK.out _ _ s4 (fun _ => ?_)
    clear hK K hc4 s3 zz3 C3 g3
    refine rd 9 rfl (fun K hK => ?_); go_simp
    have s5 : (World.onObj w4 (B + 1) (laidAt 0 (accC wh kd at_ nw))).heap[B]? = some (.cells (layC p) 72 (0, 0)) := by rw [zab, if_neg (by omega)]; exact s4
    have zz5 : (World.onObj w4 (B + 1) (laidAt 0 (accC wh kd at_ nw))).heap[B + 1]? = some (.cells (accC wh kd at_ nw) 87 (0, 0)) := by rw [zab, if_pos rfl, zz4, Option.map_some, zak]
    have C5 : Ch [] w (World.onObj w4 (B + 1) (laidAt 0 (accC wh kd at_ nw))) := C4.onObj (.inr (by omega)) _
    refine hK.out _ _ s5 (fun _ => ?_)
    clear hK K s4 zz4 C4
    generalize (World.onObj w4 (B + 1) (laidAt 0 (accC wh kd at_ nw))) = w5 at *
    refine tk 10 3 ?_ rfl s5 ?_ ?_; rotate_left
    · intro _ _; go_simp; try with_reducible rfl
    try go_frame
    refine wpAnyH_done (by kernel_rfl) ?_ _
    go_wp2
    exact bodyPost_ret (need_results Tryz.results58 _ (B + 1) _ wh kd at_ nw _ rfl rfl zz5) rfl ⟨rfl, C5⟩
def needLV (who : Int) : Option AccT → Value
  | none => .tuple #[.agg (accC 0 0 0 0), .bool false]
  | some x => .tuple #[.agg (accC who x.kind x.at_ (N x.new)), .bool true]
theorem lNeed_any (p : LayT) (w : World) : Calls Tryz.prog 58 #[.agg (layC p)] w fun e w' => e = .returned (needLV p.who (needL p)) ∧ Ch [] w w' := by
  cases hb : (rightL p && decide (p.ph ≤ 4)) with
  | false =>
    have e : needL p = none := by unfold needL; rw [hb, if_neg (by decide)]
    rw [e]; exact lNeed_no p hb w
  | true =>
    have hr : rightL p = true := by simp at hb; exact hb.1
    have h4 : p.ph ≤ 4 := by simp at hb; exact hb.2
    have R := (zdc p).1 hr
    have h0 := R.ph0
    have hat := R.at_
    rcases (show p.ph = 0 ∨ p.ph = 1 ∨ p.ph = 2 ∨ p.ph = 3 ∨ p.ph = 4 by omega) with h | h | h | h | h
    · have e : needL p = some ⟨1, 16 + 40 * p.sl, 0#64⟩ := by unfold needL; rw [hb, if_pos rfl, h]; simp
      rw [e]; exact lNeed_core p 0 _ 1 (16 + 40 * p.sl) 0 hr h (by omega) _ (fun c w => index_ways0 c w) Tryz.call189 (fun g w hg => lNeed0_any p g R.sl0 R.sl1 w hg) w
    · have e : needL p = some ⟨2, 16 + 40 * p.sl, p.count + 1#64⟩ := by unfold needL; rw [hb, if_pos rfl, h]; simp
      rw [e]; exact lNeed_core p 1 _ 2 (16 + 40 * p.sl) _ hr h (by omega) _ (fun c w => index_ways1 c w) Tryz.call192 (fun g w hg => lNeed1_any p g R.sl0 R.sl1 w hg) w
    · have e : needL p = some ⟨1, 16 + 40 * p.sl + p.at_, 0#64⟩ := by unfold needL; rw [hb, if_pos rfl, h]; simp
      rw [e]; exact lNeed_core p 2 _ 1 (16 + 40 * p.sl + p.at_) 0 hr h (by omega) _ (fun c w => index_ways2 c w) Tryz.call195 (fun g w hg => lNeed2_any p g R.sl0 R.sl1 (by omega) (by omega) w hg) w
    · have e : needL p = some ⟨2, 16 + 40 * p.sl + p.at_, p.ws p.at_.toNat⟩ := by unfold needL; rw [hb, if_pos rfl, h]; simp
      rw [e]; exact lNeed_core p 3 _ 2 (16 + 40 * p.sl + p.at_) _ hr h (by omega) _ (fun c w => index_ways3 c w) Tryz.call198 (fun g w hg => lNeed3_any p g p.at_.toNat R.sl0 R.sl1 (by omega) (by omega) w hg) w
    · have e : needL p = some ⟨2, 16 + 40 * p.sl, p.count + 2#64⟩ := by unfold needL; rw [hb, if_pos rfl, h]; simp
      rw [e]; exact lNeed_core p 4 _ 2 (16 + 40 * p.sl) _ hr h (by omega) _ (fun c w => index_ways4 c w) Tryz.call200 (fun g w hg => lNeed4_any p g R.sl0 R.sl1 w hg) w
end
end Go.Proofs.Hc
