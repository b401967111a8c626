/- Package cells: plain, check, load. -/
import Derived.Test.YtcikopeddljgkaaGreatKRz0
import Derived.Test.YtcikopeddljgkaaGreatK0
set_option linter.unusedSimpArgs false
set_option linter.unusedVariables false
set_option maxHeartbeats 2000000
set_option maxRecDepth 100000
namespace Go.Proofs.Hc
open Go.RowKit
variable {me : Int}
attribute [local go_sem] zbs zca zax zbc zbn zba zbm zbo zbu signed64 signed8 zar BitVec.ofInt_add BitVec.ofInt_mul ofInt_sub' zay zaz wide8 eqN neN zbz shr1 shr7 shr56
attribute [local go_sem high] zbb zbt
attribute [local go_sem] zag zbw zah zas zad zbe zaq zal zbl zan zbd zbf
attribute [local go_sem] load26 load73 load23 store26 build73
attribute [local go_sem ↓] lrow26 lrow73 lrow23 srow26 zero26 brow73 zac zaw zbg zaa zab
attribute [local go_sem] zai zav zat zbj zbk zbp zao zau zbq zbi zbh
attribute [local go_sem] nn2 nm2 nn3 nm3 nn4 nm4 nn5 nm5 nn6 nm6 nn7 nm7 nn8 nm8
attribute [local go_sem] acc_g0 acc_g1 acc_g2 acc_g4 acc_s0 acc_s1 acc_s2 acc_s4 zcv accC_one accC_all loadAcc storeAcc bacc0 bacc2 bacc3 bacc3u bacc4
attribute [local go_sem ↓] lrowAcc srowAcc browAcc zcn
attribute [local go_sem high] zak
attribute [local go_sem] Oper.semAt_some zap
attribute [local irreducible] accC
theorem loadAcs (g o : Nat) (w : World) : (loadRow 264 ⟨g, o, none⟩).run Tryz.prog w = rowRes Tryz.prog 264 g o w ((w.heap[g]?).bind (rowAt o 5)) :=
  run_row Tryz.underlying264 rfl (by kernel_rfl) g o w
theorem storeAcs (g o : Nat) (vs : Array Value) (w : World) : (storeRow 264 ⟨g, o, none⟩ (.agg vs)).run Tryz.prog w = layRes Tryz.prog 264 g o vs w (((w.heap[g]?).map (canLay o 5 vs)).getD false) :=
  run_lay (by kernel_rfl) g o vs w
theorem lrowAcs (a : Addr) : loadVar 264 a = loadRow 264 a := rfl
theorem srowAcs (a : Addr) (v : Value) : storeVar 264 a v = storeRow 264 a v := rfl
theorem browAcs (ps : Array (Nat × Value)) : Instr.build 264 ps = buildRow 264 ps := rfl
theorem buildAcs (a b c d : Int) (w : World) : (buildRow 264 #[(0, .agg (accC a b c d))]).run Tryz.prog w = .ok (.agg (accC a b c d)) w := by kernel_rfl
theorem zeroAcs_run (w : World) : (zeroValue 264).run Tryz.prog w = .ok (.agg (accC 0 0 0 0)) w := by kernel_rfl
theorem boxAcs (a b c d : Int) (w : World) : (Instr.box 264 (.agg (accC a b c d))).run Tryz.prog w = .ok (.pointer (some ⟨w.heap.size, 0, none⟩)) (w.alloc (.cells (accC a b c d) 264)) := rfl
theorem boxAcc (a b c d : Int) (w : World) : (Instr.box 87 (.agg (accC a b c d))).run Tryz.prog w = .ok (.pointer (some ⟨w.heap.size, 0, none⟩)) (w.alloc (.cells (accC a b c d) 87)) := rfl
attribute [local go_sem] loadAcs storeAcs buildAcs boxAcs boxAcc
attribute [local go_sem ↓] lrowAcs srowAcs browAcs zeroAcs_run
theorem cCheck_ok (hm0 : 0 ≤ me) (hm7 : me < 8) (k a n d : Int) (hk : 1 ≤ k) (hk4 : k ≤ 4) (ha : 0 ≤ a) (hn : a < n) (hn1 : 1 ≤ n) (hn2 : n ≤ 8192) (w : World) : Calls Tryz.prog 183 #[.agg (accC me k a d), I n] w fun e w' => e = .returned (I 0) ∧ Ch [] w w' := by
  go_enter Tryz.func183, Tryz.ntmps183
  go_wp2
  go_ret
  exact ⟨rfl, (Ch.refl [] w).alloc _⟩
theorem cCheck_at (hm0 : 0 ≤ me) (hm7 : me < 8) (k a n d : Int) (hk : 1 ≤ k) (hk4 : k ≤ 4) (ha : 0 ≤ a) (hn : n ≤ a) (hn1 : 1 ≤ n) (hn2 : n ≤ 8192) (w : World) : Calls Tryz.prog 183 #[.agg (accC me k a d), I n] w fun e w' => e = .returned (I 2) ∧ Ch [] w w' := by
  go_enter Tryz.func183, Tryz.ntmps183
  go_wp2
  go_ret
  exact ⟨rfl, (Ch.refl [] w).alloc _⟩
theorem pLoad_any (r o : Nat) (x : BitVec 64) (w : World) (h : w.cell? ⟨r, o, none⟩ = some (U x)) : Calls Tryz.prog 337 #[.agg #[.slice (some ⟨r, o, none⟩) 1 1]] w fun e w' => e = .returned (U x) ∧ Ch [] w w' := by
  rw [zag] at h
  have hrn : ¬ r = w.heap.size := by
    intro e; rw [e, Array.getElem?_eq_none (Nat.le_refl _)] at h; cases h
  go_enter Tryz.func337, Tryz.ntmps337
  go_wp2
  go_ret
  exact ⟨rfl, (Ch.refl [] w).alloc _⟩
theorem pSwap_any (r o : Nat) (cur : Array Value) (x y : BitVec 64) (w : World) (hb : w.heap[r]? = some (.cells cur 22 (0, 0))) (h : cur[o]? = some (U x)) : Calls Tryz.prog 338 #[.agg #[.slice (some ⟨r, o, none⟩) 1 1], U x, U y] w fun e w' => e = .returned (.bool true) ∧ Ch [r] w w' ∧ w'.heap[r]? = some (.cells (cur.setIfInBounds o (U y)) 22 (0, 0)) := by
  have hrn : ¬ r = w.heap.size := by have := (Array.getElem?_eq_some_iff.1 hb).1; omega
  go_enter Tryz.func338, Tryz.ntmps338
  go_wp2
  go_ret
  refine ⟨rfl, ((Ch.refl [r] w).alloc _).setCell (p := ⟨r, o, none⟩) (.inl (by simp)) _, ?_⟩
  simp [go_sem, hb, hrn]
theorem meth_load (v : Value) (w : World) : (method 473 268 v "honeycomb/cells.load").run Tryz.prog w = .ok (337, v) w := by kernel_rfl
theorem meth_swap (v : Value) (w : World) : (method 473 268 v "honeycomb/cells.swap").run Tryz.prog w = .ok (338, v) w := by kernel_rfl
theorem loadSeen (g o : Nat) (w : World) : (loadRow 93 ⟨g, o, none⟩).run Tryz.prog w = rowRes Tryz.prog 93 g o w ((w.heap[g]?).bind (rowAt o 2)) :=
  run_row Tryz.underlying93 rfl (by kernel_rfl) g o w
theorem storeSeen (g o : Nat) (vs : Array Value) (w : World) : (storeRow 93 ⟨g, o, none⟩ (.agg vs)).run Tryz.prog w = layRes Tryz.prog 93 g o vs w (((w.heap[g]?).map (canLay o 2 vs)).getD false) :=
  run_lay (by kernel_rfl) g o vs w
theorem lrowSeen (a : Addr) : loadVar 93 a = loadRow 93 a := rfl
theorem srowSeen (a : Addr) (v : Value) : storeVar 93 a v = storeRow 93 a v := rfl
def seenC (x : Int) (b : Bool) : Array Value := #[.int .u64 x, .bool b]
theorem zcq (x : Int) (b : Bool) : (seenC x b).size = 2 := rfl
theorem seenC_one (x : Int) (b : Bool) : allOne (seenC x b) = true := by unfold allOne seenC; simp [Value.oneCell']
theorem seenC_all (x : Int) (b : Bool) : (seenC x b).extract 0 2 = seenC x b := by have := Array.extract_size (xs := seenC x b); rwa [zcq] at this
theorem seenC_g0 (x : Int) (b : Bool) : (seenC x b)[0]? = some (.int .u64 x) := rfl
theorem browSeen (ps : Array (Nat × Value)) : Instr.build 93 ps = buildRow 93 ps := rfl
theorem buildSeen (x : Int) (b : Bool) (w : World) : (buildRow 93 #[(0, .int .u64 x), (1, .bool b)]).run Tryz.prog w = .ok (.agg (seenC x b)) w := by kernel_rfl
theorem buildSeen0 (w : World) : (buildRow 93 #[]).run Tryz.prog w = .ok (.agg (seenC 0 false)) w := by kernel_rfl
theorem zcr (w : World) : (zeroValue 93).run Tryz.prog w = .ok (.agg (seenC 0 false)) w := by kernel_rfl
theorem zam (x y : Int) (b c : Bool) (T : TypeId) (fr : Nat × Nat) : laidAt 0 (seenC x b) (.cells (seenC y c) T fr) = .cells (seenC x b) T fr := by
  rw [zal, laid_whole _ _ (by rw [zcq, zcq])]
theorem seen_result {fn : Func} {p : Tmp} (h : fn.results = #[.cell p 93]) (tmps : Array Value) (b : Nat) (w : World) (x : Int) (d : Bool) (hp : tmps.getD p undef = .pointer (some ⟨b, 0, none⟩))
    (hb : w.heap[b]? = some (.cells (seenC x d) 93 (0, 0))) : (results fn tmps).run Tryz.prog w = .ok (.agg (seenC x d)) w := by
  have hl := run_loadVar_row (P := Tryz.prog) w b 93 93 (seenC x d) (0, 0) _ hb Tryz.underlying93 rfl (by rw [zcq]; kernel_rfl)
  have hp' : tmps[p]?.getD undef = .pointer (some ⟨b, 0, none⟩) := by simpa using hp
  simp [results, h, hp', asAddr, hl]
attribute [local go_sem] meth_load meth_swap
attribute [local go_sem] zcq seenC_one seenC_all seenC_g0 loadSeen storeSeen buildSeen buildSeen0
attribute [local go_sem ↓] lrowSeen srowSeen browSeen zcr
attribute [local go_sem high] zam
attribute [local irreducible] seenC
theorem aLoad_any (k a d : Int) (r o : Nat) (x : BitVec 64) (w : World) (h : w.cell? ⟨r, o, none⟩ = some (U x)) : Calls Tryz.prog 235 #[.agg (accC me k a d), .iface 268 (.agg #[.slice (some ⟨r, o, none⟩) 1 1])] w fun e w' => e = .returned (.agg (seenC (N x) true)) ∧ Ch [] w w' := by
  have C0 : Ch [] w ((w.alloc (.cells (accC me k a d) 264)).alloc (.cells (seenC 0 false) 93)) := ((Ch.refl [] w).alloc _).alloc _
  have z0 : ((w.alloc (.cells (accC me k a d) 264)).alloc (.cells (seenC 0 false) 93)).heap[w.heap.size + 1]? = some (.cells (seenC 0 false) 93 (0, 0)) := by rw [zac, if_pos (by simp)]
  have hr : r < w.heap.size := by
    rw [zag] at h
    rcases Nat.lt_or_ge r w.heap.size with h1 | h1
    · exact h1
    · rw [Array.getElem?_eq_none h1] at h; cases h
  have h0 := (C0.cell r o hr).trans h
  have P1 := fun w h => pLoad_any r o x w h
  clear hr h
  go_enter Tryz.func235, Tryz.ntmps235
  go_wp2_with fail
  generalize (w.alloc (.cells (accC me k a d) 264)).alloc (.cells (seenC 0 false) 93) = W0 at *
  refine (P1 _ h0).mono ?_
  rintro e w1 ⟨rfl, hc1⟩
  have z1 := hkeep hc1 z0
  go_wp2
  refine bodyPost_ret (seen_result Tryz.results235 _ (w.heap.size + 1) _ (N x) true rfl ?_) rfl ⟨rfl, ?_⟩
  · simp [go_sem, z1]
  · exact (C0.trans hc1).onObj (p := w.heap.size + 1) (.inr (by omega)) _
end Go.Proofs.Hc
namespace Go.Proofs.Hc
open Go.RowKit
variable {me : Int}
attribute [local go_sem] zbs zca zax zbc zbn zba zbm zbo zbu signed64 signed8 zar BitVec.ofInt_add BitVec.ofInt_mul ofInt_sub' zay zaz wide8 eqN neN zbz shr1 shr7 shr56
attribute [local go_sem high] zbb zbt
attribute [local go_sem] zag zbw zah zas zad zbe zaq zal zbl zan zbd zbf
attribute [local go_sem] load26 load73 load23 store26 build73
attribute [local go_sem ↓] lrow26 lrow73 lrow23 srow26 zero26 brow73 zac zaw zbg zaa zab
attribute [local go_sem] zai zav zat zbj zbk zbp zao zau zbq zbi zbh
attribute [local go_sem] nn2 nm2 nn3 nm3 nn4 nm4 nn5 nm5 nn6 nm6 nn7 nm7 nn8 nm8
attribute [local go_sem] acc_g0 acc_g1 acc_g2 acc_g4 acc_s0 acc_s1 acc_s2 acc_s4 zcv accC_one accC_all loadAcc storeAcc bacc0 bacc2 bacc3 bacc3u bacc4
attribute [local go_sem ↓] lrowAcc srowAcc browAcc zcn
attribute [local go_sem high] zak
attribute [local go_sem] loadAcs storeAcs buildAcs boxAcs boxAcc meth_load meth_swap
attribute [local go_sem ↓] lrowAcs srowAcs browAcs zeroAcs_run
attribute [local go_sem] zcq seenC_one seenC_all seenC_g0 loadSeen storeSeen buildSeen buildSeen0
attribute [local go_sem ↓] lrowSeen srowSeen browSeen zcr
attribute [local go_sem high] zam
attribute [local irreducible] seenC
attribute [local go_sem] Oper.semAt_some zap zar
attribute [local irreducible] accC
theorem nil_swap (v : Value) (w : World) : (nilAhead 473 268 (.agg #[v]) "honeycomb/cells.swap").run Tryz.prog w = .ok (some false) w := by kernel_rfl
attribute [local go_sem] nil_swap
theorem toStore_any (k a : Int) (x y : BitVec 64) (b : Nat) (w : World) (hb : w.heap[b]? = some (.cells (accC me k a (N y)) 264 (0, 0))) : Calls Tryz.prog 283 #[U x, .pointer (some ⟨b, 0, none⟩)] w fun e w' => e = .returned (U y) ∧ w = w' := by
  go_enter Tryz.func283, Tryz.ntmps283
  go_wp2
  go_ret
  exact ⟨rfl, rfl⟩
theorem toAdd_any (k a : Int) (x y : BitVec 64) (b : Nat) (w : World) (hb : w.heap[b]? = some (.cells (accC me k a (N y)) 264 (0, 0))) : Calls Tryz.prog 284 #[U x, .pointer (some ⟨b, 0, none⟩)] w fun e w' => e = .returned (U (x + y)) ∧ w = w' := by
  go_enter Tryz.func284, Tryz.ntmps284
  go_wp2
  go_ret
  exact ⟨rfl, rfl⟩
theorem change_any (k : Nat) (kd a d : Int) (x z : BitVec 64) (B0 r o : Nat) (cur bc : Array Value) (w : World) (hr : w.heap[r]? = some (.cells cur 22 (0, 0))) (ho : cur[o]? = some (U x)) (hb : w.heap[B0]? = some (.cells bc 264 (0, 0)))
    (hdf : ∀ args w, (callFunc k args).run Tryz.prog w = .ok (.enter k args) w)
    (hto : ∀ W : World, W.heap[B0]? = some (.cells bc 264 (0, 0)) → Calls Tryz.prog k #[U x, .pointer (some ⟨B0, 0, none⟩)] W fun e w' => e = .returned (U z) ∧ W = w') :
    Calls Tryz.prog 282 #[.agg (accC me kd a d), .iface 268 (.agg #[.slice (some ⟨r, o, none⟩) 1 1]), .func (.func k) #[] #[.pointer (some ⟨B0, 0, none⟩)]] w fun e w' => e = .returned (.agg (seenC (N x) true)) ∧ Ch [r] w w' ∧ w'.heap[r]? = some (.cells (cur.setIfInBounds o (U z)) 22 (0, 0)) := by
  have C0 : Ch [] w ((w.alloc (.cells (accC me kd a d) 264)).alloc (.cells (seenC 0 false) 93)) := ((Ch.refl [] w).alloc _).alloc _
  have z0 : ((w.alloc (.cells (accC me kd a d) 264)).alloc (.cells (seenC 0 false) 93)).heap[w.heap.size + 1]? = some (.cells (seenC 0 false) 93 (0, 0)) := by rw [zac, if_pos (by simp)]
  have r0 := hkeep C0 hr
  have b0 := hkeep C0 hb
  have hrl : r < w.heap.size := (Array.getElem?_eq_some_iff.1 hr).1
  have P1 := fun w (h : w.heap[r]? = some (.cells cur 22 (0, 0))) => pLoad_any r o x w (by rw [zag, h]; exact ho)
  have S1 := fun w (h : w.heap[r]? = some (.cells cur 22 (0, 0))) => pSwap_any r o cur x z w h ho
  clear hr hb ho
  go_enter Tryz.func282, Tryz.ntmps282
  go_wp2
  go_step3
  go_wp2
  generalize (w.alloc (.cells (accC me kd a d) 264)).alloc (.cells (seenC 0 false) 93) = W0 at *
  go_step3
  go_wp2
  refine wp_loop_rounds 1 ?_
  rw [rounds_succ]
  go_wp2_with fail
  refine (P1 _ r0).mono ?_
  rintro e w1 ⟨rfl, hc1⟩
  have z1 := hkeep hc1 z0
  have r1 := hkeep hc1 r0
  have b1 := hkeep hc1 b0
  have C1 := C0.trans hc1
  clear z0 r0 b0 C0 hc1 P1
  go_wp2
  refine wp_region_held_drew (S := fun _ => True) (by kernel_rfl) trivial ?_
  intro _
  simp only [List.size_toArray, List.length_cons, List.length_nil, Nat.reduceAdd]
  have z2 : w1.drew.heap[w.heap.size + 1]? = _ := z1
  have r2 : w1.drew.heap[r]? = _ := r1
  have b2 : w1.drew.heap[B0]? = _ := b1
  have C2 : Ch [] w w1.drew := C1.drew
  clear z1 r1 b1 C1
  generalize w1.drew = w2 at *
  refine tk 0 10 ?_ rfl trivial ?_ ?_; rotate_left
  · intro _ _; go_simp; try with_reducible rfl
  try go_frame
  refine tk 1 11 ?_ rfl trivial ?_ ?_; rotate_left
  · intro _ _; go_simp; try with_reducible rfl
  try go_frame
  refine tk 2 12 ?_ rfl trivial ?_ ?_; rotate_left
  · intro _ _; go_simp; try with_reducible rfl
  try go_frame
  refine tk 3 13 ?_ rfl trivial ?_ ?_; rotate_left
  · intro _ _; go_simp; try with_reducible rfl
  try go_frame
  refine tk 5 15 ?_ rfl trivial ?_ ?_; rotate_left
  · intro _ _; go_simp; try with_reducible rfl
  try go_frame
  refine tk 6 16 ?_ rfl trivial ?_ ?_; rotate_left
  · intro _ _; go_simp; try with_reducible rfl
  try go_frame
  refine tk 7 17 ?_ rfl trivial ?_ ?_; rotate_left
  · intro _ _; go_simp; try with_reducible rfl
  try go_frame
  refine rd 4 rfl (fun K hK => ?_); go_simp
  refine (hto _ b2).mono ?_
  rintro e w' ⟨rfl, rfl⟩
  refine hK.out _ _ trivial (fun _ => ?_)
  clear hK K
  refine rd 8 rfl (fun K hK => ?_); go_simp
  refine (S1 _ r2).mono ?_
  rintro e w3 ⟨rfl, hc3, r3⟩
  refine hK.out _ _ trivial (fun _ => ?_)
  clear hK K
  have z3 : w3.heap[w.heap.size + 1]? = some (.cells (seenC 0 false) 93 (0, 0)) := (hc3.block _ (Array.getElem?_eq_some_iff.1 z2).1 (by simp; omega)).trans z2
  have C3 : Ch [r] w w3 := (C2.of_nil).trans hc3
  refine wpAnyH_done (by kernel_rfl) ?_ _
  go_wp2
  rw [Exit.noGoto_ret]
  refine bodyPost_ret (seen_result Tryz.results282 _ (w.heap.size + 1) _ (N x) true rfl ?_) rfl ⟨rfl, ?_, ?_⟩
  · simp [go_sem, z3]
  · exact C3.onObj (p := w.heap.size + 1) (.inr (by omega)) _
  · rw [zab, if_neg (by omega)]; exact r3
end Go.Proofs.Hc
namespace Go.Proofs.Hc
open Go.ChangeShapes Go.WideShapes Go.ChangeAt Go.RowKit
section
variable {H : Type} {enc : TypeId × Value → H} {w : World} {base : Nat} {spare : Nat → Bool} {held : Bool}
theorem cells_lay : Tryz.prog.cellsOf 72 = 47 := by kernel_rfl
theorem lay_cellsOf {fuel : Nat} {cs : List Value} {x : DataW H × List MemPlace} (h : DataW.trod enc Tryz.prog w base spare held fuel 72 cs = some x) : ∃ p : LayT, cs = (layC p).toList := by
  obtain ⟨xs, n, _, _, hlen, hxl, hx⟩ := DataW.trod_struct lay_under h
  have rd := fields_at (n := n) (cs := cs) lay_fields hxl hx
  have hlen := hlen.trans cells_lay
  obtain ⟨y0, e0⟩ := rd 0 _ _ rfl
  obtain ⟨m0, h0, _⟩ := rd_int Tryz.underlying3 cells_int e0
  obtain ⟨y1, e1⟩ := rd 1 _ _ rfl
  obtain ⟨m1, h1, _⟩ := rd_int Tryz.underlying3 cells_int e1
  obtain ⟨y2, e2⟩ := rd 2 _ _ rfl
  obtain ⟨m2, h2, _⟩ := rd_int Tryz.underlying3 cells_int e2
  obtain ⟨y3, e3⟩ := rd 3 _ _ rfl
  obtain ⟨m3, h3, w3⟩ := rd_int Tryz.underlying22 cells_u64 e3
  obtain ⟨y4, e4⟩ := rd 4 _ _ rfl
  obtain ⟨m4, h4, w4⟩ := rd_int Tryz.underlying22 cells_u64 e4
  obtain ⟨y5, e5⟩ := rd 5 _ _ rfl
  obtain ⟨m5, h5, _⟩ := rd_int Tryz.underlying3 cells_int e5
  obtain ⟨y6, e6⟩ := rd 6 _ _ rfl
  have h6 := row_u64 Tryz.underlying48 e6
  obtain ⟨y7, e7⟩ := rd 7 _ _ rfl
  obtain ⟨m7, h7, _⟩ := DataW.trod_bool bool_under e7
  rw [cells_bool] at h7
  have h7 := one_cell h7
  refine ⟨⟨m0, m1, m2, BitVec.ofInt 64 m3, BitVec.ofInt 64 m4, m5, fun j => BitVec.ofInt 64 (intAt cs (6 + j)), m7⟩, ?_⟩
  apply List.ext_getElem?
  intro i
  have e : ∀ (q : LayT), (layC q).toList[i]? = if i < 47 then some (q.cell i) else none := fun q => by rw [Array.getElem?_toList, layC_get]
  rw [e]
  clear e
  by_cases hi : i < 47
  · rw [if_pos hi]
    match i, hi with
    | 0, _ => exact h0
    | 1, _ => exact h1
    | 2, _ => exact h2
    | 3, _ => exact h3.trans (congrArg some (U_of w3).symm)
    | 4, _ => exact h4.trans (congrArg some (U_of w4).symm)
    | 5, _ => exact h5
    | i + 6, hi =>
      show cs[i + 6]? = some (if i < 40 then U (BitVec.ofInt 64 (intAt cs (6 + i))) else .bool m7)
      by_cases h40 : i < 40
      · rw [if_pos h40]
        obtain ⟨m, hm, hw⟩ := h6 i h40
        have hm := drop_take_get hm
        rw [intAt_eq hm, U_of hw, Nat.add_comm]
        exact hm
      · rw [if_neg h40]
        obtain rfl : i = 40 := by omega
        exact h7
  · rw [if_neg hi, List.getElem?_eq_none (by omega)]
theorem open_lay {r : Reach} {b0 : Nat} {v : Value} {d : DataW H} {p : List MemPlace} (hv : Value.okWide Tryz.prog w r b0 72 v) (h : DataW.Trod enc Tryz.prog w base spare held 72 v d p) : ∃ q : LayT, v = .agg (layC q) := by
  obtain ⟨cs, rfl, hsz⟩ := okWide_struct lay_under hv
  obtain ⟨fuel, hf⟩ := h
  have hf' : DataW.trod enc Tryz.prog w base spare held fuel 72 cs.toList = some (d, p) := hf
  obtain ⟨q, hq⟩ := lay_cellsOf hf'
  exact ⟨q, congrArg Value.agg (Array.ext' hq)⟩
end
section
variable {H : Type} {enc : TypeId × Value → H} {w : World} {base : Nat} {held : Bool}
def SeenIn (w : World) (a : Option Addr) (n : Nat) (ps : Nat → BitVec 64 × Bool) : Prop := ∀ j, j < n → ∃ kb ko, a = some ⟨kb, ko, none⟩ ∧ kb < w.heap.size ∧ (w.heap[kb]?).bind (rowAt (ko + j * 2) 2) = some (seenC (N (ps j).1) (ps j).2)
theorem cells_seen : Tryz.prog.cellsOf 93 = 2 := by kernel_rfl
theorem seen_under : Tryz.prog.underlying 93 = some (.struct (Tryz.prog.fieldsOf 93)) := by kernel_rfl
theorem seen_fields : (Tryz.prog.fieldsOf 93).toList.map (fun f => (f.type, f.offset)) = [(22, 0), (4, 1)] := by kernel_rfl
theorem seen_cellsOf {spare : Nat → Bool} {fuel : Nat} {cs : List Value} {x : DataW H × List MemPlace} (h : DataW.trod enc Tryz.prog w base spare held fuel 93 cs = some x) : ∃ (k : BitVec 64) (b : Bool), cs = [U k, .bool b] := by
  obtain ⟨xs, n, _, _, hlen, hxl, hx⟩ := DataW.trod_struct seen_under h
  have rd := fields_at (n := n) (cs := cs) seen_fields hxl hx
  have hlen := hlen.trans cells_seen
  obtain ⟨y0, e0⟩ := rd 0 _ _ rfl
  obtain ⟨m0, h0, w0⟩ := rd_int Tryz.underlying22 cells_u64 e0
  obtain ⟨y1, e1⟩ := rd 1 _ _ rfl
  obtain ⟨m1, h1, _⟩ := DataW.trod_bool bool_under e1
  rw [cells_bool] at h1
  have h1 := one_cell h1
  refine ⟨BitVec.ofInt 64 m0, m1, ?_⟩
  apply List.ext_getElem?
  intro i
  match i with
  | 0 => rw [h0, U_of w0]; rfl
  | 1 => rw [h1]; rfl
  | i + 2 => rw [List.getElem?_eq_none (by omega), List.getElem?_eq_none (by simp)]
theorem open_seens {r : Reach} {b0 : Nat} {v : Value} {d : DataW H} {p : List MemPlace} (hv : Value.okWide Tryz.prog w r b0 84 v) (h : DataW.Trod enc Tryz.prog w 0 (fun _ => true) held 84 v d p) :
    ∃ a n c ps, v = .slice a n c ∧ n ≤ 9223372036854775807 ∧ SeenIn w a n ps := by
  obtain ⟨a, n, c, rfl⟩ := okWide_slice Tryz.underlying84 hv
  obtain ⟨fuel, hf⟩ := h
  rcases Go.Deep.open_slice Tryz.underlying84 hf with ⟨hcs, _⟩ | ⟨x, l, c', m, n', D, Pl, hcs, _, hl, hm, hmm, _, hel⟩
  · simp [Value.cells] at hcs
    obtain ⟨rfl, rfl, rfl⟩ := hcs
    exact ⟨none, 0, 0, fun _ => (0#64, false), rfl, by omega, fun j hj => by omega⟩
  · simp [Value.cells] at hcs
    obtain ⟨rfl, rfl, rfl⟩ := hcs
    simp only [if_true] at hmm
    subst hmm
    unfold maxLen at hm
    have hsp : 0 < n → x.spot = none := by
      intro hn
      obtain ⟨cs', h1, h2⟩ := hel 0 (by omega)
      obtain ⟨k, v, rfl⟩ := seen_cellsOf h2
      rw [cells_seen] at h1
      obtain ⟨_, _, h3⟩ := World.cells?_some h1
      have e0 := h3 0 (by omega)
      have := World.cell?_spot e0
      simpa [Addr.add] using this
    have hall : ∀ j, j < n → ∃ q : BitVec 64 × Bool, ∃ kb ko, x = ⟨kb, ko, none⟩ ∧ kb < w.heap.size ∧ (w.heap[kb]?).bind (rowAt (ko + j * 2) 2) = some (seenC (N q.1) q.2) := by
      intro j hj
      obtain ⟨cs', h1, h2⟩ := hel j (by omega)
      obtain ⟨k, v, rfl⟩ := seen_cellsOf h2
      rw [cells_seen] at h1
      obtain ⟨_, _, h3⟩ := World.cells?_some h1
      have e0 := h3 0 (by omega)
      have e1 := h3 1 (by omega)
      obtain ⟨b, off, spot⟩ := x
      obtain rfl : spot = none := hsp (by omega)
      have a0 : ((⟨b, off, none⟩ : Addr).add (j * 2)).add 0 = ⟨b, off + j * 2, none⟩ := by unfold Addr.add; split <;> split <;> simp_all
      have a1 : ((⟨b, off, none⟩ : Addr).add (j * 2)).add 1 = ⟨b, off + j * 2 + 1, none⟩ := by unfold Addr.add; split <;> split <;> simp_all
      rw [a0] at e0
      rw [a1] at e1
      obtain ⟨c0, c1⟩ := cell_in (v := U k) (by simpa using e0)
      obtain ⟨_, c2⟩ := cell_in (v := .bool v) (by simpa using e1)
      exact ⟨(k, v), b, off, rfl, c0, row_of_two c1 c2⟩
    obtain ⟨ps, hps⟩ := Go.Deep.choose_lt hall
    refine ⟨some x, n, _, ps, rfl, by omega, fun j hj => ?_⟩
    obtain ⟨kb, ko, hx, h1, h2⟩ := hps j hj
    exact ⟨kb, ko, by rw [hx], h1, h2⟩
theorem SeenIn.ch {w w' : World} {a : Option Addr} {n : Nat} {ps : Nat → BitVec 64 × Bool} (h : SeenIn w a n ps) (c : Ch [] w w') : SeenIn w' a n ps := by
  intro j hj
  obtain ⟨kb, ko, ha, hk, hr⟩ := h j hj
  exact ⟨kb, ko, ha, Nat.lt_of_lt_of_le hk c.size, by rw [c.block kb hk (by simp)]; exact hr⟩
theorem cells_i2 : Tryz.prog.cellsOf 45 = 2 := by kernel_rfl
theorem open_two {spare : Nat → Bool} {r : Reach} {b0 : Nat} {v : Value} {d : DataW H} {p : List MemPlace} (hv : Value.okWide Tryz.prog w r b0 45 v) (h : DataW.Trod enc Tryz.prog w base spare held 45 v d p) : ∃ x y : Int, v = .agg #[I x, I y] := by
  simp only [Value.okWide, Tryz.underlying45] at hv
  obtain ⟨cs, rfl, _⟩ := hv
  obtain ⟨fuel, hf⟩ := h
  have hf' : DataW.trod enc Tryz.prog w base spare held fuel 45 cs.toList = some (d, p) := hf
  obtain ⟨xs, m, _, _, hlen, hl, hx⟩ := DataW.trod_array Tryz.underlying45 hf'
  have rd : ∀ i, i < 2 → ∃ m, cs.toList[i]? = some (I m) := by
    intro i hi
    have h1 := hx i hi
    rw [cells_int, Nat.mul_one, List.getElem?_eq_getElem (by omega)] at h1
    obtain ⟨k, hk, _, hw⟩ := DataW.trod_int Tryz.underlying3 h1
    exact ⟨k, one_cell hk⟩
  obtain ⟨x, h0⟩ := rd 0 (by omega)
  obtain ⟨y, h1⟩ := rd 1 (by omega)
  have hlen := hlen.trans cells_i2
  refine ⟨x, y, congrArg Value.agg (Array.ext' ?_)⟩
  apply List.ext_getElem?
  intro i
  match i with
  | 0 => rw [h0]; rfl
  | 1 => rw [h1]; rfl
  | i + 2 => rw [List.getElem?_eq_none (by omega), List.getElem?_eq_none (by simp)]
end
attribute [local go_sem] zbs zca zax zbc zbn zba zbm zbo zbu signed64 signed8 zar BitVec.ofInt_add BitVec.ofInt_mul ofInt_sub' zay zaz wide8 eqN neN zbz shr1 shr7 shr56
attribute [local go_sem high] zbb zbt
attribute [local go_sem] zag zbw zah zas zad zbe zaq zal zbl zan zbd zbf
attribute [local go_sem] load26 load73 load23 store26 build73
attribute [local go_sem ↓] lrow26 lrow73 lrow23 srow26 zero26 brow73 zac zaw zbg zaa zab
attribute [local go_sem] zai zav zat zbj zbk zbp zao zau zbq zbi zbh
attribute [local go_sem] nn2 nm2 nn3 nm3 nn4 nm4 nn5 nm5 nn6 nm6 nn7 nm7 nn8 nm8
attribute [local go_sem] nn2 nm2 nn3 nm3 nn4 nm4 nn5 nm5 nn6 nm6 nn7 nm7 nn8 nm8
attribute [local go_sem] Oper.semAt_some zap
theorem own20_some (l : List (BitVec 64)) (x : Addr) (n c : Nat) (w : World) (hn : n ≤ 9223372036854775807) (hc : n ≤ c) (hl : l.length = min n 140) (h : ∀ w', Ch [] w w' → ∀ j u, (l.map fun x => U x)[j]? = some u → w'.cell? (x.add j) = some u) :
    Calls Tryz.prog 36 #[.slice (some x) n c] w fun e w' => ∃ a' c', e = .returned (.slice a' l.length c') ∧ w'.ownsRow w.heap.size 22 1 (.slice a' l.length c') l.length (l.map fun x => U x) ∧ Ch [] w w' := by
  have K1 := fun (w' : World) (hw : Ch [] w w') => cloneWords_any l x c w' (by omega) (fun w'' h'' => h w'' (hw.trans h''))
  generalize hm : l.length = m at *
  have hm0 : (0 : Int) ≤ m := by omega
  have hmc : m ≤ c := by omega
  have hm200 : (m : Int) ≤ 140 := by omega
  have HK := Lib.hid K1
  have HM : Hid ((min (n : Int) 140).toNat = m) := Lib.hid (by omega)
  have hnc : (n : Int) ≤ c := by omega
  clear hl K1 hm h hn
  go_enter Tryz.func36, Tryz.ntmps36
  go_wp2_with fail
  rw [HM.out]
  refine (HK.out _ (Ch.refl _ _)).mono ?_
  rintro e w1 ⟨a', c', rfl, ho, hc1⟩
  have HO := Lib.hid ho
  clear ho
  go_wp2
  go_ret
  exact ⟨a', c', rfl, HO.out, hc1⟩
theorem own20_none (w : World) : Calls Tryz.prog 36 #[.slice none 0 0] w fun e w' => e = .returned (.slice none 0 0) ∧ w = w' := by
  have K1 := fun w => cloneWords_none 0 w
  go_enter Tryz.func36, Tryz.ntmps36
  go_wp2_with fail
  refine (K1 _).mono ?_
  rintro e w' ⟨rfl, rfl⟩
  go_wp2
  go_ret
  exact ⟨rfl, rfl⟩
theorem own20_words (a : Option Addr) (n c : Nat) (ks : Nat → BitVec 64) (w : World) (hn : n ≤ c) (hc : c ≤ 9223372036854775807) (ha : a = none → n = 0 ∧ c = 0) (h : KeysIn w a n ks) :
    Calls Tryz.prog 36 #[.slice a n c] w fun e w' => ∃ a' c', e = .returned (.slice a' (min n 140) c') ∧ w'.ownsRow w.heap.size 22 1 (.slice a' (min n 140) c') (min n 140) ((frontW ks (min n 140)).map fun x => U x) ∧ Ch [] w w' := by
  cases a with
  | none =>
    obtain ⟨rfl, rfl⟩ := ha rfl
    refine (own20_none w).mono ?_
    rintro e w' ⟨rfl, rfl⟩
    exact ⟨none, 0, rfl, World.ownsRow_nil _ _ _ _, Ch.refl _ _⟩
  | some x =>
    have := own20_some (frontW ks (min n 140)) x n c w (by omega) hn (by rw [frontW_len]) (by
      intro w' c1 j u hj
      have hlt := (List.getElem?_eq_some_iff.1 hj).1
      rw [List.length_map, frontW_len] at hlt
      obtain ⟨kb, ko, hka, hkb, hrow⟩ := h j (by omega)
      obtain rfl : x = ⟨kb, ko, none⟩ := by simpa using hka
      rw [List.getElem?_map] at hj
      unfold frontW at hj
      rw [List.getElem?_map, List.getElem?_range hlt] at hj
      have hj : U (ks j) = u := by simpa using hj
      subst hj
      have hadd : (⟨kb, ko, none⟩ : Addr).add j = ⟨kb, ko + j, none⟩ := by unfold Addr.add; split <;> simp_all
      rw [hadd, zag, c1.block kb hkb (by simp)]
      exact hrow)
    rw [frontW_len] at this
    exact this
theorem own20_row (a : Option Addr) (n c : Nat) (ks : Nat → BitVec 64) (w : World) (hn : n ≤ c) (hc : c ≤ 9223372036854775807) (ha : a = none → n = 0 ∧ c = 0) (h : KeysIn w a n ks) (m : Nat) (hm : min n 140 = m) (h1 : 1 ≤ m) :
    Calls Tryz.prog 36 #[.slice a n c] w fun e w' => ∃ R c2 cur, e = .returned (.slice (some ⟨R, 0, none⟩) m c2) ∧ w.heap.size ≤ R ∧ WordsAt cur (frontW ks m) ∧ w'.heap[R]? = some (.cells cur 22 (0, 0)) ∧ Ch [] w w' := by
  refine (own20_words a n c ks w hn hc ha h).mono ?_
  rintro e w' ⟨a', c', rfl, ho, hC⟩
  rw [hm] at ho ⊢
  obtain ⟨R, c2, cur, hv, hR, _, hcur, hW⟩ := row_out (frontW_len ks m) h1 ho
  exact ⟨R, c2, cur, by rw [hv], hR, hcur, hW, hC⟩
theorem own20_empty (a : Option Addr) (n c : Nat) (ks : Nat → BitVec 64) (w : World) (hn : n ≤ c) (hc : c ≤ 9223372036854775807) (ha : a = none → n = 0 ∧ c = 0) (h : KeysIn w a n ks) (hm : min n 140 = 0) :
    Calls Tryz.prog 36 #[.slice a n c] w fun e w' => ∃ a' c', e = .returned (.slice a' 0 c') ∧ Ch [] w w' := by
  refine (own20_words a n c ks w hn hc ha h).mono ?_
  rintro e w' ⟨a', c', rfl, ho, hC⟩
  rw [hm]
  exact ⟨a', c', rfl, hC⟩
end Go.Proofs.Hc
