/- Accesses as values: their cells. -/
import Derived.Test.YtcikopeddljgkaaGreatKHdm
import Derived.Test.YtcikopeddljgkaaGreatK0
set_option linter.unusedSimpArgs false
set_option linter.unusedVariables false
set_option maxHeartbeats 2000000
set_option maxRecDepth 100000
namespace Go.Proofs.Hc
open Go.RowKit
def accC (a b c d : Int) : Array Value := #[I a, I b, I c, .int .u64 0, .int .u64 d]
theorem zdg (a b c d : Int) : (accC a b c d).size = 5 := rfl
theorem accC_one (a b c d : Int) : allOne (accC a b c d) = true := by unfold allOne accC; simp [Value.oneCell']
theorem accC_all (a b c d : Int) : (accC a b c d).extract 0 5 = accC a b c d := by have := Array.extract_size (xs := accC a b c d); rwa [zdg] at this
theorem acc_g0 (a b c d : Int) : (accC a b c d)[0]? = some (I a) := rfl
theorem acc_g1 (a b c d : Int) : (accC a b c d)[1]? = some (I b) := rfl
theorem acc_g2 (a b c d : Int) : (accC a b c d)[2]? = some (I c) := rfl
theorem acc_g4 (a b c d : Int) : (accC a b c d)[4]? = some (.int .u64 d) := rfl
theorem acc_s0 (a b c d x : Int) : (accC a b c d).setIfInBounds 0 (I x) = accC x b c d := rfl
theorem acc_s1 (a b c d x : Int) : (accC a b c d).setIfInBounds 1 (I x) = accC a x c d := rfl
theorem acc_s2 (a b c d x : Int) : (accC a b c d).setIfInBounds 2 (I x) = accC a b x d := rfl
theorem acc_s4 (a b c d x : Int) : (accC a b c d).setIfInBounds 4 (.int .u64 x) = accC a b c x := rfl
theorem loadAcc (g o : Nat) (w : World) : (loadRow 87 ⟨g, o, none⟩).run Tryz.prog w = rowRes Tryz.prog 87 g o w ((w.heap[g]?).bind (rowAt o 5)) :=
  run_row Tryz.underlying87 rfl (by kernel_rfl) g o w
theorem storeAcc (g o : Nat) (vs : Array Value) (w : World) : (storeRow 87 ⟨g, o, none⟩ (.agg vs)).run Tryz.prog w = layRes Tryz.prog 87 g o vs w (((w.heap[g]?).map (canLay o 5 vs)).getD false) :=
  run_lay (by kernel_rfl) g o vs w
theorem lrowAcc (a : Addr) : loadVar 87 a = loadRow 87 a := rfl
theorem srowAcc (a : Addr) (v : Value) : storeVar 87 a v = storeRow 87 a v := rfl
theorem browAcc (ps : Array (Nat × Value)) : Instr.build 87 ps = buildRow 87 ps := rfl
theorem zcu (w : World) : (zeroValue 87).run Tryz.prog w = .ok (.agg (accC 0 0 0 0)) w := by kernel_rfl
theorem bacc0 (w : World) : (buildRow 87 #[]).run Tryz.prog w = .ok (.agg (accC 0 0 0 0)) w := by kernel_rfl
theorem bacc2 (b c : Int) (w : World) : (buildRow 87 #[(1, I b), (2, I c)]).run Tryz.prog w = .ok (.agg (accC 0 b c 0)) w := by kernel_rfl
theorem bacc3 (a b c : Int) (w : World) : (buildRow 87 #[(0, I a), (1, I b), (2, I c)]).run Tryz.prog w = .ok (.agg (accC a b c 0)) w := by kernel_rfl
theorem bacc3u (b c d : Int) (w : World) : (buildRow 87 #[(1, I b), (2, I c), (4, .int .u64 d)]).run Tryz.prog w = .ok (.agg (accC 0 b c d)) w := by kernel_rfl
theorem bacc4 (a b c d : Int) (w : World) : (buildRow 87 #[(0, I a), (1, I b), (2, I c), (4, .int .u64 d)]).run Tryz.prog w = .ok (.agg (accC a b c d)) w := by kernel_rfl
theorem zah (a b c d a' b' c' d' : Int) (T : TypeId) (fr : Nat × Nat) : laidAt 0 (accC a b c d) (.cells (accC a' b' c' d') T fr) = .cells (accC a b c d) T fr := by
  rw [zak, laid_whole _ _ (by rw [zdg, zdg])]
theorem acc_result {fn : Func} {p : Tmp} (h : fn.results = #[.cell p 87]) (tmps : Array Value) (b : Nat) (w : World) (x y z u : Int) (hp : tmps.getD p undef = .pointer (some ⟨b, 0, none⟩))
    (hb : w.heap[b]? = some (.cells (accC x y z u) 87 (0, 0))) : (results fn tmps).run Tryz.prog w = .ok (.agg (accC x y z u)) w := by
  have hl := run_loadVar_row (P := Tryz.prog) w b 87 87 (accC x y z u) (0, 0) _ hb Tryz.underlying87 rfl (by rw [zdg]; kernel_rfl)
  have hp' : tmps[p]?.getD undef = .pointer (some ⟨b, 0, none⟩) := by simpa using hp
  simp [results, h, hp', asAddr, hl]
end Go.Proofs.Hc
namespace Go.Proofs.Hc
open Go.RowKit
variable {me : Int}
attribute [local go_sem] zbv zcb zba zbf zbr zbd zbq zbs zbx signed64 signed8 zap BitVec.ofInt_add BitVec.ofInt_mul ofInt_sub' zbb zbc wide8 eqN neN zca shr1 shr7 shr56
attribute [local go_sem high] zbe zbw
attribute [local go_sem] zaw zby zaj zas zae zay zar zak zbn zam zax zaz
attribute [local go_sem] load26 load73 load23 store26 build73
attribute [local go_sem ↓] lrow26 lrow73 lrow23 srow26 zero26 brow73 zac zbk zbg zaa zab
attribute [local go_sem] zai zav zau zbj zbl zbo zaq zat zbp zbi zbh
attribute [local go_sem] nn2 nm2 nn3 nm3 nn4 nm4 nn5 nm5 nn6 nm6 nn7 nm7 nn8 nm8
attribute [local go_sem] acc_g0 acc_g1 acc_g2 acc_g4 acc_s0 acc_s1 acc_s2 acc_s4 zdg accC_one accC_all loadAcc storeAcc bacc0 bacc2 bacc3 bacc3u bacc4
attribute [local go_sem ↓] lrowAcc srowAcc browAcc zcu
attribute [local go_sem high] zah
attribute [local go_sem] Oper.semAt_some zao
attribute [local irreducible] accC
theorem loadAcs (g o : Nat) (w : World) : (loadRow 264 ⟨g, o, none⟩).run Tryz.prog w = rowRes Tryz.prog 264 g o w ((w.heap[g]?).bind (rowAt o 5)) :=
  run_row Tryz.underlying264 rfl (by kernel_rfl) g o w
theorem storeAcs (g o : Nat) (vs : Array Value) (w : World) : (storeRow 264 ⟨g, o, none⟩ (.agg vs)).run Tryz.prog w = layRes Tryz.prog 264 g o vs w (((w.heap[g]?).map (canLay o 5 vs)).getD false) :=
  run_lay (by kernel_rfl) g o vs w
theorem lrowAcs (a : Addr) : loadVar 264 a = loadRow 264 a := rfl
theorem srowAcs (a : Addr) (v : Value) : storeVar 264 a v = storeRow 264 a v := rfl
theorem browAcs (ps : Array (Nat × Value)) : Instr.build 264 ps = buildRow 264 ps := rfl
theorem buildAcs (a b c d : Int) (w : World) : (buildRow 264 #[(0, .agg (accC a b c d))]).run Tryz.prog w = .ok (.agg (accC a b c d)) w := by kernel_rfl
theorem zeroAcs_run (w : World) : (zeroValue 264).run Tryz.prog w = .ok (.agg (accC 0 0 0 0)) w := by kernel_rfl
theorem boxAcs (a b c d : Int) (w : World) : (Instr.box 264 (.agg (accC a b c d))).run Tryz.prog w = .ok (.pointer (some ⟨w.heap.size, 0, none⟩)) (w.alloc (.cells (accC a b c d) 264)) := rfl
theorem boxAcc (a b c d : Int) (w : World) : (Instr.box 87 (.agg (accC a b c d))).run Tryz.prog w = .ok (.pointer (some ⟨w.heap.size, 0, none⟩)) (w.alloc (.cells (accC a b c d) 87)) := rfl
attribute [local go_sem] loadAcs storeAcs buildAcs boxAcs boxAcc
attribute [local go_sem ↓] lrowAcs srowAcs browAcs zeroAcs_run
theorem cCheck_ok (hm0 : 0 ≤ me) (hm7 : me < 8) (k a n d : Int) (hk : 1 ≤ k) (hk4 : k ≤ 4) (ha : 0 ≤ a) (hn : a < n) (hn1 : 1 ≤ n) (hn2 : n ≤ 8192) (w : World) : Calls Tryz.prog 183 #[.agg (accC me k a d), I n] w fun e w' => e = .returned (I 0) ∧ Ch [] w w' := by
  go_enter Tryz.func183, Tryz.ntmps183
  go_wp2
  go_ret
  exact ⟨rfl, (Ch.refl [] w).alloc _⟩
theorem cCheck_at (hm0 : 0 ≤ me) (hm7 : me < 8) (k a n d : Int) (hk : 1 ≤ k) (hk4 : k ≤ 4) (ha : 0 ≤ a) (hn : n ≤ a) (hn1 : 1 ≤ n) (hn2 : n ≤ 8192) (w : World) : Calls Tryz.prog 183 #[.agg (accC me k a d), I n] w fun e w' => e = .returned (I 2) ∧ Ch [] w w' := by
  go_enter Tryz.func183, Tryz.ntmps183
  go_wp2
  go_ret
  exact ⟨rfl, (Ch.refl [] w).alloc _⟩
theorem pLoad_any (r o : Nat) (x : BitVec 64) (w : World) (h : w.cell? ⟨r, o, none⟩ = some (U x)) : Calls Tryz.prog 337 #[.agg #[.slice (some ⟨r, o, none⟩) 1 1]] w fun e w' => e = .returned (U x) ∧ Ch [] w w' := by
  rw [zaw] at h
  have hrn : ¬ r = w.heap.size := by
    intro e; rw [e, Array.getElem?_eq_none (Nat.le_refl _)] at h; cases h
  go_enter Tryz.func337, Tryz.ntmps337
  go_wp2
  go_ret
  exact ⟨rfl, (Ch.refl [] w).alloc _⟩
theorem pSwap_any (r o : Nat) (cur : Array Value) (x y : BitVec 64) (w : World) (hb : w.heap[r]? = some (.cells cur 22 (0, 0))) (h : cur[o]? = some (U x)) : Calls Tryz.prog 338 #[.agg #[.slice (some ⟨r, o, none⟩) 1 1], U x, U y] w fun e w' => e = .returned (.bool true) ∧ Ch [r] w w' ∧ w'.heap[r]? = some (.cells (cur.setIfInBounds o (U y)) 22 (0, 0)) := by
  have hrn : ¬ r = w.heap.size := by have := (Array.getElem?_eq_some_iff.1 hb).1; omega
  go_enter Tryz.func338, Tryz.ntmps338
  go_wp2
  go_ret
  refine ⟨rfl, ((Ch.refl [r] w).alloc _).setCell (p := ⟨r, o, none⟩) (.inl (by simp)) _, ?_⟩
  simp [go_sem, hb, hrn]
theorem meth_load (v : Value) (w : World) : (method 473 268 v "honeycomb/cells.load").run Tryz.prog w = .ok (337, v) w := by kernel_rfl
theorem meth_swap (v : Value) (w : World) : (method 473 268 v "honeycomb/cells.swap").run Tryz.prog w = .ok (338, v) w := by kernel_rfl
theorem loadSeen (g o : Nat) (w : World) : (loadRow 93 ⟨g, o, none⟩).run Tryz.prog w = rowRes Tryz.prog 93 g o w ((w.heap[g]?).bind (rowAt o 2)) :=
  run_row Tryz.underlying93 rfl (by kernel_rfl) g o w
theorem storeSeen (g o : Nat) (vs : Array Value) (w : World) : (storeRow 93 ⟨g, o, none⟩ (.agg vs)).run Tryz.prog w = layRes Tryz.prog 93 g o vs w (((w.heap[g]?).map (canLay o 2 vs)).getD false) :=
  run_lay (by kernel_rfl) g o vs w
theorem lrowSeen (a : Addr) : loadVar 93 a = loadRow 93 a := rfl
theorem srowSeen (a : Addr) (v : Value) : storeVar 93 a v = storeRow 93 a v := rfl
def seenC (x : Int) (b : Bool) : Array Value := #[.int .u64 x, .bool b]
theorem zcx (x : Int) (b : Bool) : (seenC x b).size = 2 := rfl
theorem seenC_one (x : Int) (b : Bool) : allOne (seenC x b) = true := by unfold allOne seenC; simp [Value.oneCell']
theorem seenC_all (x : Int) (b : Bool) : (seenC x b).extract 0 2 = seenC x b := by have := Array.extract_size (xs := seenC x b); rwa [zcx] at this
theorem seenC_g0 (x : Int) (b : Bool) : (seenC x b)[0]? = some (.int .u64 x) := rfl
theorem browSeen (ps : Array (Nat × Value)) : Instr.build 93 ps = buildRow 93 ps := rfl
theorem buildSeen (x : Int) (b : Bool) (w : World) : (buildRow 93 #[(0, .int .u64 x), (1, .bool b)]).run Tryz.prog w = .ok (.agg (seenC x b)) w := by kernel_rfl
theorem buildSeen0 (w : World) : (buildRow 93 #[]).run Tryz.prog w = .ok (.agg (seenC 0 false)) w := by kernel_rfl
theorem zcy (w : World) : (zeroValue 93).run Tryz.prog w = .ok (.agg (seenC 0 false)) w := by kernel_rfl
theorem zal (x y : Int) (b c : Bool) (T : TypeId) (fr : Nat × Nat) : laidAt 0 (seenC x b) (.cells (seenC y c) T fr) = .cells (seenC x b) T fr := by
  rw [zak, laid_whole _ _ (by rw [zcx, zcx])]
theorem seen_result {fn : Func} {p : Tmp} (h : fn.results = #[.cell p 93]) (tmps : Array Value) (b : Nat) (w : World) (x : Int) (d : Bool) (hp : tmps.getD p undef = .pointer (some ⟨b, 0, none⟩))
    (hb : w.heap[b]? = some (.cells (seenC x d) 93 (0, 0))) : (results fn tmps).run Tryz.prog w = .ok (.agg (seenC x d)) w := by
  have hl := run_loadVar_row (P := Tryz.prog) w b 93 93 (seenC x d) (0, 0) _ hb Tryz.underlying93 rfl (by rw [zcx]; kernel_rfl)
  have hp' : tmps[p]?.getD undef = .pointer (some ⟨b, 0, none⟩) := by simpa using hp
  simp [results, h, hp', asAddr, hl]
attribute [local go_sem] meth_load meth_swap
attribute [local go_sem] zcx seenC_one seenC_all seenC_g0 loadSeen storeSeen buildSeen buildSeen0
attribute [local go_sem ↓] lrowSeen srowSeen browSeen zcy
attribute [local go_sem high] zal
attribute [local irreducible] seenC
theorem aLoad_any (k a d : Int) (r o : Nat) (x : BitVec 64) (w : World) (h : w.cell? ⟨r, o, none⟩ = some (U x)) : Calls Tryz.prog 235 #[.agg (accC me k a d), .iface 268 (.agg #[.slice (some ⟨r, o, none⟩) 1 1])] w fun e w' => e = .returned (.agg (seenC (N x) true)) ∧ Ch [] w w' := by
  have C0 : Ch [] w ((w.alloc (.cells (accC me k a d) 264)).alloc (.cells (seenC 0 false) 93)) := ((Ch.refl [] w).alloc _).alloc _
  have z0 : ((w.alloc (.cells (accC me k a d) 264)).alloc (.cells (seenC 0 false) 93)).heap[w.heap.size + 1]? = some (.cells (seenC 0 false) 93 (0, 0)) := by rw [zac, if_pos (by simp)]
  have hr : r < w.heap.size := by
    rw [zaw] at h
    rcases Nat.lt_or_ge r w.heap.size with h1 | h1
    · exact h1
    · rw [Array.getElem?_eq_none h1] at h; cases h
  have h0 := (C0.cell r o hr).trans h
  have P1 := fun w h => pLoad_any r o x w h
  clear hr h
  go_enter Tryz.func235, Tryz.ntmps235
  go_wp2_with fail
  generalize (w.alloc (.cells (accC me k a d) 264)).alloc (.cells (seenC 0 false) 93) = W0 at *
  refine (P1 _ h0).mono ?_
  rintro e w1 ⟨rfl, hc1⟩
  have z1 := hkeep hc1 z0
  go_wp2
  refine bodyPost_ret (seen_result Tryz.results235 _ (w.heap.size + 1) _ (N x) true rfl ?_) rfl ⟨rfl, ?_⟩
  · simp [go_sem, z1]
  · exact (C0.trans hc1).onObj (p := w.heap.size + 1) (.inr (by omega)) _
end Go.Proofs.Hc
namespace Go.Proofs.Hc
open Go.RowKit
variable {me : Int}
attribute [local go_sem] zbv zcb zba zbf zbr zbd zbq zbs zbx signed64 signed8 zap BitVec.ofInt_add BitVec.ofInt_mul ofInt_sub' zbb zbc wide8 eqN neN zca shr1 shr7 shr56
attribute [local go_sem high] zbe zbw
attribute [local go_sem] zaw zby zaj zas zae zay zar zak zbn zam zax zaz
attribute [local go_sem] load26 load73 load23 store26 build73
attribute [local go_sem ↓] lrow26 lrow73 lrow23 srow26 zero26 brow73 zac zbk zbg zaa zab
attribute [local go_sem] zai zav zau zbj zbl zbo zaq zat zbp zbi zbh
attribute [local go_sem] nn2 nm2 nn3 nm3 nn4 nm4 nn5 nm5 nn6 nm6 nn7 nm7 nn8 nm8
attribute [local go_sem] acc_g0 acc_g1 acc_g2 acc_g4 acc_s0 acc_s1 acc_s2 acc_s4 zdg accC_one accC_all loadAcc storeAcc bacc0 bacc2 bacc3 bacc3u bacc4
attribute [local go_sem ↓] lrowAcc srowAcc browAcc zcu
attribute [local go_sem high] zah
attribute [local go_sem] loadAcs storeAcs buildAcs boxAcs boxAcc meth_load meth_swap
attribute [local go_sem ↓] lrowAcs srowAcs browAcs zeroAcs_run
attribute [local go_sem] zcx seenC_one seenC_all seenC_g0 loadSeen storeSeen buildSeen buildSeen0
attribute [local go_sem ↓] lrowSeen srowSeen browSeen zcy
attribute [local go_sem high] zal
attribute [local irreducible] seenC
attribute [local go_sem] Oper.semAt_some zao zap
attribute [local irreducible] accC
theorem nil_swap (v : Value) (w : World) : (nilAhead 473 268 (.agg #[v]) "honeycomb/cells.swap").run Tryz.prog w = .ok (some false) w := by kernel_rfl
attribute [local go_sem] nil_swap
theorem toStore_any (k a : Int) (x y : BitVec 64) (b : Nat) (w : World) (hb : w.heap[b]? = some (.cells (accC me k a (N y)) 264 (0, 0))) : Calls Tryz.prog 283 #[U x, .pointer (some ⟨b, 0, none⟩)] w fun e w' => e = .returned (U y) ∧ w = w' := by
  go_enter Tryz.func283, Tryz.ntmps283
  go_wp2
  go_ret
  exact ⟨rfl, rfl⟩
theorem toAdd_any (k a : Int) (x y : BitVec 64) (b : Nat) (w : World) (hb : w.heap[b]? = some (.cells (accC me k a (N y)) 264 (0, 0))) : Calls Tryz.prog 284 #[U x, .pointer (some ⟨b, 0, none⟩)] w fun e w' => e = .returned (U (x + y)) ∧ w = w' := by
  go_enter Tryz.func284, Tryz.ntmps284
  go_wp2
  go_ret
  exact ⟨rfl, rfl⟩
theorem change_any (k : Nat) (kd a d : Int) (x z : BitVec 64) (B0 r o : Nat) (cur bc : Array Value) (w : World) (hr : w.heap[r]? = some (.cells cur 22 (0, 0))) (ho : cur[o]? = some (U x)) (hb : w.heap[B0]? = some (.cells bc 264 (0, 0)))
    (hdf : ∀ args w, (callFunc k args).run Tryz.prog w = .ok (.enter k args) w)
    (hto : ∀ W : World, W.heap[B0]? = some (.cells bc 264 (0, 0)) → Calls Tryz.prog k #[U x, .pointer (some ⟨B0, 0, none⟩)] W fun e w' => e = .returned (U z) ∧ W = w') :
    Calls Tryz.prog 282 #[.agg (accC me kd a d), .iface 268 (.agg #[.slice (some ⟨r, o, none⟩) 1 1]), .func (.func k) #[] #[.pointer (some ⟨B0, 0, none⟩)]] w fun e w' => e = .returned (.agg (seenC (N x) true)) ∧ Ch [r] w w' ∧ w'.heap[r]? = some (.cells (cur.setIfInBounds o (U z)) 22 (0, 0)) := by
  have C0 : Ch [] w ((w.alloc (.cells (accC me kd a d) 264)).alloc (.cells (seenC 0 false) 93)) := ((Ch.refl [] w).alloc _).alloc _
  have z0 : ((w.alloc (.cells (accC me kd a d) 264)).alloc (.cells (seenC 0 false) 93)).heap[w.heap.size + 1]? = some (.cells (seenC 0 false) 93 (0, 0)) := by rw [zac, if_pos (by simp)]
  have r0 := hkeep C0 hr
  have b0 := hkeep C0 hb
  have hrl : r < w.heap.size := (Array.getElem?_eq_some_iff.1 hr).1
  have P1 := fun w (h : w.heap[r]? = some (.cells cur 22 (0, 0))) => pLoad_any r o x w (by rw [zaw, h]; exact ho)
  have S1 := fun w (h : w.heap[r]? = some (.cells cur 22 (0, 0))) => pSwap_any r o cur x z w h ho
  clear hr hb ho
  go_enter Tryz.func282, Tryz.ntmps282
  go_wp2
  go_step3
  go_wp2
  generalize (w.alloc (.cells (accC me kd a d) 264)).alloc (.cells (seenC 0 false) 93) = W0 at *
  go_step3
  go_wp2
  refine wp_loop_rounds 1 ?_
  rw [rounds_succ]
  go_wp2_with fail
  refine (P1 _ r0).mono ?_
  rintro e w1 ⟨rfl, hc1⟩
  have z1 := hkeep hc1 z0
  have r1 := hkeep hc1 r0
  have b1 := hkeep hc1 b0
  have C1 := C0.trans hc1
  clear z0 r0 b0 C0 hc1 P1
  go_wp2
  refine wp_region_held_drew (S := fun _ => True) (by kernel_rfl) trivial ?_
  intro _
  simp only [List.size_toArray, List.length_cons, List.length_nil, Nat.reduceAdd]
  have z2 : w1.drew.heap[w.heap.size + 1]? = _ := z1
  have r2 : w1.drew.heap[r]? = _ := r1
  have b2 : w1.drew.heap[B0]? = _ := b1
  have C2 : Ch [] w w1.drew := C1.drew
  clear z1 r1 b1 C1
  generalize w1.drew = w2 at *
  refine tk 0 10 ?_ rfl trivial ?_ ?_; rotate_left
  · intro _ _; go_simp; try with_reducible rfl
  try go_frame
  refine tk 1 11 ?_ rfl trivial ?_ ?_; rotate_left
  · intro _ _; go_simp; try with_reducible rfl
  try go_frame
  refine tk 2 12 ?_ rfl trivial ?_ ?_; rotate_left
  · intro _ _; go_simp; try with_reducible rfl
  try go_frame
  refine tk 3 13 ?_ rfl trivial ?_ ?_; rotate_left
  · intro _ _; go_simp; try with_reducible rfl
  try go_frame
  refine tk 5 15 ?_ rfl trivial ?_ ?_; rotate_left
  · intro _ _; go_simp; try with_reducible rfl
  try go_frame
  refine tk 6 16 ?_ rfl trivial ?_ ?_; rotate_left
  · intro _ _; go_simp; try with_reducible rfl
  try go_frame
  refine tk 7 17 ?_ rfl trivial ?_ ?_; rotate_left
  · intro _ _; go_simp; try with_reducible rfl
  try go_frame
  refine rd 4 rfl (fun K hK => ?_); go_simp
  refine (hto _ b2).mono ?_
  rintro e w' ⟨rfl, rfl⟩
  refine hK.out _ _ trivial (fun _ => ?_)
  clear hK K
  refine rd 8 rfl (fun K hK => ?_); go_simp
  refine (S1 _ r2).mono ?_
  rintro e w3 ⟨rfl, hc3, r3⟩
  refine hK.out _ _ trivial (fun _ => ?_)
  clear hK K
  have z3 : w3.heap[w.heap.size + 1]? = some (.cells (seenC 0 false) 93 (0, 0)) := (hc3.block _ (Array.getElem?_eq_some_iff.1 z2).1 (by simp; omega)).trans z2
  have C3 : Ch [r] w w3 := (C2.of_nil).trans hc3
  refine wpAnyH_done (by kernel_rfl) ?_ _
  go_wp2
  rw [Exit.noGoto_ret]
  refine bodyPost_ret (seen_result Tryz.results282 _ (w.heap.size + 1) _ (N x) true rfl ?_) rfl ⟨rfl, ?_, ?_⟩
  · simp [go_sem, z3]
  · exact C3.onObj (p := w.heap.size + 1) (.inr (by omega)) _
  · rw [zab, if_neg (by omega)]; exact r3
end Go.Proofs.Hc
namespace Go.Proofs.Hc
open Go.RowKit
variable {me : Int}
attribute [local go_sem] zbv zcb zba zbf zbr zbd zbq zbs zbx signed64 signed8 zap BitVec.ofInt_add BitVec.ofInt_mul ofInt_sub' zbb zbc wide8 eqN neN zca shr1 shr7 shr56
attribute [local go_sem high] zbe zbw
attribute [local go_sem] zaw zby zaj zas zae zay zar zak zbn zam zax zaz
attribute [local go_sem] load26 load73 load23 store26 build73
attribute [local go_sem ↓] lrow26 lrow73 lrow23 srow26 zero26 brow73 zac zbk zbg zaa zab
attribute [local go_sem] zai zav zau zbj zbl zbo zaq zat zbp zbi zbh
attribute [local go_sem] nn2 nm2 nn3 nm3 nn4 nm4 nn5 nm5 nn6 nm6 nn7 nm7 nn8 nm8
attribute [local go_sem] acc_g0 acc_g1 acc_g2 acc_g4 acc_s0 acc_s1 acc_s2 acc_s4 zdg accC_one accC_all loadAcc storeAcc bacc0 bacc2 bacc3 bacc3u bacc4
attribute [local go_sem ↓] lrowAcc srowAcc browAcc zcu
attribute [local go_sem high] zah
attribute [local go_sem] loadAcs storeAcs buildAcs boxAcs boxAcc meth_load meth_swap
attribute [local go_sem ↓] lrowAcs srowAcs browAcs zeroAcs_run
attribute [local go_sem] zcx seenC_one seenC_all seenC_g0 loadSeen storeSeen buildSeen buildSeen0
attribute [local go_sem ↓] lrowSeen srowSeen browSeen zcy
attribute [local go_sem high] zal
attribute [local irreducible] seenC
attribute [local go_sem] Oper.semAt_some zao zap
attribute [local irreducible] accC
def DoesPost (w : World) (r o : Nat) (cur : Array Value) (x z : BitVec 64) (e : Ending) (w' : World) : Prop := e = .returned (.agg (seenC (N x) true)) ∧ Ch [r] w w' ∧ w'.heap[r]? = some (.cells (cur.setIfInBounds o (U z)) 22 (0, 0))
theorem set_same (cur : Array Value) (o : Nat) (v : Value) (h : cur[o]? = some v) : cur.setIfInBounds o v = cur := by
  apply Array.ext_getElem?
  intro i
  rw [Array.getElem?_setIfInBounds]
  by_cases e : o = i
  · subst e
    have := (Array.getElem?_eq_some_iff.1 h).1
    rw [if_pos rfl, if_pos this, h]
  · rw [if_neg e]
theorem aStore_any (kd a : Int) (x y : BitVec 64) (r o : Nat) (cur : Array Value) (w : World) (hr : w.heap[r]? = some (.cells cur 22 (0, 0))) (ho : cur[o]? = some (U x)) :
    Calls Tryz.prog 236 #[.agg (accC me kd a (N y)), .iface 268 (.agg #[.slice (some ⟨r, o, none⟩) 1 1])] w (DoesPost w r o cur x y) := by
  have C0 : Ch [] w ((w.alloc (.cells (accC me kd a (N y)) 264)).alloc (.cells (seenC 0 false) 93)) := ((Ch.refl [] w).alloc _).alloc _
  have z0 : ((w.alloc (.cells (accC me kd a (N y)) 264)).alloc (.cells (seenC 0 false) 93)).heap[w.heap.size + 1]? = some (.cells (seenC 0 false) 93 (0, 0)) := by rw [zac, if_pos (by simp)]
  have b0 : ((w.alloc (.cells (accC me kd a (N y)) 264)).alloc (.cells (seenC 0 false) 93)).heap[w.heap.size]? = some (.cells (accC me kd a (N y)) 264 (0, 0)) := by rw [zac, if_neg (by simp), zac, if_pos rfl]
  have r0 := hkeep C0 hr
  have hrl : r < w.heap.size := (Array.getElem?_eq_some_iff.1 hr).1
  clear hr
  go_enter Tryz.func236, Tryz.ntmps236
  go_wp2_with fail
  generalize (w.alloc (.cells (accC me kd a (N y)) 264)).alloc (.cells (seenC 0 false) 93) = W0 at *
  refine (change_any 283 kd a (N y) x y w.heap.size r o cur (accC me kd a (N y)) W0 r0 ho b0 Tryz.call283 (fun W h => toStore_any kd a x y w.heap.size W h)).mono ?_
  rintro e w3 ⟨rfl, hc3, r3⟩
  have z3 : w3.heap[w.heap.size + 1]? = some (.cells (seenC 0 false) 93 (0, 0)) := (hc3.block _ (Array.getElem?_eq_some_iff.1 z0).1 (by simp; omega)).trans z0
  have C3 : Ch [r] w w3 := (C0.of_nil).trans hc3
  go_wp2
  refine bodyPost_ret (seen_result Tryz.results236 _ (w.heap.size + 1) _ (N x) true rfl ?_) rfl ⟨rfl, ?_, ?_⟩
  · simp [go_sem, z3]
  · exact C3.onObj (p := w.heap.size + 1) (.inr (by omega)) _
  · rw [zab, if_neg (by omega)]; exact r3
theorem aAdd_any (kd a : Int) (x y : BitVec 64) (r o : Nat) (cur : Array Value) (w : World) (hr : w.heap[r]? = some (.cells cur 22 (0, 0))) (ho : cur[o]? = some (U x)) :
    Calls Tryz.prog 238 #[.agg (accC me kd a (N y)), .iface 268 (.agg #[.slice (some ⟨r, o, none⟩) 1 1])] w (DoesPost w r o cur x (x + y)) := by
  have C0 : Ch [] w ((w.alloc (.cells (accC me kd a (N y)) 264)).alloc (.cells (seenC 0 false) 93)) := ((Ch.refl [] w).alloc _).alloc _
  have z0 : ((w.alloc (.cells (accC me kd a (N y)) 264)).alloc (.cells (seenC 0 false) 93)).heap[w.heap.size + 1]? = some (.cells (seenC 0 false) 93 (0, 0)) := by rw [zac, if_pos (by simp)]
  have b0 : ((w.alloc (.cells (accC me kd a (N y)) 264)).alloc (.cells (seenC 0 false) 93)).heap[w.heap.size]? = some (.cells (accC me kd a (N y)) 264 (0, 0)) := by rw [zac, if_neg (by simp), zac, if_pos rfl]
  have r0 := hkeep C0 hr
  have hrl : r < w.heap.size := (Array.getElem?_eq_some_iff.1 hr).1
  clear hr
  go_enter Tryz.func238, Tryz.ntmps238
  go_wp2_with fail
  generalize (w.alloc (.cells (accC me kd a (N y)) 264)).alloc (.cells (seenC 0 false) 93) = W0 at *
  refine (change_any 284 kd a (N y) x (x + y) w.heap.size r o cur (accC me kd a (N y)) W0 r0 ho b0 Tryz.call284 (fun W h => toAdd_any kd a x y w.heap.size W h)).mono ?_
  rintro e w3 ⟨rfl, hc3, r3⟩
  have z3 : w3.heap[w.heap.size + 1]? = some (.cells (seenC 0 false) 93 (0, 0)) := (hc3.block _ (Array.getElem?_eq_some_iff.1 z0).1 (by simp; omega)).trans z0
  have C3 : Ch [r] w w3 := (C0.of_nil).trans hc3
  go_wp2
  refine bodyPost_ret (seen_result Tryz.results238 _ (w.heap.size + 1) _ (N x) true rfl ?_) rfl ⟨rfl, ?_, ?_⟩
  · simp [go_sem, z3]
  · exact C3.onObj (p := w.heap.size + 1) (.inr (by omega)) _
  · rw [zab, if_neg (by omega)]; exact r3
def waysC (a : Value) : Array Value := #[.nilFunc, .func (.func 235) #[a] #[], .func (.func 236) #[a] #[], .func (.func 237) #[a] #[], .func (.func 238) #[a] #[]]
theorem waysC_size (a : Value) : (waysC a).size = 5 := rfl
theorem waysC_one (a : Value) : allOne (waysC a) = true := by unfold allOne waysC; simp [Value.oneCell']
theorem waysC_1 (a : Value) : (waysC a)[1]? = some (.func (.func 235) #[a] #[]) := rfl
theorem waysC_2 (a : Value) : (waysC a)[2]? = some (.func (.func 236) #[a] #[]) := rfl
theorem waysC_4 (a : Value) : (waysC a)[4]? = some (.func (.func 238) #[a] #[]) := rfl
def ways0 : Array Value := #[.nilFunc, .nilFunc, .nilFunc, .nilFunc, .nilFunc]
theorem ways0_size : ways0.size = 5 := rfl
theorem brow252 (ps : Array (Nat × Value)) : Instr.build 318 ps = buildRow 318 ps := rfl
theorem build252 (x y z u : Int) (w : World) : (buildRow 318 #[(1, .func (.func 235) #[.agg (accC x y z u)] #[]), (2, .func (.func 236) #[.agg (accC x y z u)] #[]), (3, .func (.func 237) #[.agg (accC x y z u)] #[]), (4, .func (.func 238) #[.agg (accC x y z u)] #[])]).run Tryz.prog w = .ok (.agg (waysC (.agg (accC x y z u)))) w := by kernel_rfl
theorem zero252_run (w : World) : (zeroValue 318).run Tryz.prog w = .ok (.agg ways0) w := by kernel_rfl
theorem store252 (g o : Nat) (vs : Array Value) (w : World) : (storeRow 318 ⟨g, o, none⟩ (.agg vs)).run Tryz.prog w = layRes Tryz.prog 318 g o vs w (((w.heap[g]?).map (canLay o 5 vs)).getD false) :=
  run_lay (by kernel_rfl) g o vs w
theorem srow252 (a : Addr) (v : Value) : storeVar 318 a v = storeRow 318 a v := rfl
theorem laidAt_252 (a : Value) (t : TypeId) (fr : Nat × Nat) : laidAt 0 (waysC a) (.cells ways0 t fr) = .cells (waysC a) t fr := by
  rw [zak, laid_whole _ _ (by rw [ways0_size, waysC_size])]
attribute [local go_sem] build252 store252 waysC_one waysC_size ways0_size waysC_1 waysC_2 waysC_4
attribute [local go_sem ↓] brow252 zero252_run srow252
attribute [local go_sem high] laidAt_252
attribute [local irreducible] waysC ways0
theorem does_1 (a : Int) (d : Int) (x : BitVec 64) (r o : Nat) (cur : Array Value) (w : World) (hr : w.heap[r]? = some (.cells cur 22 (0, 0))) (ho : cur[o]? = some (U x)) :
    Calls Tryz.prog 185 #[.agg (accC me 1 a d), .iface 268 (.agg #[.slice (some ⟨r, o, none⟩) 1 1])] w (DoesPost w r o cur x x) := by
  have C0 : Ch [] w (World.onObj (((w.alloc (.cells (accC me 1 a d) 264)).alloc (.cells (seenC 0 false) 93)).alloc (.cells ways0 318)) (w.heap.size + 1 + 1) (laidAt 0 (waysC (.agg (accC me 1 a d))))) := ((((Ch.refl [] w).alloc _).alloc _).alloc _).onObj (p := w.heap.size + 1 + 1) (.inr (by omega)) _
  have z0 : (World.onObj (((w.alloc (.cells (accC me 1 a d) 264)).alloc (.cells (seenC 0 false) 93)).alloc (.cells ways0 318)) (w.heap.size + 1 + 1) (laidAt 0 (waysC (.agg (accC me 1 a d))))).heap[w.heap.size + 1]? = some (.cells (seenC 0 false) 93 (0, 0)) := by
    rw [zab, if_neg (by omega), zac, if_neg (by simp), zac, if_pos (by simp)]
  have r0 := hkeep C0 hr
  have hrl : r < w.heap.size := (Array.getElem?_eq_some_iff.1 hr).1
  clear hr
  go_enter Tryz.func185, Tryz.ntmps185
  go_wp2_with fail
  generalize World.onObj (((w.alloc (.cells (accC me 1 a d) 264)).alloc (.cells (seenC 0 false) 93)).alloc (.cells ways0 318)) (w.heap.size + 1 + 1) (laidAt 0 (waysC (.agg (accC me 1 a d)))) = W0 at *
  refine (aLoad_any 1 a d r o x W0 (by rw [zaw, r0]; exact ho)).mono ?_
  rintro e w3 ⟨rfl, hc3'⟩
  have hc3 : Ch [r] W0 w3 := hc3'.of_nil
  have r3 : w3.heap[r]? = some (.cells (cur.setIfInBounds o (U x)) 22 (0, 0)) := by rw [set_same cur o (U x) ho]; exact hkeep hc3' r0
  have z3 : w3.heap[w.heap.size + 1]? = some (.cells (seenC 0 false) 93 (0, 0)) := (hc3.block _ (Array.getElem?_eq_some_iff.1 z0).1 (by simp; omega)).trans z0
  have C3 : Ch [r] w w3 := (C0.of_nil).trans hc3
  go_wp2
  refine bodyPost_ret (seen_result Tryz.results185 _ (w.heap.size + 1) _ (N x) true rfl ?_) rfl ⟨rfl, ?_, ?_⟩
  · simp [go_sem, z3]
  · exact C3.onObj (p := w.heap.size + 1) (.inr (by omega)) _
  · rw [zab, if_neg (by omega)]; exact r3
theorem does_2 (a : Int) (y : BitVec 64) (x : BitVec 64) (r o : Nat) (cur : Array Value) (w : World) (hr : w.heap[r]? = some (.cells cur 22 (0, 0))) (ho : cur[o]? = some (U x)) :
    Calls Tryz.prog 185 #[.agg (accC me 2 a (N y)), .iface 268 (.agg #[.slice (some ⟨r, o, none⟩) 1 1])] w (DoesPost w r o cur x y) := by
  have C0 : Ch [] w (World.onObj (((w.alloc (.cells (accC me 2 a (N y)) 264)).alloc (.cells (seenC 0 false) 93)).alloc (.cells ways0 318)) (w.heap.size + 1 + 1) (laidAt 0 (waysC (.agg (accC me 2 a (N y)))))) := ((((Ch.refl [] w).alloc _).alloc _).alloc _).onObj (p := w.heap.size + 1 + 1) (.inr (by omega)) _
  have z0 : (World.onObj (((w.alloc (.cells (accC me 2 a (N y)) 264)).alloc (.cells (seenC 0 false) 93)).alloc (.cells ways0 318)) (w.heap.size + 1 + 1) (laidAt 0 (waysC (.agg (accC me 2 a (N y)))))).heap[w.heap.size + 1]? = some (.cells (seenC 0 false) 93 (0, 0)) := by
    rw [zab, if_neg (by omega), zac, if_neg (by simp), zac, if_pos (by simp)]
  have r0 := hkeep C0 hr
  have hrl : r < w.heap.size := (Array.getElem?_eq_some_iff.1 hr).1
  clear hr
  go_enter Tryz.func185, Tryz.ntmps185
  go_wp2_with fail
  generalize World.onObj (((w.alloc (.cells (accC me 2 a (N y)) 264)).alloc (.cells (seenC 0 false) 93)).alloc (.cells ways0 318)) (w.heap.size + 1 + 1) (laidAt 0 (waysC (.agg (accC me 2 a (N y))))) = W0 at *
  refine (aStore_any 2 a x y r o cur W0 r0 ho).mono ?_
  rintro e w3 ⟨rfl, hc3, r3⟩
  have z3 : w3.heap[w.heap.size + 1]? = some (.cells (seenC 0 false) 93 (0, 0)) := (hc3.block _ (Array.getElem?_eq_some_iff.1 z0).1 (by simp; omega)).trans z0
  have C3 : Ch [r] w w3 := (C0.of_nil).trans hc3
  go_wp2
  refine bodyPost_ret (seen_result Tryz.results185 _ (w.heap.size + 1) _ (N x) true rfl ?_) rfl ⟨rfl, ?_, ?_⟩
  · simp [go_sem, z3]
  · exact C3.onObj (p := w.heap.size + 1) (.inr (by omega)) _
  · rw [zab, if_neg (by omega)]; exact r3
theorem does_4 (a : Int) (y : BitVec 64) (x : BitVec 64) (r o : Nat) (cur : Array Value) (w : World) (hr : w.heap[r]? = some (.cells cur 22 (0, 0))) (ho : cur[o]? = some (U x)) :
    Calls Tryz.prog 185 #[.agg (accC me 4 a (N y)), .iface 268 (.agg #[.slice (some ⟨r, o, none⟩) 1 1])] w (DoesPost w r o cur x (x + y)) := by
  have C0 : Ch [] w (World.onObj (((w.alloc (.cells (accC me 4 a (N y)) 264)).alloc (.cells (seenC 0 false) 93)).alloc (.cells ways0 318)) (w.heap.size + 1 + 1) (laidAt 0 (waysC (.agg (accC me 4 a (N y)))))) := ((((Ch.refl [] w).alloc _).alloc _).alloc _).onObj (p := w.heap.size + 1 + 1) (.inr (by omega)) _
  have z0 : (World.onObj (((w.alloc (.cells (accC me 4 a (N y)) 264)).alloc (.cells (seenC 0 false) 93)).alloc (.cells ways0 318)) (w.heap.size + 1 + 1) (laidAt 0 (waysC (.agg (accC me 4 a (N y)))))).heap[w.heap.size + 1]? = some (.cells (seenC 0 false) 93 (0, 0)) := by
    rw [zab, if_neg (by omega), zac, if_neg (by simp), zac, if_pos (by simp)]
  have r0 := hkeep C0 hr
  have hrl : r < w.heap.size := (Array.getElem?_eq_some_iff.1 hr).1
  clear hr
  go_enter Tryz.func185, Tryz.ntmps185
  go_wp2_with fail
  generalize World.onObj (((w.alloc (.cells (accC me 4 a (N y)) 264)).alloc (.cells (seenC 0 false) 93)).alloc (.cells ways0 318)) (w.heap.size + 1 + 1) (laidAt 0 (waysC (.agg (accC me 4 a (N y))))) = W0 at *
  refine (aAdd_any 4 a x y r o cur W0 r0 ho).mono ?_
  rintro e w3 ⟨rfl, hc3, r3⟩
  have z3 : w3.heap[w.heap.size + 1]? = some (.cells (seenC 0 false) 93 (0, 0)) := (hc3.block _ (Array.getElem?_eq_some_iff.1 z0).1 (by simp; omega)).trans z0
  have C3 : Ch [r] w w3 := (C0.of_nil).trans hc3
  go_wp2
  refine bodyPost_ret (seen_result Tryz.results185 _ (w.heap.size + 1) _ (N x) true rfl ?_) rfl ⟨rfl, ?_, ?_⟩
  · simp [go_sem, z3]
  · exact C3.onObj (p := w.heap.size + 1) (.inr (by omega)) _
  · rw [zab, if_neg (by omega)]; exact r3
end Go.Proofs.Hc
namespace Go.Proofs.Hc
open Go.RowKit
def SelfEq (d : Nat) (T : TypeId) (v : Value) : Prop := ∀ w, (Op.equalIn d T v v).run Tryz.prog w = .ok true w
theorem self_int (d : Nat) (T : TypeId) (k k' : IntKind) (a : Int) (h : Tryz.prog.underlying T = some (.int k')) : SelfEq (d + 1) T (.int k a) := fun w => by
  rw [run_equalIn_int w d T k k' a a h, beq_self_eq_true]
theorem self_items {d c : Nat} {e : TypeId} {xs : Array Value} : ∀ (is : List Nat), (∀ i ∈ is, ∃ a, (∀ w, (part e xs (i * c)).run Tryz.prog w = .ok a w) ∧ SelfEq d e a) → ∀ w, (Op.eqItems d e c xs xs is).run Tryz.prog w = .ok true w
  | [], _, w => by simp [Op.eqItems]
  | i :: is, h, w => by
    obtain ⟨a, h1, h2⟩ := h i (by simp)
    have ih := self_items is (fun j hj => h j (by simp [hj])) w
    simp only [Op.eqItems, Sem.run_bind, h1, h2 w, Result.andThen_ok, Bool.not_true, Bool.false_eq_true, if_false, ih]
theorem self_fields {d : Nat} {xs : Array Value} : ∀ (fs : List Field), (∀ f ∈ fs, ∃ a, (∀ w, (part f.type xs f.offset).run Tryz.prog w = .ok a w) ∧ SelfEq d f.type a) → ∀ w, (Op.eqFields d xs xs fs).run Tryz.prog w = .ok true w
  | [], _, w => by simp [Op.eqFields]
  | f :: fs, h, w => by
    obtain ⟨a, h1, h2⟩ := h f (by simp)
    have ih := self_fields fs (fun j hj => h j (by simp [hj])) w
    simp only [Op.eqFields]
    split
    · simp only [Sem.run_bind, h1, h2 w, Result.andThen_ok, Bool.not_true, Bool.false_eq_true, if_false, ih]
    · exact ih
theorem part_int {T : TypeId} {k : IntKind} (h : Tryz.prog.underlying T = some (.int k)) {xs : Array Value} {off : Nat} {v : Value} (hx : xs[off]? = some v) (w : World) : (part T xs off).run Tryz.prog w = .ok v w :=
  run_part_plain w (by simp [Program.plainKey, h]) hx
theorem part_arr {T e : TypeId} {n : Nat} (h : Tryz.prog.underlying T = some (.array n e)) {i : TypeInfo} (hi : Tryz.prog.info? T = some i) (hs : Tryz.prog.cellsOf T = n) (xs : Array Value) (off : Nat) (w : World) : (part T xs off).run Tryz.prog w = .ok (.agg (xs.extract off (off + n))) w := by
  simp [part, isAgg, run_underlying h, run_sizeOf w hi, hs]
theorem self_words {d n : Nat} {T : TypeId} (h : Tryz.prog.underlying T = some (.array n 22)) (xs : Array Value) (hx : ∀ i, i < n → ∃ b : BitVec 64, xs[i]? = some (U b)) : SelfEq (d + 2) T (.agg xs) := fun w => by
  obtain ⟨i, hi⟩ : ∃ i, Tryz.prog.info? 22 = some i := info_of_underlying Tryz.underlying22
  rw [run_equalIn_array w (d + 1) xs xs h hi]
  have hc : Tryz.prog.cellsOf 22 = 1 := by kernel_rfl
  rw [hc]
  refine self_items _ (fun j hj => ?_) w
  obtain ⟨b, hb⟩ := hx j (by simpa using hj)
  exact ⟨U b, fun w => part_int Tryz.underlying22 (by rw [Nat.mul_one]; exact hb) w, self_int d _ _ _ _ Tryz.underlying22⟩
theorem c2_cells : Tryz.prog.cellsOf 23 = 2 := by kernel_rfl
theorem c16_cells : Tryz.prog.cellsOf 24 = 16 := by kernel_rfl
end Go.Proofs.Hc
namespace Go.Proofs.Hc
open Go.RowKit
theorem acc_fields : (Tryz.prog.fieldsOf 87).toList.map (fun f => (f.type, f.offset)) = [(3, 0), (3, 1), (3, 2), (22, 3), (22, 4)] := by kernel_rfl
theorem acc_under : Tryz.prog.underlying 87 = some (.struct (Tryz.prog.fieldsOf 87)) := by kernel_rfl
theorem acc_stood : Tryz.prog.stoodInHeld 87 = false := by kernel_rfl
theorem self_acc (d : Nat) (a b c e : Int) : SelfEq (d + 2) 87 (.agg (accC a b c e)) := fun w => by
  rw [run_equalIn_agg w (d + 1) 87 _ _ acc_under acc_stood]
  refine self_fields _ (fun f hf => ?_) w
  have hm : (f.type, f.offset) ∈ [(3, 0), (3, 1), (3, 2), (22, 3), (22, 4)] := by
    rw [← acc_fields]; exact List.mem_map.2 ⟨f, hf, rfl⟩
  generalize f.type = T at *
  generalize f.offset = o at *
  simp only [List.mem_cons, Prod.mk.injEq, List.not_mem_nil, or_false] at hm
  rcases hm with ⟨rfl, rfl⟩ | ⟨rfl, rfl⟩ | ⟨rfl, rfl⟩ | ⟨rfl, rfl⟩ | ⟨rfl, rfl⟩
  · exact ⟨I a, part_int Tryz.underlying3 rfl, self_int _ _ _ _ _ Tryz.underlying3⟩
  · exact ⟨I b, part_int Tryz.underlying3 rfl, self_int _ _ _ _ _ Tryz.underlying3⟩
  · exact ⟨I c, part_int Tryz.underlying3 rfl, self_int _ _ _ _ _ Tryz.underlying3⟩
  · exact ⟨.int .u64 0, part_int Tryz.underlying22 rfl, self_int _ _ _ _ _ Tryz.underlying22⟩
  · exact ⟨.int .u64 e, part_int Tryz.underlying22 rfl, self_int _ _ _ _ _ Tryz.underlying22⟩
theorem neq_acc (a b c e : Int) (w : World) : (binOp .neq 87 (.agg (accC a b c e)) (.agg (accC a b c e))).run Tryz.prog w = .ok (.bool false) w := by
  rw [run_neq_struct, self_acc 9998 a b c e w]; rfl
theorem guardAcc (op : BinOp) (x y : Operand) (xs ys : Array Value) (w : World) : (eqGuard op 87 x y (.agg xs) (.agg ys)).run Tryz.prog w = .ok () w := run_eqGuard_agg w op 87 x y xs ys (by kernel_rfl)
theorem zacc (w : World) : (w.alloc (.cells (accC 0 0 0 0) 87)).heap[w.heap.size]? = some (.cells (accC 0 0 0 0) 87 (0, 0)) := by rw [zac, if_pos rfl]
theorem zacc_ch (w : World) : Ch [] w (w.alloc (.cells (accC 0 0 0 0) 87)) := (Ch.refl [] w).alloc _
end Go.Proofs.Hc
