/- Package cells: change, store, add, does. -/
import Derived.Test.YtcikopeddljgkaaGreatKHcb
import Derived.Test.YtcikopeddljgkaaGreatK0
set_option linter.unusedSimpArgs false
set_option linter.unusedVariables false
set_option maxHeartbeats 2000000
set_option maxRecDepth 100000
namespace Go.Proofs.Hc
open Go.RowKit
variable {me : Int}
attribute [local go_sem] zbr zby zau zba zbl zay zbk zbm zbu signed64 signed8 zas BitVec.ofInt_add BitVec.ofInt_mul ofInt_sub' zaw zax wide8 eqN neN zbx shr1 shr7 shr56
attribute [local go_sem high] zaz zbt
attribute [local go_sem] zan zbv zae zal zad zbd zao zag zbj zaj zbc zbe
attribute [local go_sem] load26 load73 load23 store26 build73
attribute [local go_sem ↓] lrow26 lrow73 lrow23 srow26 zero26 brow73 zab zav zbb zaa zac
attribute [local go_sem] zah zaq zat zbf zbg zbp zam zar zbq zbi zbh
attribute [local go_sem] nn2 nm2 nn3 nm3 nn4 nm4 nn5 nm5 nn6 nm6 nn7 nm7 nn8 nm8
attribute [local go_sem] acc_g0 acc_g1 acc_g2 acc_g4 acc_s0 acc_s1 acc_s2 acc_s4 zcu accC_one accC_all loadAcc storeAcc bacc0 bacc2 bacc3 bacc3u bacc4
attribute [local go_sem ↓] lrowAcc srowAcc browAcc zct
attribute [local go_sem high] zce
attribute [local go_sem] loadAcs storeAcs buildAcs boxAcs boxAcc meth_load meth_swap
attribute [local go_sem ↓] lrowAcs srowAcs browAcs zeroAcs_run
attribute [local go_sem] zcw seenC_one seenC_all seenC_g0 loadSeen storeSeen buildSeen buildSeen0
attribute [local go_sem ↓] lrowSeen srowSeen browSeen zdk
attribute [local go_sem high] zcq
attribute [local irreducible] seenC
attribute [local go_sem] Oper.semAt_some zak zas
attribute [local irreducible] accC
theorem nil_swap (v : Value) (w : World) : (nilAhead 473 268 (.agg #[v]) "honeycomb/cells.swap").run Tryz.prog w = .ok (some false) w := by kernel_rfl
attribute [local go_sem] nil_swap
theorem toStore_any (k a : Int) (x y : BitVec 64) (b : Nat) (w : World) (hb : w.heap[b]? = some (.cells (accC me k a (N y)) 264 (0, 0))) : Calls Tryz.prog 283 #[U x, .pointer (some ⟨b, 0, none⟩)] w fun e w' => e = .returned (U y) ∧ w = w' := by
  go_enter Tryz.func283, Tryz.ntmps283
  go_wp2
  go_ret
  exact ⟨rfl, rfl⟩
theorem toAdd_any (k a : Int) (x y : BitVec 64) (b : Nat) (w : World) (hb : w.heap[b]? = some (.cells (accC me k a (N y)) 264 (0, 0))) : Calls Tryz.prog 284 #[U x, .pointer (some ⟨b, 0, none⟩)] w fun e w' => e = .returned (U (x + y)) ∧ w = w' := by
  go_enter Tryz.func284, Tryz.ntmps284
  go_wp2
  go_ret
  exact ⟨rfl, rfl⟩
theorem change_any (k : Nat) (kd a d : Int) (x z : BitVec 64) (B0 r o : Nat) (cur bc : Array Value) (w : World) (hr : w.heap[r]? = some (.cells cur 22 (0, 0))) (ho : cur[o]? = some (U x)) (hb : w.heap[B0]? = some (.cells bc 264 (0, 0)))
    (hdf : ∀ args w, (callFunc k args).run Tryz.prog w = .ok (.enter k args) w)
    (hto : ∀ W : World, W.heap[B0]? = some (.cells bc 264 (0, 0)) → Calls Tryz.prog k #[U x, .pointer (some ⟨B0, 0, none⟩)] W fun e w' => e = .returned (U z) ∧ W = w') :
    Calls Tryz.prog 282 #[.agg (accC me kd a d), .iface 268 (.agg #[.slice (some ⟨r, o, none⟩) 1 1]), .func (.func k) #[] #[.pointer (some ⟨B0, 0, none⟩)]] w fun e w' => e = .returned (.agg (seenC (N x) true)) ∧ Ch [r] w w' ∧ w'.heap[r]? = some (.cells (cur.setIfInBounds o (U z)) 22 (0, 0)) := by
  have C0 : Ch [] w ((w.alloc (.cells (accC me kd a d) 264)).alloc (.cells (seenC 0 false) 93)) := ((Ch.refl [] w).alloc _).alloc _
  have z0 : ((w.alloc (.cells (accC me kd a d) 264)).alloc (.cells (seenC 0 false) 93)).heap[w.heap.size + 1]? = some (.cells (seenC 0 false) 93 (0, 0)) := by rw [zab, if_pos (by simp)]
  have r0 := hkeep C0 hr
  have b0 := hkeep C0 hb
  have hrl : r < w.heap.size := (Array.getElem?_eq_some_iff.1 hr).1
  have P1 := fun w (h : w.heap[r]? = some (.cells cur 22 (0, 0))) => pLoad_any r o x w (by rw [zan, h]; exact ho)
  have S1 := fun w (h : w.heap[r]? = some (.cells cur 22 (0, 0))) => pSwap_any r o cur x z w h ho
  clear hr hb ho
  go_enter Tryz.func282, Tryz.ntmps282
  go_wp2
  go_step3
  go_wp2
  generalize (w.alloc (.cells (accC me kd a d) 264)).alloc (.cells (seenC 0 false) 93) = W0 at *
  go_step3
  go_wp2
  refine wp_loop_rounds 1 ?_
  rw [rounds_succ]
  go_wp2_with fail
  refine (P1 _ r0).mono ?_
  rintro e w1 ⟨rfl, hc1⟩
  have z1 := hkeep hc1 z0
  have r1 := hkeep hc1 r0
  have b1 := hkeep hc1 b0
  have C1 := C0.trans hc1
  clear z0 r0 b0 C0 hc1 P1
  go_wp2
  refine wp_region_held_drew (S := fun _ => True) (by kernel_rfl) trivial ?_
  intro _
  simp only [List.size_toArray, List.length_cons, List.length_nil, Nat.reduceAdd]
  have z2 : w1.drew.heap[w.heap.size + 1]? = _ := z1
  have r2 : w1.drew.heap[r]? = _ := r1
  have b2 : w1.drew.heap[B0]? = _ := b1
  have C2 : Ch [] w w1.drew := C1.drew
  clear z1 r1 b1 C1
  generalize w1.drew = w2 at *
  refine tk 0 10 ?_ rfl trivial ?_ ?_; rotate_left
  · intro _ _; go_simp; try with_reducible rfl
  try go_frame
  refine tk 1 11 ?_ rfl trivial ?_ ?_; rotate_left
  · intro _ _; go_simp; try with_reducible rfl
  try go_frame
  refine tk 2 12 ?_ rfl trivial ?_ ?_; rotate_left
  · intro _ _; go_simp; try with_reducible rfl
  try go_frame
  refine tk 3 13 ?_ rfl trivial ?_ ?_; rotate_left
  · intro _ _; go_simp; try with_reducible rfl
  try go_frame
  refine tk 5 15 ?_ rfl trivial ?_ ?_; rotate_left
  · intro _ _; go_simp; try with_reducible rfl
  try go_frame
  refine tk 6 16 ?_ rfl trivial ?_ ?_; rotate_left
  · intro _ _; go_simp; try with_reducible rfl
  try go_frame
  refine tk 7 17 ?_ rfl trivial ?_ ?_; rotate_left
  · intro _ _; go_simp; try with_reducible rfl
  try go_frame
  refine rd 4 rfl (fun K hK => ?_); go_simp
  refine (hto _ b2).mono ?_
  rintro e w' ⟨rfl, rfl⟩
  refine hK.out _ _ trivial (fun _ => ?_)
  clear hK K
  refine rd 8 rfl (fun K hK => ?_); go_simp
  refine (S1 _ r2).mono ?_
  rintro e w3 ⟨rfl, hc3, r3⟩
  refine hK.out _ _ trivial (fun _ => ?_)
  clear hK K
  have z3 : w3.heap[w.heap.size + 1]? = some (.cells (seenC 0 false) 93 (0, 0)) := (hc3.block _ (Array.getElem?_eq_some_iff.1 z2).1 (by simp; omega)).trans z2
  have C3 : Ch [r] w w3 := (C2.of_nil).trans hc3
  refine wpAnyH_done (by kernel_rfl) ?_ _
  go_wp2
  rw [Exit.noGoto_ret]
  refine bodyPost_ret (seen_result Tryz.results282 _ (w.heap.size + 1) _ (N x) true rfl ?_) rfl ⟨rfl, ?_, ?_⟩
  · simp [go_sem, z3]
  · exact C3.onObj (p := w.heap.size + 1) (.inr (by omega)) _
  · rw [zac, if_neg (by omega)]; exact r3
end Go.Proofs.Hc
namespace Go.Proofs.Hc
open Go.RowKit
variable {me : Int}
attribute [local go_sem] zbr zby zau zba zbl zay zbk zbm zbu signed64 signed8 zas BitVec.ofInt_add BitVec.ofInt_mul ofInt_sub' zaw zax wide8 eqN neN zbx shr1 shr7 shr56
attribute [local go_sem high] zaz zbt
attribute [local go_sem] zan zbv zae zal zad zbd zao zag zbj zaj zbc zbe
attribute [local go_sem] load26 load73 load23 store26 build73
attribute [local go_sem ↓] lrow26 lrow73 lrow23 srow26 zero26 brow73 zab zav zbb zaa zac
attribute [local go_sem] zah zaq zat zbf zbg zbp zam zar zbq zbi zbh
attribute [local go_sem] nn2 nm2 nn3 nm3 nn4 nm4 nn5 nm5 nn6 nm6 nn7 nm7 nn8 nm8
attribute [local go_sem] acc_g0 acc_g1 acc_g2 acc_g4 acc_s0 acc_s1 acc_s2 acc_s4 zcu accC_one accC_all loadAcc storeAcc bacc0 bacc2 bacc3 bacc3u bacc4
attribute [local go_sem ↓] lrowAcc srowAcc browAcc zct
attribute [local go_sem high] zce
attribute [local go_sem] loadAcs storeAcs buildAcs boxAcs boxAcc meth_load meth_swap
attribute [local go_sem ↓] lrowAcs srowAcs browAcs zeroAcs_run
attribute [local go_sem] zcw seenC_one seenC_all seenC_g0 loadSeen storeSeen buildSeen buildSeen0
attribute [local go_sem ↓] lrowSeen srowSeen browSeen zdk
attribute [local go_sem high] zcq
attribute [local irreducible] seenC
attribute [local go_sem] Oper.semAt_some zak zas
attribute [local irreducible] accC
def DoesPost (w : World) (r o : Nat) (cur : Array Value) (x z : BitVec 64) (e : Ending) (w' : World) : Prop := e = .returned (.agg (seenC (N x) true)) ∧ Ch [r] w w' ∧ w'.heap[r]? = some (.cells (cur.setIfInBounds o (U z)) 22 (0, 0))
theorem set_same (cur : Array Value) (o : Nat) (v : Value) (h : cur[o]? = some v) : cur.setIfInBounds o v = cur := by
  apply Array.ext_getElem?
  intro i
  rw [Array.getElem?_setIfInBounds]
  by_cases e : o = i
  · subst e
    have := (Array.getElem?_eq_some_iff.1 h).1
    rw [if_pos rfl, if_pos this, h]
  · rw [if_neg e]
theorem aStore_any (kd a : Int) (x y : BitVec 64) (r o : Nat) (cur : Array Value) (w : World) (hr : w.heap[r]? = some (.cells cur 22 (0, 0))) (ho : cur[o]? = some (U x)) :
    Calls Tryz.prog 236 #[.agg (accC me kd a (N y)), .iface 268 (.agg #[.slice (some ⟨r, o, none⟩) 1 1])] w (DoesPost w r o cur x y) := by
  have C0 : Ch [] w ((w.alloc (.cells (accC me kd a (N y)) 264)).alloc (.cells (seenC 0 false) 93)) := ((Ch.refl [] w).alloc _).alloc _
  have z0 : ((w.alloc (.cells (accC me kd a (N y)) 264)).alloc (.cells (seenC 0 false) 93)).heap[w.heap.size + 1]? = some (.cells (seenC 0 false) 93 (0, 0)) := by rw [zab, if_pos (by simp)]
  have b0 : ((w.alloc (.cells (accC me kd a (N y)) 264)).alloc (.cells (seenC 0 false) 93)).heap[w.heap.size]? = some (.cells (accC me kd a (N y)) 264 (0, 0)) := by rw [zab, if_neg (by simp), zab, if_pos rfl]
  have r0 := hkeep C0 hr
  have hrl : r < w.heap.size := (Array.getElem?_eq_some_iff.1 hr).1
  clear hr
  go_enter Tryz.func236, Tryz.ntmps236
  go_wp2_with fail
  generalize (w.alloc (.cells (accC me kd a (N y)) 264)).alloc (.cells (seenC 0 false) 93) = W0 at *
  refine (change_any 283 kd a (N y) x y w.heap.size r o cur (accC me kd a (N y)) W0 r0 ho b0 Tryz.call283 (fun W h => toStore_any kd a x y w.heap.size W h)).mono ?_
  rintro e w3 ⟨rfl, hc3, r3⟩
  have z3 : w3.heap[w.heap.size + 1]? = some (.cells (seenC 0 false) 93 (0, 0)) := (hc3.block _ (Array.getElem?_eq_some_iff.1 z0).1 (by simp; omega)).trans z0
  have C3 : Ch [r] w w3 := (C0.of_nil).trans hc3
  go_wp2
  refine bodyPost_ret (seen_result Tryz.results236 _ (w.heap.size + 1) _ (N x) true rfl ?_) rfl ⟨rfl, ?_, ?_⟩
  · simp [go_sem, z3]
  · exact C3.onObj (p := w.heap.size + 1) (.inr (by omega)) _
  · rw [zac, if_neg (by omega)]; exact r3
theorem aAdd_any (kd a : Int) (x y : BitVec 64) (r o : Nat) (cur : Array Value) (w : World) (hr : w.heap[r]? = some (.cells cur 22 (0, 0))) (ho : cur[o]? = some (U x)) :
    Calls Tryz.prog 238 #[.agg (accC me kd a (N y)), .iface 268 (.agg #[.slice (some ⟨r, o, none⟩) 1 1])] w (DoesPost w r o cur x (x + y)) := by
  have C0 : Ch [] w ((w.alloc (.cells (accC me kd a (N y)) 264)).alloc (.cells (seenC 0 false) 93)) := ((Ch.refl [] w).alloc _).alloc _
  have z0 : ((w.alloc (.cells (accC me kd a (N y)) 264)).alloc (.cells (seenC 0 false) 93)).heap[w.heap.size + 1]? = some (.cells (seenC 0 false) 93 (0, 0)) := by rw [zab, if_pos (by simp)]
  have b0 : ((w.alloc (.cells (accC me kd a (N y)) 264)).alloc (.cells (seenC 0 false) 93)).heap[w.heap.size]? = some (.cells (accC me kd a (N y)) 264 (0, 0)) := by rw [zab, if_neg (by simp), zab, if_pos rfl]
  have r0 := hkeep C0 hr
  have hrl : r < w.heap.size := (Array.getElem?_eq_some_iff.1 hr).1
  clear hr
  go_enter Tryz.func238, Tryz.ntmps238
  go_wp2_with fail
  generalize (w.alloc (.cells (accC me kd a (N y)) 264)).alloc (.cells (seenC 0 false) 93) = W0 at *
  refine (change_any 284 kd a (N y) x (x + y) w.heap.size r o cur (accC me kd a (N y)) W0 r0 ho b0 Tryz.call284 (fun W h => toAdd_any kd a x y w.heap.size W h)).mono ?_
  rintro e w3 ⟨rfl, hc3, r3⟩
  have z3 : w3.heap[w.heap.size + 1]? = some (.cells (seenC 0 false) 93 (0, 0)) := (hc3.block _ (Array.getElem?_eq_some_iff.1 z0).1 (by simp; omega)).trans z0
  have C3 : Ch [r] w w3 := (C0.of_nil).trans hc3
  go_wp2
  refine bodyPost_ret (seen_result Tryz.results238 _ (w.heap.size + 1) _ (N x) true rfl ?_) rfl ⟨rfl, ?_, ?_⟩
  · simp [go_sem, z3]
  · exact C3.onObj (p := w.heap.size + 1) (.inr (by omega)) _
  · rw [zac, if_neg (by omega)]; exact r3
def waysC (a : Value) : Array Value := #[.nilFunc, .func (.func 235) #[a] #[], .func (.func 236) #[a] #[], .func (.func 237) #[a] #[], .func (.func 238) #[a] #[]]
theorem waysC_size (a : Value) : (waysC a).size = 5 := rfl
theorem waysC_one (a : Value) : allOne (waysC a) = true := by unfold allOne waysC; simp [Value.oneCell']
theorem waysC_1 (a : Value) : (waysC a)[1]? = some (.func (.func 235) #[a] #[]) := rfl
theorem waysC_2 (a : Value) : (waysC a)[2]? = some (.func (.func 236) #[a] #[]) := rfl
theorem waysC_4 (a : Value) : (waysC a)[4]? = some (.func (.func 238) #[a] #[]) := rfl
def ways0 : Array Value := #[.nilFunc, .nilFunc, .nilFunc, .nilFunc, .nilFunc]
theorem ways0_size : ways0.size = 5 := rfl
theorem brow252 (ps : Array (Nat × Value)) : Instr.build 318 ps = buildRow 318 ps := rfl
theorem build252 (x y z u : Int) (w : World) : (buildRow 318 #[(1, .func (.func 235) #[.agg (accC x y z u)] #[]), (2, .func (.func 236) #[.agg (accC x y z u)] #[]), (3, .func (.func 237) #[.agg (accC x y z u)] #[]), (4, .func (.func 238) #[.agg (accC x y z u)] #[])]).run Tryz.prog w = .ok (.agg (waysC (.agg (accC x y z u)))) w := by kernel_rfl
theorem zero252_run (w : World) : (zeroValue 318).run Tryz.prog w = .ok (.agg ways0) w := by kernel_rfl
theorem store252 (g o : Nat) (vs : Array Value) (w : World) : (storeRow 318 ⟨g, o, none⟩ (.agg vs)).run Tryz.prog w = layRes Tryz.prog 318 g o vs w (((w.heap[g]?).map (canLay o 5 vs)).getD false) :=
  run_lay (by kernel_rfl) g o vs w
theorem srow252 (a : Addr) (v : Value) : storeVar 318 a v = storeRow 318 a v := rfl
theorem laidAt_252 (a : Value) (t : TypeId) (fr : Nat × Nat) : laidAt 0 (waysC a) (.cells ways0 t fr) = .cells (waysC a) t fr := by
  rw [zag, zdf _ _ (by rw [ways0_size, waysC_size])]
attribute [local go_sem] build252 store252 waysC_one waysC_size ways0_size waysC_1 waysC_2 waysC_4
attribute [local go_sem ↓] brow252 zero252_run srow252
attribute [local go_sem high] laidAt_252
attribute [local irreducible] waysC ways0
theorem does_1 (a : Int) (d : Int) (x : BitVec 64) (r o : Nat) (cur : Array Value) (w : World) (hr : w.heap[r]? = some (.cells cur 22 (0, 0))) (ho : cur[o]? = some (U x)) :
    Calls Tryz.prog 185 #[.agg (accC me 1 a d), .iface 268 (.agg #[.slice (some ⟨r, o, none⟩) 1 1])] w (DoesPost w r o cur x x) := by
  have C0 : Ch [] w (World.onObj (((w.alloc (.cells (accC me 1 a d) 264)).alloc (.cells (seenC 0 false) 93)).alloc (.cells ways0 318)) (w.heap.size + 1 + 1) (laidAt 0 (waysC (.agg (accC me 1 a d))))) := ((((Ch.refl [] w).alloc _).alloc _).alloc _).onObj (p := w.heap.size + 1 + 1) (.inr (by omega)) _
  have z0 : (World.onObj (((w.alloc (.cells (accC me 1 a d) 264)).alloc (.cells (seenC 0 false) 93)).alloc (.cells ways0 318)) (w.heap.size + 1 + 1) (laidAt 0 (waysC (.agg (accC me 1 a d))))).heap[w.heap.size + 1]? = some (.cells (seenC 0 false) 93 (0, 0)) := by
    rw [zac, if_neg (by omega), zab, if_neg (by simp), zab, if_pos (by simp)]
  have r0 := hkeep C0 hr
  have hrl : r < w.heap.size := (Array.getElem?_eq_some_iff.1 hr).1
  clear hr
  go_enter Tryz.func185, Tryz.ntmps185
  go_wp2_with fail
  generalize World.onObj (((w.alloc (.cells (accC me 1 a d) 264)).alloc (.cells (seenC 0 false) 93)).alloc (.cells ways0 318)) (w.heap.size + 1 + 1) (laidAt 0 (waysC (.agg (accC me 1 a d)))) = W0 at *
  refine (aLoad_any 1 a d r o x W0 (by rw [zan, r0]; exact ho)).mono ?_
  rintro e w3 ⟨rfl, hc3'⟩
  have hc3 : Ch [r] W0 w3 := hc3'.of_nil
  have r3 : w3.heap[r]? = some (.cells (cur.setIfInBounds o (U x)) 22 (0, 0)) := by rw [set_same cur o (U x) ho]; exact hkeep hc3' r0
  have z3 : w3.heap[w.heap.size + 1]? = some (.cells (seenC 0 false) 93 (0, 0)) := (hc3.block _ (Array.getElem?_eq_some_iff.1 z0).1 (by simp; omega)).trans z0
  have C3 : Ch [r] w w3 := (C0.of_nil).trans hc3
  go_wp2
  refine bodyPost_ret (seen_result Tryz.results185 _ (w.heap.size + 1) _ (N x) true rfl ?_) rfl ⟨rfl, ?_, ?_⟩
  · simp [go_sem, z3]
  · exact C3.onObj (p := w.heap.size + 1) (.inr (by omega)) _
  · rw [zac, if_neg (by omega)]; exact r3
theorem does_2 (a : Int) (y : BitVec 64) (x : BitVec 64) (r o : Nat) (cur : Array Value) (w : World) (hr : w.heap[r]? = some (.cells cur 22 (0, 0))) (ho : cur[o]? = some (U x)) :
    Calls Tryz.prog 185 #[.agg (accC me 2 a (N y)), .iface 268 (.agg #[.slice (some ⟨r, o, none⟩) 1 1])] w (DoesPost w r o cur x y) := by
  have C0 : Ch [] w (World.onObj (((w.alloc (.cells (accC me 2 a (N y)) 264)).alloc (.cells (seenC 0 false) 93)).alloc (.cells ways0 318)) (w.heap.size + 1 + 1) (laidAt 0 (waysC (.agg (accC me 2 a (N y)))))) := ((((Ch.refl [] w).alloc _).alloc _).alloc _).onObj (p := w.heap.size + 1 + 1) (.inr (by omega)) _
  have z0 : (World.onObj (((w.alloc (.cells (accC me 2 a (N y)) 264)).alloc (.cells (seenC 0 false) 93)).alloc (.cells ways0 318)) (w.heap.size + 1 + 1) (laidAt 0 (waysC (.agg (accC me 2 a (N y)))))).heap[w.heap.size + 1]? = some (.cells (seenC 0 false) 93 (0, 0)) := by
    rw [zac, if_neg (by omega), zab, if_neg (by simp), zab, if_pos (by simp)]
  have r0 := hkeep C0 hr
  have hrl : r < w.heap.size := (Array.getElem?_eq_some_iff.1 hr).1
  clear hr
  go_enter Tryz.func185, Tryz.ntmps185
  go_wp2_with fail
  generalize World.onObj (((w.alloc (.cells (accC me 2 a (N y)) 264)).alloc (.cells (seenC 0 false) 93)).alloc (.cells ways0 318)) (w.heap.size + 1 + 1) (laidAt 0 (waysC (.agg (accC me 2 a (N y))))) = W0 at *
  refine (aStore_any 2 a x y r o cur W0 r0 ho).mono ?_
  rintro e w3 ⟨rfl, hc3, r3⟩
  have z3 : w3.heap[w.heap.size + 1]? = some (.cells (seenC 0 false) 93 (0, 0)) := (hc3.block _ (Array.getElem?_eq_some_iff.1 z0).1 (by simp; omega)).trans z0
  have C3 : Ch [r] w w3 := (C0.of_nil).trans hc3
  go_wp2
  refine bodyPost_ret (seen_result Tryz.results185 _ (w.heap.size + 1) _ (N x) true rfl ?_) rfl ⟨rfl, ?_, ?_⟩
  · simp [go_sem, z3]
  · exact C3.onObj (p := w.heap.size + 1) (.inr (by omega)) _
  · rw [zac, if_neg (by omega)]; exact r3
theorem does_4 (a : Int) (y : BitVec 64) (x : BitVec 64) (r o : Nat) (cur : Array Value) (w : World) (hr : w.heap[r]? = some (.cells cur 22 (0, 0))) (ho : cur[o]? = some (U x)) :
    Calls Tryz.prog 185 #[.agg (accC me 4 a (N y)), .iface 268 (.agg #[.slice (some ⟨r, o, none⟩) 1 1])] w (DoesPost w r o cur x (x + y)) := by
  have C0 : Ch [] w (World.onObj (((w.alloc (.cells (accC me 4 a (N y)) 264)).alloc (.cells (seenC 0 false) 93)).alloc (.cells ways0 318)) (w.heap.size + 1 + 1) (laidAt 0 (waysC (.agg (accC me 4 a (N y)))))) := ((((Ch.refl [] w).alloc _).alloc _).alloc _).onObj (p := w.heap.size + 1 + 1) (.inr (by omega)) _
  have z0 : (World.onObj (((w.alloc (.cells (accC me 4 a (N y)) 264)).alloc (.cells (seenC 0 false) 93)).alloc (.cells ways0 318)) (w.heap.size + 1 + 1) (laidAt 0 (waysC (.agg (accC me 4 a (N y)))))).heap[w.heap.size + 1]? = some (.cells (seenC 0 false) 93 (0, 0)) := by
    rw [zac, if_neg (by omega), zab, if_neg (by simp), zab, if_pos (by simp)]
  have r0 := hkeep C0 hr
  have hrl : r < w.heap.size := (Array.getElem?_eq_some_iff.1 hr).1
  clear hr
  go_enter Tryz.func185, Tryz.ntmps185
  go_wp2_with fail
  generalize World.onObj (((w.alloc (.cells (accC me 4 a (N y)) 264)).alloc (.cells (seenC 0 false) 93)).alloc (.cells ways0 318)) (w.heap.size + 1 + 1) (laidAt 0 (waysC (.agg (accC me 4 a (N y))))) = W0 at *
  refine (aAdd_any 4 a x y r o cur W0 r0 ho).mono ?_
  rintro e w3 ⟨rfl, hc3, r3⟩
  have z3 : w3.heap[w.heap.size + 1]? = some (.cells (seenC 0 false) 93 (0, 0)) := (hc3.block _ (Array.getElem?_eq_some_iff.1 z0).1 (by simp; omega)).trans z0
  have C3 : Ch [r] w w3 := (C0.of_nil).trans hc3
  go_wp2
  refine bodyPost_ret (seen_result Tryz.results185 _ (w.heap.size + 1) _ (N x) true rfl ?_) rfl ⟨rfl, ?_, ?_⟩
  · simp [go_sem, z3]
  · exact C3.onObj (p := w.heap.size + 1) (.inr (by omega)) _
  · rw [zac, if_neg (by omega)]; exact r3
end Go.Proofs.Hc
