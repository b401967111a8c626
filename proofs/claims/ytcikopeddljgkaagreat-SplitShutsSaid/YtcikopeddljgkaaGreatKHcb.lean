/- Accesses as values: their cells. -/
import Derived.Test.YtcikopeddljgkaaGreatKHcz
set_option linter.unusedSimpArgs false
set_option linter.unusedVariables false
set_option maxHeartbeats 1000000
set_option maxRecDepth 100000
namespace Go.Proofs.Hc
open Go.RowKit
def accC (a b c d : Int) : Array Value := #[I a, I b, I c, .int .u64 0, .int .u64 d]
theorem zcu (a b c d : Int) : (accC a b c d).size = 5 := rfl
theorem accC_one (a b c d : Int) : allOne (accC a b c d) = true := by unfold allOne accC; simp [Value.oneCell']
theorem accC_all (a b c d : Int) : (accC a b c d).extract 0 5 = accC a b c d := by have := Array.extract_size (xs := accC a b c d); rwa [zcu] at this
theorem acc_g0 (a b c d : Int) : (accC a b c d)[0]? = some (I a) := rfl
theorem acc_g1 (a b c d : Int) : (accC a b c d)[1]? = some (I b) := rfl
theorem acc_g2 (a b c d : Int) : (accC a b c d)[2]? = some (I c) := rfl
theorem acc_g4 (a b c d : Int) : (accC a b c d)[4]? = some (.int .u64 d) := rfl
theorem acc_s0 (a b c d x : Int) : (accC a b c d).setIfInBounds 0 (I x) = accC x b c d := rfl
theorem acc_s1 (a b c d x : Int) : (accC a b c d).setIfInBounds 1 (I x) = accC a x c d := rfl
theorem acc_s2 (a b c d x : Int) : (accC a b c d).setIfInBounds 2 (I x) = accC a b x d := rfl
theorem acc_s4 (a b c d x : Int) : (accC a b c d).setIfInBounds 4 (.int .u64 x) = accC a b c x := rfl
theorem loadAcc (g o : Nat) (w : World) : (loadRow 87 ⟨g, o, none⟩).run Tryz.prog w = rowRes Tryz.prog 87 g o w ((w.heap[g]?).bind (rowAt o 5)) :=
  run_row Tryz.underlying87 rfl (by kernel_rfl) g o w
theorem storeAcc (g o : Nat) (vs : Array Value) (w : World) : (storeRow 87 ⟨g, o, none⟩ (.agg vs)).run Tryz.prog w = layRes Tryz.prog 87 g o vs w (((w.heap[g]?).map (canLay o 5 vs)).getD false) :=
  run_lay (by kernel_rfl) g o vs w
theorem lrowAcc (a : Addr) : loadVar 87 a = loadRow 87 a := rfl
theorem srowAcc (a : Addr) (v : Value) : storeVar 87 a v = storeRow 87 a v := rfl
theorem browAcc (ps : Array (Nat × Value)) : Instr.build 87 ps = buildRow 87 ps := rfl
theorem zct (w : World) : (zeroValue 87).run Tryz.prog w = .ok (.agg (accC 0 0 0 0)) w := by kernel_rfl
theorem bacc0 (w : World) : (buildRow 87 #[]).run Tryz.prog w = .ok (.agg (accC 0 0 0 0)) w := by kernel_rfl
theorem bacc2 (b c : Int) (w : World) : (buildRow 87 #[(1, I b), (2, I c)]).run Tryz.prog w = .ok (.agg (accC 0 b c 0)) w := by kernel_rfl
theorem bacc3 (a b c : Int) (w : World) : (buildRow 87 #[(0, I a), (1, I b), (2, I c)]).run Tryz.prog w = .ok (.agg (accC a b c 0)) w := by kernel_rfl
theorem bacc3u (b c d : Int) (w : World) : (buildRow 87 #[(1, I b), (2, I c), (4, .int .u64 d)]).run Tryz.prog w = .ok (.agg (accC 0 b c d)) w := by kernel_rfl
theorem bacc4 (a b c d : Int) (w : World) : (buildRow 87 #[(0, I a), (1, I b), (2, I c), (4, .int .u64 d)]).run Tryz.prog w = .ok (.agg (accC a b c d)) w := by kernel_rfl
theorem zce (a b c d a' b' c' d' : Int) (T : TypeId) (fr : Nat × Nat) : laidAt 0 (accC a b c d) (.cells (accC a' b' c' d') T fr) = .cells (accC a b c d) T fr := by
  rw [zag, zdf _ _ (by rw [zcu, zcu])]
theorem acc_result {fn : Func} {p : Tmp} (h : fn.results = #[.cell p 87]) (tmps : Array Value) (b : Nat) (w : World) (x y z u : Int) (hp : tmps.getD p undef = .pointer (some ⟨b, 0, none⟩))
    (hb : w.heap[b]? = some (.cells (accC x y z u) 87 (0, 0))) : (results fn tmps).run Tryz.prog w = .ok (.agg (accC x y z u)) w := by
  have hl := run_loadVar_row (P := Tryz.prog) w b 87 87 (accC x y z u) (0, 0) _ hb Tryz.underlying87 rfl (by rw [zcu]; kernel_rfl)
  have hp' : tmps[p]?.getD undef = .pointer (some ⟨b, 0, none⟩) := by simpa using hp
  simp [results, h, hp', asAddr, hl]
end Go.Proofs.Hc
namespace Go.Proofs.Hc
open Go.RowKit
attribute [local go_sem] zbr zby zau zba zbl zay zbk zbm zbu signed64 signed8 zas BitVec.ofInt_add BitVec.ofInt_mul ofInt_sub' zaw zax wide8 eqN neN zbx shr1 shr7 shr56
attribute [local go_sem high] zaz zbt
attribute [local go_sem] zan zbv zae zal zad zbd zao zag zbj zaj zbc zbe
attribute [local go_sem] load26 load73 load23 store26 build73
attribute [local go_sem ↓] lrow26 lrow73 lrow23 srow26 zero26 brow73 zab zav zbb zaa zac
attribute [local go_sem] zah zaq zat zbf zbg zbp zam zar zbq zbi zbh
attribute [local go_sem] nn2 nm2 nn3 nm3 nn4 nm4 nn5 nm5 nn6 nm6 nn7 nm7 nn8 nm8
section
attribute [local go_sem] acc_g0 acc_g1 acc_g2 acc_g4 acc_s0 acc_s1 acc_s2 acc_s4 zcu accC_one accC_all loadAcc storeAcc bacc0 bacc2 bacc3 bacc3u bacc4
attribute [local go_sem ↓] lrowAcc srowAcc browAcc zct
attribute [local go_sem high] zce
attribute [local irreducible] accC
theorem words_one (l : List (BitVec 64)) : ∀ v ∈ l.map (fun x => U x), v.oneCell' = true := by
  intro v hv
  obtain ⟨x, _, rfl⟩ := List.mem_map.1 hv
  rfl
theorem cOwn_any (l : List (BitVec 64)) (g c : Nat) (cur : Array Value) (w : World) (hl : l.length ≤ 9000) (hb : w.heap[g]? = some (.cells cur 22 (0, 0))) (hw : WordsAt cur l) :
    Calls Tryz.prog 184 #[.slice (some ⟨g, 0, none⟩) l.length c] w fun e w' => e = .returned (.slice (some ⟨w.heap.size, 0, none⟩) l.length l.length) ∧ w'.heap[w.heap.size]? = some (.cells (wcells l) 22 (0, 0)) ∧ Ch [] w w' := by
  have hm := fun w => run_make_row' (P := Tryz.prog) 44 22 (.int .u64 0) 8 Tryz.underlying44 infoU rfl .i64 .i64 l.length (by omega) (by omega) w
  have hgn : ¬ g = w.heap.size := by have := (Array.getElem?_eq_some_iff.1 hb).1; omega
  have hn : (w.alloc (.cells (madeCells #[.int .u64 0] l.length) 22)).heap[w.heap.size]? = some (.cells (madeCells #[.int .u64 0] l.length) 22 (0, 0)) := by rw [zab, if_pos rfl]
  have hlen : (l.map fun x => U x).length = l.length := List.length_map ..
  have hcp := run_copy_row (P := Tryz.prog) (w.alloc (.cells (madeCells #[.int .u64 0] l.length) 22)) 44 44 3 22 w.heap.size 0 l.length l.length ⟨g, 0, none⟩ l.length c (madeCells #[.int .u64 0] l.length) 22 (l.map fun x => U x) Tryz.underlying44 (by kernel_rfl) hn (by rw [hlen]; exact (Nat.min_self _).symm) (by
    intro j v hj
    rw [List.getElem?_map] at hj
    obtain ⟨x, hx, rfl⟩ := Option.map_eq_some_iff.1 hj
    rw [Addr.add_lit, zan, zab, if_neg hgn, hb, Option.bind_some, zae, Nat.zero_add]
    exact hw j x hx) (by rw [hlen, size_madeCells]; omega) (words_one l)
  have hrow : ((madeCells #[.int .u64 0] l.length).toList.take 0 ++ (l.map fun x => U x) ++ (madeCells #[.int .u64 0] l.length).toList.drop (0 + (l.map fun x => U x).length)).toArray = wcells l := by
    rw [List.take_zero, List.nil_append, List.drop_eq_nil_of_le (by rw [hlen, Array.length_toList, size_madeCells]; omega), List.append_nil]; rfl
  rw [hrow, hlen] at hcp
  have hh := setRow_heap (w.alloc (.cells (madeCells #[.int .u64 0] l.length) 22)) w.heap.size _ (wcells l) 22 (0, 0) hn
  have hC : Ch [] w ((w.alloc (.cells (madeCells #[.int .u64 0] l.length) 22)).setRow w.heap.size (wcells l)) := by
    refine ((Ch.refl [] w).alloc (.cells (madeCells #[.int .u64 0] l.length) 22)).trans2 (T := [w.heap.size]) ⟨rfl, rfl, rfl, by simp [World.setRow], fun k _ hk => setRow_other _ _ _ _ (by simpa using hk)⟩ (by simp)
  generalize (w.alloc (.cells (madeCells #[.int .u64 0] l.length) 22)).setRow w.heap.size (wcells l) = W2 at *
  clear hrow hn hb hw hgn
  go_enter Tryz.func184, Tryz.ntmps184
  go_wp2
  go_ret
  exact ⟨rfl, hh, hC⟩
end
end Go.Proofs.Hc
namespace Go.Proofs.Hc
open Go.RowKit
variable {me : Int}
attribute [local go_sem] zbr zby zau zba zbl zay zbk zbm zbu signed64 signed8 zas BitVec.ofInt_add BitVec.ofInt_mul ofInt_sub' zaw zax wide8 eqN neN zbx shr1 shr7 shr56
attribute [local go_sem high] zaz zbt
attribute [local go_sem] zan zbv zae zal zad zbd zao zag zbj zaj zbc zbe
attribute [local go_sem] load26 load73 load23 store26 build73
attribute [local go_sem ↓] lrow26 lrow73 lrow23 srow26 zero26 brow73 zab zav zbb zaa zac
attribute [local go_sem] zah zaq zat zbf zbg zbp zam zar zbq zbi zbh
attribute [local go_sem] nn2 nm2 nn3 nm3 nn4 nm4 nn5 nm5 nn6 nm6 nn7 nm7 nn8 nm8
attribute [local go_sem] acc_g0 acc_g1 acc_g2 acc_g4 acc_s0 acc_s1 acc_s2 acc_s4 zcu accC_one accC_all loadAcc storeAcc bacc0 bacc2 bacc3 bacc3u bacc4
attribute [local go_sem ↓] lrowAcc srowAcc browAcc zct
attribute [local go_sem high] zce
attribute [local go_sem] Oper.semAt_some zak
attribute [local irreducible] accC
theorem loadAcs (g o : Nat) (w : World) : (loadRow 264 ⟨g, o, none⟩).run Tryz.prog w = rowRes Tryz.prog 264 g o w ((w.heap[g]?).bind (rowAt o 5)) :=
  run_row Tryz.underlying264 rfl (by kernel_rfl) g o w
theorem storeAcs (g o : Nat) (vs : Array Value) (w : World) : (storeRow 264 ⟨g, o, none⟩ (.agg vs)).run Tryz.prog w = layRes Tryz.prog 264 g o vs w (((w.heap[g]?).map (canLay o 5 vs)).getD false) :=
  run_lay (by kernel_rfl) g o vs w
theorem lrowAcs (a : Addr) : loadVar 264 a = loadRow 264 a := rfl
theorem srowAcs (a : Addr) (v : Value) : storeVar 264 a v = storeRow 264 a v := rfl
theorem browAcs (ps : Array (Nat × Value)) : Instr.build 264 ps = buildRow 264 ps := rfl
theorem buildAcs (a b c d : Int) (w : World) : (buildRow 264 #[(0, .agg (accC a b c d))]).run Tryz.prog w = .ok (.agg (accC a b c d)) w := by kernel_rfl
theorem zeroAcs_run (w : World) : (zeroValue 264).run Tryz.prog w = .ok (.agg (accC 0 0 0 0)) w := by kernel_rfl
theorem boxAcs (a b c d : Int) (w : World) : (Instr.box 264 (.agg (accC a b c d))).run Tryz.prog w = .ok (.pointer (some ⟨w.heap.size, 0, none⟩)) (w.alloc (.cells (accC a b c d) 264)) := rfl
theorem boxAcc (a b c d : Int) (w : World) : (Instr.box 87 (.agg (accC a b c d))).run Tryz.prog w = .ok (.pointer (some ⟨w.heap.size, 0, none⟩)) (w.alloc (.cells (accC a b c d) 87)) := rfl
attribute [local go_sem] loadAcs storeAcs buildAcs boxAcs boxAcc
attribute [local go_sem ↓] lrowAcs srowAcs browAcs zeroAcs_run
theorem cCheck_ok (hm0 : 0 ≤ me) (hm7 : me < 8) (k a n d : Int) (hk : 1 ≤ k) (hk4 : k ≤ 4) (ha : 0 ≤ a) (hn : a < n) (hn1 : 1 ≤ n) (hn2 : n ≤ 8192) (w : World) : Calls Tryz.prog 183 #[.agg (accC me k a d), I n] w fun e w' => e = .returned (I 0) ∧ Ch [] w w' := by
  go_enter Tryz.func183, Tryz.ntmps183
  go_wp2
  go_ret
  exact ⟨rfl, (Ch.refl [] w).alloc _⟩
theorem cCheck_at (hm0 : 0 ≤ me) (hm7 : me < 8) (k a n d : Int) (hk : 1 ≤ k) (hk4 : k ≤ 4) (ha : 0 ≤ a) (hn : n ≤ a) (hn1 : 1 ≤ n) (hn2 : n ≤ 8192) (w : World) : Calls Tryz.prog 183 #[.agg (accC me k a d), I n] w fun e w' => e = .returned (I 2) ∧ Ch [] w w' := by
  go_enter Tryz.func183, Tryz.ntmps183
  go_wp2
  go_ret
  exact ⟨rfl, (Ch.refl [] w).alloc _⟩
theorem pLoad_any (r o : Nat) (x : BitVec 64) (w : World) (h : w.cell? ⟨r, o, none⟩ = some (U x)) : Calls Tryz.prog 337 #[.agg #[.slice (some ⟨r, o, none⟩) 1 1]] w fun e w' => e = .returned (U x) ∧ Ch [] w w' := by
  rw [zan] at h
  have hrn : ¬ r = w.heap.size := by
    intro e; rw [e, Array.getElem?_eq_none (Nat.le_refl _)] at h; cases h
  go_enter Tryz.func337, Tryz.ntmps337
  go_wp2
  go_ret
  exact ⟨rfl, (Ch.refl [] w).alloc _⟩
theorem pSwap_any (r o : Nat) (cur : Array Value) (x y : BitVec 64) (w : World) (hb : w.heap[r]? = some (.cells cur 22 (0, 0))) (h : cur[o]? = some (U x)) : Calls Tryz.prog 338 #[.agg #[.slice (some ⟨r, o, none⟩) 1 1], U x, U y] w fun e w' => e = .returned (.bool true) ∧ Ch [r] w w' ∧ w'.heap[r]? = some (.cells (cur.setIfInBounds o (U y)) 22 (0, 0)) := by
  have hrn : ¬ r = w.heap.size := by have := (Array.getElem?_eq_some_iff.1 hb).1; omega
  go_enter Tryz.func338, Tryz.ntmps338
  go_wp2
  go_ret
  refine ⟨rfl, ((Ch.refl [r] w).alloc _).setCell (p := ⟨r, o, none⟩) (.inl (by simp)) _, ?_⟩
  simp [go_sem, hb, hrn]
theorem meth_load (v : Value) (w : World) : (method 473 268 v "honeycomb/cells.load").run Tryz.prog w = .ok (337, v) w := by kernel_rfl
theorem meth_swap (v : Value) (w : World) : (method 473 268 v "honeycomb/cells.swap").run Tryz.prog w = .ok (338, v) w := by kernel_rfl
theorem loadSeen (g o : Nat) (w : World) : (loadRow 93 ⟨g, o, none⟩).run Tryz.prog w = rowRes Tryz.prog 93 g o w ((w.heap[g]?).bind (rowAt o 2)) :=
  run_row Tryz.underlying93 rfl (by kernel_rfl) g o w
theorem storeSeen (g o : Nat) (vs : Array Value) (w : World) : (storeRow 93 ⟨g, o, none⟩ (.agg vs)).run Tryz.prog w = layRes Tryz.prog 93 g o vs w (((w.heap[g]?).map (canLay o 2 vs)).getD false) :=
  run_lay (by kernel_rfl) g o vs w
theorem lrowSeen (a : Addr) : loadVar 93 a = loadRow 93 a := rfl
theorem srowSeen (a : Addr) (v : Value) : storeVar 93 a v = storeRow 93 a v := rfl
def seenC (x : Int) (b : Bool) : Array Value := #[.int .u64 x, .bool b]
theorem zcw (x : Int) (b : Bool) : (seenC x b).size = 2 := rfl
theorem seenC_one (x : Int) (b : Bool) : allOne (seenC x b) = true := by unfold allOne seenC; simp [Value.oneCell']
theorem seenC_all (x : Int) (b : Bool) : (seenC x b).extract 0 2 = seenC x b := by have := Array.extract_size (xs := seenC x b); rwa [zcw] at this
theorem seenC_g0 (x : Int) (b : Bool) : (seenC x b)[0]? = some (.int .u64 x) := rfl
theorem browSeen (ps : Array (Nat × Value)) : Instr.build 93 ps = buildRow 93 ps := rfl
theorem buildSeen (x : Int) (b : Bool) (w : World) : (buildRow 93 #[(0, .int .u64 x), (1, .bool b)]).run Tryz.prog w = .ok (.agg (seenC x b)) w := by kernel_rfl
theorem buildSeen0 (w : World) : (buildRow 93 #[]).run Tryz.prog w = .ok (.agg (seenC 0 false)) w := by kernel_rfl
theorem zdk (w : World) : (zeroValue 93).run Tryz.prog w = .ok (.agg (seenC 0 false)) w := by kernel_rfl
theorem zcq (x y : Int) (b c : Bool) (T : TypeId) (fr : Nat × Nat) : laidAt 0 (seenC x b) (.cells (seenC y c) T fr) = .cells (seenC x b) T fr := by
  rw [zag, zdf _ _ (by rw [zcw, zcw])]
theorem seen_result {fn : Func} {p : Tmp} (h : fn.results = #[.cell p 93]) (tmps : Array Value) (b : Nat) (w : World) (x : Int) (d : Bool) (hp : tmps.getD p undef = .pointer (some ⟨b, 0, none⟩))
    (hb : w.heap[b]? = some (.cells (seenC x d) 93 (0, 0))) : (results fn tmps).run Tryz.prog w = .ok (.agg (seenC x d)) w := by
  have hl := run_loadVar_row (P := Tryz.prog) w b 93 93 (seenC x d) (0, 0) _ hb Tryz.underlying93 rfl (by rw [zcw]; kernel_rfl)
  have hp' : tmps[p]?.getD undef = .pointer (some ⟨b, 0, none⟩) := by simpa using hp
  simp [results, h, hp', asAddr, hl]
attribute [local go_sem] meth_load meth_swap
attribute [local go_sem] zcw seenC_one seenC_all seenC_g0 loadSeen storeSeen buildSeen buildSeen0
attribute [local go_sem ↓] lrowSeen srowSeen browSeen zdk
attribute [local go_sem high] zcq
attribute [local irreducible] seenC
theorem aLoad_any (k a d : Int) (r o : Nat) (x : BitVec 64) (w : World) (h : w.cell? ⟨r, o, none⟩ = some (U x)) : Calls Tryz.prog 235 #[.agg (accC me k a d), .iface 268 (.agg #[.slice (some ⟨r, o, none⟩) 1 1])] w fun e w' => e = .returned (.agg (seenC (N x) true)) ∧ Ch [] w w' := by
  have C0 : Ch [] w ((w.alloc (.cells (accC me k a d) 264)).alloc (.cells (seenC 0 false) 93)) := ((Ch.refl [] w).alloc _).alloc _
  have z0 : ((w.alloc (.cells (accC me k a d) 264)).alloc (.cells (seenC 0 false) 93)).heap[w.heap.size + 1]? = some (.cells (seenC 0 false) 93 (0, 0)) := by rw [zab, if_pos (by simp)]
  have hr : r < w.heap.size := by
    rw [zan] at h
    rcases Nat.lt_or_ge r w.heap.size with h1 | h1
    · exact h1
    · rw [Array.getElem?_eq_none h1] at h; cases h
  have h0 := (C0.cell r o hr).trans h
  have P1 := fun w h => pLoad_any r o x w h
  clear hr h
  go_enter Tryz.func235, Tryz.ntmps235
  go_wp2_with fail
  generalize (w.alloc (.cells (accC me k a d) 264)).alloc (.cells (seenC 0 false) 93) = W0 at *
  refine (P1 _ h0).mono ?_
  rintro e w1 ⟨rfl, hc1⟩
  have z1 := hkeep hc1 z0
  go_wp2
  refine bodyPost_ret (seen_result Tryz.results235 _ (w.heap.size + 1) _ (N x) true rfl ?_) rfl ⟨rfl, ?_⟩
  · simp [go_sem, z1]
  · exact (C0.trans hc1).onObj (p := w.heap.size + 1) (.inr (by omega)) _
end Go.Proofs.Hc
