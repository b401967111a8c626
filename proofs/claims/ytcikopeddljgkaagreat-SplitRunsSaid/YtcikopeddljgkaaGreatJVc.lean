/- Accesses as values: their cells. -/
import Derived.Test.YtcikopeddljgkaaGreatJPe
set_option linter.unusedSimpArgs false
set_option linter.unusedVariables false
set_option maxHeartbeats 1000000
set_option maxRecDepth 100000
namespace Go.Proofs.Hc
open Go.RowKit
def accC (a b c d : Int) : Array Value := #[I a, I b, I c, .int .u64 0, .int .u64 d]
theorem accC_size (a b c d : Int) : (accC a b c d).size = 5 := rfl
theorem accC_one (a b c d : Int) : allOne (accC a b c d) = true := by unfold allOne accC; simp [Value.oneCell']
theorem accC_all (a b c d : Int) : (accC a b c d).extract 0 5 = accC a b c d := by have := Array.extract_size (xs := accC a b c d); rwa [accC_size] at this
theorem acc_g0 (a b c d : Int) : (accC a b c d)[0]? = some (I a) := rfl
theorem acc_g1 (a b c d : Int) : (accC a b c d)[1]? = some (I b) := rfl
theorem acc_g2 (a b c d : Int) : (accC a b c d)[2]? = some (I c) := rfl
theorem acc_g4 (a b c d : Int) : (accC a b c d)[4]? = some (.int .u64 d) := rfl
theorem acc_s0 (a b c d x : Int) : (accC a b c d).setIfInBounds 0 (I x) = accC x b c d := rfl
theorem acc_s1 (a b c d x : Int) : (accC a b c d).setIfInBounds 1 (I x) = accC a x c d := rfl
theorem acc_s2 (a b c d x : Int) : (accC a b c d).setIfInBounds 2 (I x) = accC a b x d := rfl
theorem acc_s4 (a b c d x : Int) : (accC a b c d).setIfInBounds 4 (.int .u64 x) = accC a b c x := rfl
theorem loadAcc (g o : Nat) (w : World) : (loadRow 87 ⟨g, o, none⟩).run Tryz.prog w = rowRes Tryz.prog 87 g o w ((w.heap[g]?).bind (rowAt o 5)) :=
  run_row Tryz.underlying87 rfl (by kernel_rfl) g o w
theorem storeAcc (g o : Nat) (vs : Array Value) (w : World) : (storeRow 87 ⟨g, o, none⟩ (.agg vs)).run Tryz.prog w = layRes Tryz.prog 87 g o vs w (((w.heap[g]?).map (canLay o 5 vs)).getD false) :=
  run_lay (by kernel_rfl) g o vs w
theorem lrowAcc (a : Addr) : loadVar 87 a = loadRow 87 a := rfl
theorem srowAcc (a : Addr) (v : Value) : storeVar 87 a v = storeRow 87 a v := rfl
theorem browAcc (ps : Array (Nat × Value)) : Instr.build 87 ps = buildRow 87 ps := rfl
theorem zeroAcc_run (w : World) : (zeroValue 87).run Tryz.prog w = .ok (.agg (accC 0 0 0 0)) w := by kernel_rfl
theorem bacc0 (w : World) : (buildRow 87 #[]).run Tryz.prog w = .ok (.agg (accC 0 0 0 0)) w := by kernel_rfl
theorem bacc2 (b c : Int) (w : World) : (buildRow 87 #[(1, I b), (2, I c)]).run Tryz.prog w = .ok (.agg (accC 0 b c 0)) w := by kernel_rfl
theorem bacc3 (a b c : Int) (w : World) : (buildRow 87 #[(0, I a), (1, I b), (2, I c)]).run Tryz.prog w = .ok (.agg (accC a b c 0)) w := by kernel_rfl
theorem bacc3u (b c d : Int) (w : World) : (buildRow 87 #[(1, I b), (2, I c), (4, .int .u64 d)]).run Tryz.prog w = .ok (.agg (accC 0 b c d)) w := by kernel_rfl
theorem bacc4 (a b c d : Int) (w : World) : (buildRow 87 #[(0, I a), (1, I b), (2, I c), (4, .int .u64 d)]).run Tryz.prog w = .ok (.agg (accC a b c d)) w := by kernel_rfl
theorem zah (a b c d a' b' c' d' : Int) (T : TypeId) (fr : Nat × Nat) : laidAt 0 (accC a b c d) (.cells (accC a' b' c' d') T fr) = .cells (accC a b c d) T fr := by
  rw [zak, laid_whole _ _ (by rw [accC_size, accC_size])]
theorem acc_result {fn : Func} {p : Tmp} (h : fn.results = #[.cell p 87]) (tmps : Array Value) (b : Nat) (w : World) (x y z u : Int) (hp : tmps.getD p undef = .pointer (some ⟨b, 0, none⟩))
    (hb : w.heap[b]? = some (.cells (accC x y z u) 87 (0, 0))) : (results fn tmps).run Tryz.prog w = .ok (.agg (accC x y z u)) w := by
  have hl := run_loadVar_row (P := Tryz.prog) w b 87 87 (accC x y z u) (0, 0) _ hb Tryz.underlying87 rfl (by rw [accC_size]; kernel_rfl)
  have hp' : tmps[p]?.getD undef = .pointer (some ⟨b, 0, none⟩) := by simpa using hp
  simp [results, h, hp', asAddr, hl]
end Go.Proofs.Hc
namespace Go.Proofs.Hc
open Go.RowKit
attribute [local go_sem] zbu zcc zax zbf zbo zbd zbn zbp zbw signed64 signed8 zap BitVec.ofInt_add BitVec.ofInt_mul ofInt_sub' zbb zbc wide8 eqN neN zca shr1 shr7 shr56
attribute [local go_sem high] zbe zbv
attribute [local go_sem] zaw zby zaj zas zaf zaz zar zak zbm zal zay zba
attribute [local go_sem] load26 load73 load23 store26 build73
attribute [local go_sem ↓] lrow26 lrow73 lrow23 srow26 zero26 brow73 zae zbk zbg zaa zab
attribute [local go_sem] zai zav zat zbj zbl zbr zaq zau zbs zbi zbh
attribute [local go_sem] nn2 nm2 nn3 nm3 nn4 nm4 nn5 nm5 nn6 nm6 nn7 nm7 nn8 nm8
section
attribute [local go_sem] acc_g0 acc_g1 acc_g2 acc_g4 acc_s0 acc_s1 acc_s2 acc_s4 accC_size accC_one accC_all loadAcc storeAcc bacc0 bacc2 bacc3 bacc3u bacc4
attribute [local go_sem ↓] lrowAcc srowAcc browAcc zeroAcc_run
attribute [local go_sem high] zah
attribute [local irreducible] accC
theorem words_one (l : List (BitVec 64)) : ∀ v ∈ l.map (fun x => U x), v.oneCell' = true := by
  intro v hv
  obtain ⟨x, _, rfl⟩ := List.mem_map.1 hv
  rfl
end
end Go.Proofs.Hc
namespace Go.Proofs.Hc
open Go.RowKit
variable {me : Int}
attribute [local go_sem] zbu zcc zax zbf zbo zbd zbn zbp zbw signed64 signed8 zap BitVec.ofInt_add BitVec.ofInt_mul ofInt_sub' zbb zbc wide8 eqN neN zca shr1 shr7 shr56
attribute [local go_sem high] zbe zbv
attribute [local go_sem] zaw zby zaj zas zaf zaz zar zak zbm zal zay zba
attribute [local go_sem] load26 load73 load23 store26 build73
attribute [local go_sem ↓] lrow26 lrow73 lrow23 srow26 zero26 brow73 zae zbk zbg zaa zab
attribute [local go_sem] zai zav zat zbj zbl zbr zaq zau zbs zbi zbh
attribute [local go_sem] nn2 nm2 nn3 nm3 nn4 nm4 nn5 nm5 nn6 nm6 nn7 nm7 nn8 nm8
attribute [local go_sem] acc_g0 acc_g1 acc_g2 acc_g4 acc_s0 acc_s1 acc_s2 acc_s4 accC_size accC_one accC_all loadAcc storeAcc bacc0 bacc2 bacc3 bacc3u bacc4
attribute [local go_sem ↓] lrowAcc srowAcc browAcc zeroAcc_run
attribute [local go_sem high] zah
attribute [local go_sem] Oper.semAt_some zao
attribute [local irreducible] accC
theorem loadAcs (g o : Nat) (w : World) : (loadRow 264 ⟨g, o, none⟩).run Tryz.prog w = rowRes Tryz.prog 264 g o w ((w.heap[g]?).bind (rowAt o 5)) :=
  run_row Tryz.underlying264 rfl (by kernel_rfl) g o w
theorem storeAcs (g o : Nat) (vs : Array Value) (w : World) : (storeRow 264 ⟨g, o, none⟩ (.agg vs)).run Tryz.prog w = layRes Tryz.prog 264 g o vs w (((w.heap[g]?).map (canLay o 5 vs)).getD false) :=
  run_lay (by kernel_rfl) g o vs w
theorem lrowAcs (a : Addr) : loadVar 264 a = loadRow 264 a := rfl
theorem srowAcs (a : Addr) (v : Value) : storeVar 264 a v = storeRow 264 a v := rfl
theorem browAcs (ps : Array (Nat × Value)) : Instr.build 264 ps = buildRow 264 ps := rfl
theorem buildAcs (a b c d : Int) (w : World) : (buildRow 264 #[(0, .agg (accC a b c d))]).run Tryz.prog w = .ok (.agg (accC a b c d)) w := by kernel_rfl
theorem zeroAcs_run (w : World) : (zeroValue 264).run Tryz.prog w = .ok (.agg (accC 0 0 0 0)) w := by kernel_rfl
theorem boxAcs (a b c d : Int) (w : World) : (Instr.box 264 (.agg (accC a b c d))).run Tryz.prog w = .ok (.pointer (some ⟨w.heap.size, 0, none⟩)) (w.alloc (.cells (accC a b c d) 264)) := rfl
theorem boxAcc (a b c d : Int) (w : World) : (Instr.box 87 (.agg (accC a b c d))).run Tryz.prog w = .ok (.pointer (some ⟨w.heap.size, 0, none⟩)) (w.alloc (.cells (accC a b c d) 87)) := rfl
attribute [local go_sem] loadAcs storeAcs buildAcs boxAcs boxAcc
attribute [local go_sem ↓] lrowAcs srowAcs browAcs zeroAcs_run
theorem meth_load (v : Value) (w : World) : (method 473 268 v "honeycomb/cells.load").run Tryz.prog w = .ok (337, v) w := by kernel_rfl
theorem meth_swap (v : Value) (w : World) : (method 473 268 v "honeycomb/cells.swap").run Tryz.prog w = .ok (338, v) w := by kernel_rfl
theorem loadSeen (g o : Nat) (w : World) : (loadRow 93 ⟨g, o, none⟩).run Tryz.prog w = rowRes Tryz.prog 93 g o w ((w.heap[g]?).bind (rowAt o 2)) :=
  run_row Tryz.underlying93 rfl (by kernel_rfl) g o w
theorem storeSeen (g o : Nat) (vs : Array Value) (w : World) : (storeRow 93 ⟨g, o, none⟩ (.agg vs)).run Tryz.prog w = layRes Tryz.prog 93 g o vs w (((w.heap[g]?).map (canLay o 2 vs)).getD false) :=
  run_lay (by kernel_rfl) g o vs w
theorem lrowSeen (a : Addr) : loadVar 93 a = loadRow 93 a := rfl
theorem srowSeen (a : Addr) (v : Value) : storeVar 93 a v = storeRow 93 a v := rfl
def seenC (x : Int) (b : Bool) : Array Value := #[.int .u64 x, .bool b]
theorem seenC_size (x : Int) (b : Bool) : (seenC x b).size = 2 := rfl
theorem seenC_one (x : Int) (b : Bool) : allOne (seenC x b) = true := by unfold allOne seenC; simp [Value.oneCell']
theorem seenC_all (x : Int) (b : Bool) : (seenC x b).extract 0 2 = seenC x b := by have := Array.extract_size (xs := seenC x b); rwa [seenC_size] at this
theorem seenC_g0 (x : Int) (b : Bool) : (seenC x b)[0]? = some (.int .u64 x) := rfl
theorem browSeen (ps : Array (Nat × Value)) : Instr.build 93 ps = buildRow 93 ps := rfl
theorem buildSeen (x : Int) (b : Bool) (w : World) : (buildRow 93 #[(0, .int .u64 x), (1, .bool b)]).run Tryz.prog w = .ok (.agg (seenC x b)) w := by kernel_rfl
theorem buildSeen0 (w : World) : (buildRow 93 #[]).run Tryz.prog w = .ok (.agg (seenC 0 false)) w := by kernel_rfl
theorem zeroSeen_run (w : World) : (zeroValue 93).run Tryz.prog w = .ok (.agg (seenC 0 false)) w := by kernel_rfl
theorem zam (x y : Int) (b c : Bool) (T : TypeId) (fr : Nat × Nat) : laidAt 0 (seenC x b) (.cells (seenC y c) T fr) = .cells (seenC x b) T fr := by
  rw [zak, laid_whole _ _ (by rw [seenC_size, seenC_size])]
attribute [local go_sem] meth_load meth_swap
attribute [local go_sem] seenC_size seenC_one seenC_all seenC_g0 loadSeen storeSeen buildSeen buildSeen0
attribute [local go_sem ↓] lrowSeen srowSeen browSeen zeroSeen_run
attribute [local go_sem high] zam
attribute [local irreducible] seenC
end Go.Proofs.Hc
namespace Go.Proofs.Hc
open Go.RowKit
attribute [local go_sem] zbu zcc zax zbf zbo zbd zbn zbp zbw signed64 signed8 zap BitVec.ofInt_add BitVec.ofInt_mul ofInt_sub' zbb zbc wide8 eqN neN zca shr1 shr7 shr56
attribute [local go_sem high] zbe zbv
attribute [local go_sem] zaw zby zaj zas zaf zaz zar zak zbm zal zay zba
attribute [local go_sem] load26 load73 load23 store26 build73
attribute [local go_sem ↓] lrow26 lrow73 lrow23 srow26 zero26 brow73 zae zbk zbg zaa zab
attribute [local go_sem] zai zav zat zbj zbl zbr zaq zau zbs zbi zbh
attribute [local go_sem] nn2 nm2 nn3 nm3 nn4 nm4 nn5 nm5 nn6 nm6 nn7 nm7 nn8 nm8
section
attribute [local go_sem] zap zbq
attribute [local go_sem] Oper.semAt_some zao
attribute [local go_sem] zcj pacell0 pacell1 pacell2 pacell3 pacell4 pacell5 pacell6 pacell7 pacell42
attribute [local go_sem] zcs zcx zcp zcw zcv zdg zcu zdf zce zcr zdj zdc zch zbt zci zck boxPart loadPart storePart zcf zct buildPart0 buildPart4
attribute [local go_sem ↓] lrowPart srowPart browPart zcl zbz
attribute [local go_sem high] zag
attribute [local irreducible] partC
theorem checkS_yes {p : PartT} (h : rightS p = true) : checkS p = 0 := by unfold checkS; rw [if_pos h]
theorem checkS_no {p : PartT} (h : rightS p = false) : checkS p = 320 := by unfold checkS; rw [if_neg (by rw [h]; decide)]
theorem part_results {fn : Func} {p q : Tmp} (h : fn.results = #[.cell p 51, .tmp q]) (tmps : Array Value) (b : Nat) (w : World) (d : PartT) (v : Value) (hp : tmps.getD p undef = .pointer (some ⟨b, 0, none⟩)) (hq : tmps.getD q undef = v)
    (hb : w.heap[b]? = some (.cells (partC d) 51 (0, 0))) : (results fn tmps).run Tryz.prog w = .ok (.tuple #[.agg (partC d), v]) w := by
  have hl := run_loadVar_row (P := Tryz.prog) w b 51 51 (partC d) (0, 0) _ hb Tryz.underlying51 rfl (by rw [zbt]; kernel_rfl)
  have hp' : tmps[p]?.getD undef = .pointer (some ⟨b, 0, none⟩) := by simpa using hp
  have hq' : tmps[q]?.getD undef = v := by simpa using hq
  simp [results, h, hp', hq', asAddr, hl]
def begin22E (who sl a b : Int) (seed : BitVec 64) : Except Int PartT := if rightS (firstP22 who sl a b seed) then .ok (firstP22 who sl a b seed) else .error 2
theorem zbx (q : PartT) (w : World) : (World.onObj (w.alloc (.cells (partC zeroPart) 51)) w.heap.size (laidAt 0 (partC q))).heap[w.heap.size]? = some (.cells (partC q) 51 (0, 0)) := by
  rw [zab, if_pos rfl, zae, if_pos rfl, Option.map_some, zag]
theorem zac (q : PartT) (w : World) : Ch [] w (World.onObj (w.alloc (.cells (partC zeroPart) 51)) w.heap.size (laidAt 0 (partC q))) := ((Ch.refl [] w).alloc _).onObj (.inr (Nat.le_refl _)) _
theorem s22Begin_any (who sl a b : Int) (seed : BitVec 64) (w : World) : Calls Tryz.prog 24 #[I who, I sl, .agg #[I a, I b], U seed] w fun e w' => e = .returned (tupOr (fun v => .agg (partC v)) (.agg (partC zeroPart)) (begin22E who sl a b seed)) ∧ Ch [] w w' := by
  have R1 := fun w => pCheck_any (firstP22 who sl a b seed) w
  have z0 : ((w.alloc (.cells #[I a, I b] 45)).alloc (.cells (partC zeroPart) 51)).heap[w.heap.size + 1]? = some (.cells (partC zeroPart) 51 (0, 0)) := by rw [zae, if_pos (by simp)]
  have a0 : ((w.alloc (.cells #[I a, I b] 45)).alloc (.cells (partC zeroPart) 51)).heap[w.heap.size]? = some (.cells #[I a, I b] 45 (0, 0)) := by rw [zae, if_neg (by simp), zae, if_pos rfl]
  have C0 : Ch [] w ((w.alloc (.cells #[I a, I b] 45)).alloc (.cells (partC zeroPart) 51)) := ((Ch.refl [] w).alloc _).alloc _
  obtain ⟨q, hq⟩ : ∃ q, firstP22 who sl a b seed = q := ⟨_, rfl⟩
  have BB := fun w => buildPart4 who sl a b seed w
  unfold begin22E
  rw [hq] at R1 BB ⊢
  clear hq
  cases hr : rightS q with
  | true =>
    rw [checkS_yes hr] at R1
    simp only [if_true, tupOr]
    clear hr
    go_enter Tryz.func24, Tryz.ntmps24
    go_upto_region 1 with (fail)
    obtain ⟨w0, hw0⟩ : ∃ W, (w.alloc (.cells #[I a, I b] 45)).alloc (.cells (partC zeroPart) 51) = W := ⟨_, rfl⟩
    rw [hw0] at z0 a0 C0 ⊢
    clear hw0
    obtain ⟨B, hB⟩ : ∃ B, w.heap.size + 1 = B := ⟨_, rfl⟩
    rw [hB] at z0 ⊢
    have hBw : w.heap.size ≤ B := by omega
    clear hB
    have hBn : ¬ B = w0.heap.size := by have := (Array.getElem?_eq_some_iff.1 z0).1; omega
    go_upto_region 2 with (fail)
    have q1 := zbx q w0
    have hc1 := zac q w0
    have z1 := hkeep hc1 z0
    have C1 := C0.trans hc1
    clear z0 C0 hc1 a0
    obtain ⟨w1, hw1⟩ : ∃ W, World.onObj (w0.alloc (.cells (partC zeroPart) 51)) w0.heap.size (laidAt 0 (partC q)) = W := ⟨_, rfl⟩
    rw [hw1] at q1 z1 C1 ⊢
    clear hw1
    obtain ⟨D, hD⟩ : ∃ D, w0.heap.size = D := ⟨_, rfl⟩
    rw [hD] at q1 hBn ⊢
    clear hD
    go_wp2_with fail
    refine (R1 _).mono ?_
    rintro e w2 ⟨rfl, hc2⟩
    have q2 := hkeep hc2 q1
    have z2 := hkeep hc2 z1
    have C2 := C1.trans hc2
    clear q1 z1 C1 hc2
    go_wp2
    refine bodyPost_ret (part_results Tryz.results24 _ B _ q _ rfl rfl ?_) rfl ⟨rfl, C2.onObj (p := B) (.inr hBw) _⟩
    rw [zab, if_pos rfl, z2, Option.map_some, zag]
  | false =>
    rw [checkS_no hr] at R1
    simp only [Bool.false_eq_true, if_false, tupOr]
    clear hr
    go_enter Tryz.func24, Tryz.ntmps24
    go_upto_region 1 with (fail)
    obtain ⟨w0, hw0⟩ : ∃ W, (w.alloc (.cells #[I a, I b] 45)).alloc (.cells (partC zeroPart) 51) = W := ⟨_, rfl⟩
    rw [hw0] at z0 a0 C0 ⊢
    clear hw0
    obtain ⟨B, hB⟩ : ∃ B, w.heap.size + 1 = B := ⟨_, rfl⟩
    rw [hB] at z0 ⊢
    have hBw : w.heap.size ≤ B := by omega
    clear hB
    have hBn : ¬ B = w0.heap.size := by have := (Array.getElem?_eq_some_iff.1 z0).1; omega
    go_upto_region 2 with (fail)
    have q1 := zbx q w0
    have hc1 := zac q w0
    have z1 := hkeep hc1 z0
    have C1 := C0.trans hc1
    clear z0 C0 hc1 a0
    obtain ⟨w1, hw1⟩ : ∃ W, World.onObj (w0.alloc (.cells (partC zeroPart) 51)) w0.heap.size (laidAt 0 (partC q)) = W := ⟨_, rfl⟩
    rw [hw1] at q1 z1 C1 ⊢
    clear hw1
    go_wp2_with fail
    refine (R1 _).mono ?_
    rintro e w2 ⟨rfl, hc2⟩
    have z2 := hkeep hc2 z1
    have C2 := C1.trans hc2
    clear q1 z1 C1 hc2
    go_wp2
    refine bodyPost_ret (part_results Tryz.results24 _ B _ zeroPart _ rfl rfl ?_) rfl ⟨rfl, C2.onObj (p := B) (.inr hBw) _⟩
    rw [zab, if_pos rfl, z2, Option.map_some, zag]
end
end Go.Proofs.Hc
namespace Go.Proofs.Hc
open Go.RowKit
attribute [local go_sem] zaw zby zaj zas zaf zaz zar zak zbm zal zay zba
attribute [local go_sem] load26 load73 load23 store26 build73
attribute [local go_sem ↓] lrow26 lrow73 lrow23 srow26 zero26 brow73 zae zbk zbg zaa zab
attribute [local go_sem] zai zav zat zbj zbl zbr zaq zau zbs zbi zbh
attribute [local go_sem] nn2 nm2 nn3 nm3 nn4 nm4 nn5 nm5 nn6 nm6 nn7 nm7 nn8 nm8
attribute [local go_sem] seenC_size seenC_one seenC_all seenC_g0 loadSeen storeSeen buildSeen buildSeen0
attribute [local go_sem ↓] lrowSeen srowSeen browSeen zeroSeen_run
attribute [local go_sem high] zam
attribute [local irreducible] seenC
theorem seen_put (x : Int) (b : Bool) (w : World) : (World.onObj (w.alloc (.cells (seenC 0 false) 93)) w.heap.size (laidAt 0 (seenC x b))).heap[w.heap.size]? = some (.cells (seenC x b) 93 (0, 0)) := by
  rw [zab, if_pos rfl, zae, if_pos rfl, Option.map_some, zam]
theorem seen_put_ch (x : Int) (b : Bool) (w : World) : Ch [] w (World.onObj (w.alloc (.cells (seenC 0 false) 93)) w.heap.size (laidAt 0 (seenC x b))) := ((Ch.refl [] w).alloc _).onObj (.inr (Nat.le_refl _)) _
end Go.Proofs.Hc
namespace Go.Proofs.Hc
open Go.RowKit
attribute [local go_sem] zbu zcc zax zbf zbo zbd zbn zbp zbw signed64 signed8 zap BitVec.ofInt_add BitVec.ofInt_mul ofInt_sub' zbb zbc wide8 eqN neN zca shr1 shr7 shr56
attribute [local go_sem high] zbe zbv
attribute [local go_sem] zaw zby zaj zas zaf zaz zar zak zbm zal zay zba
attribute [local go_sem] load26 load73 load23 store26 build73
attribute [local go_sem ↓] lrow26 lrow73 lrow23 srow26 zero26 brow73 zae zbk zbg zaa zab
attribute [local go_sem] zai zav zat zbj zbl zbr zaq zau zbs zbi zbh
attribute [local go_sem] nn2 nm2 nn3 nm3 nn4 nm4 nn5 nm5 nn6 nm6 nn7 nm7 nn8 nm8
section
attribute [local go_sem] zap zbq
attribute [local go_sem] Oper.semAt_some zao
attribute [local go_sem] zcj pacell0 pacell1 pacell2 pacell3 pacell4 pacell5 pacell6 pacell7 pacell42
attribute [local go_sem] zcs zcx zcp zcw zcv zdg zcu zdf zce zcr zdj zdc zch zbt zci zck boxPart loadPart storePart zcf zct buildPart0 buildPart4
attribute [local go_sem ↓] lrowPart srowPart browPart zcl zbz
attribute [local go_sem high] zag
attribute [local irreducible] partC
theorem s22some_any (a : Option Addr) (n c : Nat) (w : World) : Calls Tryz.prog 97 #[.slice a n c] w fun e w' => e = .returned (.bool (decide (1 ≤ n) && decide (n ≤ 8192))) ∧ w = w' := by
  obtain ⟨r, hr⟩ : ∃ r, (decide (1 ≤ n) && decide (n ≤ 8192)) = r := ⟨_, rfl⟩
  rw [hr]
  have hcs : n < 1 ∧ r = false ∨ 1 ≤ n ∧ n ≤ 8192 ∧ r = true ∨ 1 ≤ n ∧ ¬ n ≤ 8192 ∧ r = false := by
    rw [← hr]
    by_cases h1 : 1 ≤ n
    · by_cases h2 : n ≤ 8192
      · right; left; exact ⟨h1, h2, by rw [decide_eq_true h1, decide_eq_true h2]; rfl⟩
      · right; right; exact ⟨h1, h2, by rw [decide_eq_false h2, Bool.and_false]⟩
    · left; exact ⟨by omega, by rw [decide_eq_false h1, Bool.false_and]⟩
  clear hr
  rcases hcs with ⟨h1, rfl⟩ | ⟨h1, h2, rfl⟩ | ⟨h1, h2, rfl⟩
  · have h1' : ¬ (1 : Int) ≤ n := by omega
    go_enter Tryz.func97, Tryz.ntmps97
    go_wp2
    go_ret
    exact ⟨rfl, rfl⟩
  · have h1' : (1 : Int) ≤ n := by omega
    have h2' : (n : Int) ≤ 8192 := by omega
    go_enter Tryz.func97, Tryz.ntmps97
    go_wp2
    go_ret
    exact ⟨rfl, rfl⟩
  · have h1' : (1 : Int) ≤ n := by omega
    have h2' : ¬ (n : Int) ≤ 8192 := by omega
    go_enter Tryz.func97, Tryz.ntmps97
    go_wp2
    go_ret
    exact ⟨rfl, rfl⟩
theorem s22own_any (l : List (BitVec 64)) (g c : Nat) (cur : Array Value) (w : World) (hl : l.length ≤ 9000) (hb : w.heap[g]? = some (.cells cur 22 (0, 0))) (hw : WordsAt cur l) :
    Calls Tryz.prog 98 #[.slice (some ⟨g, 0, none⟩) l.length c] w fun e w' => e = .returned (.slice (some ⟨w.heap.size, 0, none⟩) l.length l.length) ∧ w'.heap[w.heap.size]? = some (.cells (wcells l) 22 (0, 0)) ∧ Ch [] w w' := by
  have hm := fun w => run_make_row' (P := Tryz.prog) 44 22 (.int .u64 0) 8 Tryz.underlying44 infoU rfl .i64 .i64 l.length (by omega) (by omega) w
  have hgn : ¬ g = w.heap.size := by have := (Array.getElem?_eq_some_iff.1 hb).1; omega
  have hn : (w.alloc (.cells (madeCells #[.int .u64 0] l.length) 22)).heap[w.heap.size]? = some (.cells (madeCells #[.int .u64 0] l.length) 22 (0, 0)) := by rw [zae, if_pos rfl]
  have hlen : (l.map fun x => U x).length = l.length := List.length_map ..
  have hcp := run_copy_row (P := Tryz.prog) (w.alloc (.cells (madeCells #[.int .u64 0] l.length) 22)) 44 44 3 22 w.heap.size 0 l.length l.length ⟨g, 0, none⟩ l.length c (madeCells #[.int .u64 0] l.length) 22 (l.map fun x => U x) Tryz.underlying44 (by kernel_rfl) hn (by rw [hlen]; exact (Nat.min_self _).symm) (by
    intro j v hj
    rw [List.getElem?_map] at hj
    obtain ⟨x, hx, rfl⟩ := Option.map_eq_some_iff.1 hj
    rw [Addr.add_lit, zaw, zae, if_neg hgn, hb, Option.bind_some, zaj, Nat.zero_add]
    exact hw j x hx) (by rw [hlen, size_madeCells]; omega) (words_one l)
  have hrow : ((madeCells #[.int .u64 0] l.length).toList.take 0 ++ (l.map fun x => U x) ++ (madeCells #[.int .u64 0] l.length).toList.drop (0 + (l.map fun x => U x).length)).toArray = wcells l := by
    rw [List.take_zero, List.nil_append, List.drop_eq_nil_of_le (by rw [hlen, Array.length_toList, size_madeCells]; omega), List.append_nil]; rfl
  rw [hrow, hlen] at hcp
  have hh := setRow_heap (w.alloc (.cells (madeCells #[.int .u64 0] l.length) 22)) w.heap.size _ (wcells l) 22 (0, 0) hn
  have hC : Ch [] w ((w.alloc (.cells (madeCells #[.int .u64 0] l.length) 22)).setRow w.heap.size (wcells l)) := by
    refine ((Ch.refl [] w).alloc (.cells (madeCells #[.int .u64 0] l.length) 22)).trans2 (T := [w.heap.size]) ⟨rfl, rfl, rfl, by simp [World.setRow], fun k _ hk => setRow_other _ _ _ _ (by simpa using hk)⟩ (by simp)
  generalize (w.alloc (.cells (madeCells #[.int .u64 0] l.length) 22)).setRow w.heap.size (wcells l) = W2 at *
  clear hrow hn hb hw hgn
  go_enter Tryz.func98, Tryz.ntmps98
  go_wp2
  go_ret
  exact ⟨rfl, hh, hC⟩
theorem s22Many_any (p : PartT) (w : World) : Calls Tryz.prog 49 #[.agg (partC p)] w fun e w' => e = .returned (I (manyS p)) ∧ Ch [] w w' := by
  have R1 := fun w => pCheck_any p w
  have C0 : Ch [] w (w.alloc (.cells (partC p) 51)) := (Ch.refl [] w).alloc _
  have b0 : (w.alloc (.cells (partC p) 51)).heap[w.heap.size]? = some (.cells (partC p) 51 (0, 0)) := by rw [zae, if_pos rfl]
  have hcs : checkS p = 320 ∧ manyS p = 0 ∨ checkS p = 0 ∧ (p.ph = 5 ∧ manyS p = 81 ∨ (p.ph == 5) = false ∧ (p.ph = 6 ∧ (0 ≤ p.at_ ∧ p.at_ < 80) ∧ manyS p = 80 - p.at_ ∨ (p.ph == 6) = false ∧ manyS p = 0)) := by
    cases hr : rightS p with
    | false => left; refine ⟨checkS_no hr, ?_⟩; unfold manyS; rw [hr, if_neg (by decide)]
    | true =>
      right
      refine ⟨checkS_yes hr, ?_⟩
      have R := (zdk p).1 hr
      unfold manyS
      rw [if_pos hr]
      by_cases h5 : p.ph = 5
      · left; exact ⟨h5, if_pos h5⟩
      · right
        refine ⟨beq_eq_false_iff_ne.2 h5, ?_⟩
        rw [if_neg h5]
        by_cases h6 : p.ph = 6
        · left; exact ⟨h6, R.at6 h6, if_pos h6⟩
        · right; exact ⟨beq_eq_false_iff_ne.2 h6, if_neg h6⟩
  obtain ⟨m, hm⟩ : ∃ m, manyS p = m := ⟨_, rfl⟩
  rw [hm] at hcs ⊢
  clear hm
  generalize checkS p = r at *
  rcases hcs with ⟨rfl, rfl⟩ | ⟨rfl, ⟨h5, rfl⟩ | ⟨h5, ⟨h6, ⟨ha0, ha1⟩, rfl⟩ | ⟨h6, rfl⟩⟩⟩
  all_goals
    first
    | have h5' : ¬ p.ph = 5 := beq_eq_false_iff_ne.1 h5
    | skip
    first
    | have h6' : ¬ p.ph = 6 := beq_eq_false_iff_ne.1 h6
    | skip
    first
    | have hw : IntKind.i64.wrap (80 - p.at_) = 80 - p.at_ := by rw [IntKind.wrap_i64]; omega
    | skip
    go_enter Tryz.func49, Tryz.ntmps49
    go_wp2_with fail
    refine (R1 _).mono ?_
    rintro e w1 ⟨rfl, hc1⟩
    have b1 := hkeep hc1 b0
    have C1 := C0.trans hc1
    clear b0 C0 hc1 R1
    go_wp2
    go_ret
    exact ⟨by first | rfl | (simp; done) | (simp; omega), C1⟩
end
section
attribute [local go_sem] acc_g0 acc_g1 acc_g2 acc_g4 acc_s0 acc_s1 acc_s2 acc_s4 accC_size accC_one accC_all loadAcc storeAcc bacc0 bacc2 bacc3 bacc3u bacc4
attribute [local go_sem ↓] lrowAcc srowAcc browAcc zeroAcc_run
attribute [local go_sem high] zah
attribute [local go_sem] zap zbq
attribute [local go_sem] Oper.semAt_some zao
attribute [local go_sem] zcj pacell0 pacell1 pacell2 pacell3 pacell4 pacell5 pacell6 pacell7 pacell42
attribute [local go_sem] zcs zcx zcp zcw zcv zdg zcu zdf zce zcr zdj zdc zch zbt zci zck boxPart loadPart storePart zcf zct buildPart0 buildPart4
attribute [local go_sem ↓] lrowPart srowPart browPart zcl zbz
attribute [local go_sem high] zag
attribute [local irreducible] partC
attribute [local irreducible] accC
theorem s22Load_any (p : PartT) (g : Nat) (wd : Int) (s0 : 0 ≤ p.sl) (s1 : p.sl < 128) (h0 : 0 ≤ wd) (h1 : wd < 40) (w : World) (hg : w.heap[g]? = some (.cells (partC p) 179 (0, 0))) :
    Calls Tryz.prog 171 #[.pointer (some ⟨g, 0, none⟩), I wd] w fun e w' => e = .returned (.agg (accC p.who 1 (16 + 40 * p.sl + wd) 0)) ∧ Ch [] w w' := by
  have K1 := fun w => cell_ok p.sl wd s0 s1 h0 h1 w
  have C0 : Ch [] w (w.alloc (.cells (accC 0 0 0 0) 87)) := (Ch.refl [] w).alloc _
  have z0 : (w.alloc (.cells (accC 0 0 0 0) 87)).heap[w.heap.size]? = some (.cells (accC 0 0 0 0) 87 (0, 0)) := by rw [zae, if_pos rfl]
  have g0 := hkeep C0 hg
  have hgn : ¬ g = w.heap.size := by have := (Array.getElem?_eq_some_iff.1 hg).1; omega
  clear hg
  go_enter Tryz.func171, Tryz.ntmps171
  go_upto_region 1 with (fail)
  obtain ⟨w0, hw0⟩ : ∃ W, w.alloc (.cells (accC 0 0 0 0) 87) = W := ⟨_, rfl⟩
  rw [hw0] at C0 z0 g0 ⊢
  clear hw0
  obtain ⟨B, hB⟩ : ∃ b, w.heap.size = b := ⟨_, rfl⟩
  rw [hB] at z0 hgn ⊢
  have hBw : w.heap.size ≤ B := by omega
  clear hB
  go_wp2_with (go_at_call 44; refine (K1 _).mono ?_; rintro e w' ⟨rfl, rfl⟩)
  refine bodyPost_ret (acc_result Tryz.results171 _ B _ p.who 1 (16 + 40 * p.sl + wd) 0 rfl ?_) rfl ⟨rfl, C0.onObj (.inr hBw) _⟩
  rw [zab, if_pos rfl, z0, Option.map_some, zah]
theorem s22Store_any (p : PartT) (g : Nat) (sl wd : Int) (x : BitVec 64) (s0 : 0 ≤ sl) (s1 : sl < 128) (h0 : 0 ≤ wd) (h1 : wd < 40) (w : World) (hg : w.heap[g]? = some (.cells (partC p) 179 (0, 0))) :
    Calls Tryz.prog 172 #[.pointer (some ⟨g, 0, none⟩), I sl, I wd, U x] w fun e w' => e = .returned (.agg (accC p.who 2 (16 + 40 * sl + wd) (N x))) ∧ Ch [] w w' := by
  have K1 := fun w => cell_ok sl wd s0 s1 h0 h1 w
  have C0 : Ch [] w (w.alloc (.cells (accC 0 0 0 0) 87)) := (Ch.refl [] w).alloc _
  have z0 : (w.alloc (.cells (accC 0 0 0 0) 87)).heap[w.heap.size]? = some (.cells (accC 0 0 0 0) 87 (0, 0)) := by rw [zae, if_pos rfl]
  have g0 := hkeep C0 hg
  have hgn : ¬ g = w.heap.size := by have := (Array.getElem?_eq_some_iff.1 hg).1; omega
  clear hg
  go_enter Tryz.func172, Tryz.ntmps172
  go_upto_region 1 with (fail)
  obtain ⟨w0, hw0⟩ : ∃ W, w.alloc (.cells (accC 0 0 0 0) 87) = W := ⟨_, rfl⟩
  rw [hw0] at C0 z0 g0 ⊢
  clear hw0
  obtain ⟨B, hB⟩ : ∃ b, w.heap.size = b := ⟨_, rfl⟩
  rw [hB] at z0 hgn ⊢
  have hBw : w.heap.size ≤ B := by omega
  clear hB
  go_wp2_with (go_at_call 44; refine (K1 _).mono ?_; rintro e w' ⟨rfl, rfl⟩)
  refine bodyPost_ret (acc_result Tryz.results172 _ B _ p.who 2 (16 + 40 * sl + wd) (N x) rfl ?_) rfl ⟨rfl, C0.onObj (.inr hBw) _⟩
  rw [zab, if_pos rfl, z0, Option.map_some, zah]
end
section
attribute [local go_sem] acc_g0 acc_g1 acc_g2 acc_g4 acc_s0 acc_s1 acc_s2 acc_s4 accC_size accC_one accC_all loadAcc storeAcc bacc0 bacc2 bacc3 bacc3u bacc4
attribute [local go_sem ↓] lrowAcc srowAcc browAcc zeroAcc_run
attribute [local go_sem high] zah
attribute [local go_sem] zap zbq
attribute [local go_sem] Oper.semAt_some zao
attribute [local go_sem] zcj pacell0 pacell1 pacell2 pacell3 pacell4 pacell5 pacell6 pacell7 pacell42
attribute [local go_sem] zcs zcx zcp zcw zcv zdg zcu zdf zce zcr zdj zdc zch zbt zci zck boxPart loadPart storePart zcf zct buildPart0 buildPart4
attribute [local go_sem ↓] lrowPart srowPart browPart zcl zbz
attribute [local go_sem high] zag
attribute [local irreducible] partC
attribute [local go_sem] box26 zcb cell0 cell1 cell2 cell3 cell4 zcn zcm
attribute [local irreducible] accC tcells
attribute [local go_sem high] zco tmod2_64w bit64w bit64zw
theorem eqin_part (p : PartT) (w : World) : (Op.equalIn 10000 51 (.agg (partC p)) (.agg (partC p))).run Tryz.prog w = .ok true w := self_part 9996 p w
attribute [local go_sem] guardPart
attribute [local go_sem ↓] eqin_part eql_part neq_part
theorem build2i_21 (w : World) : (Instr.build 45 #[(0, .int .i64 2), (1, .int .i64 1)]).run Tryz.prog w = .ok (.agg #[.int .i64 2, .int .i64 1]) w := by kernel_rfl
attribute [local go_sem] build2i_21
theorem eq_rows22 {l : List (BitVec 64)} {n : Nat} (hn : n ≤ 900000) (hl : l.length = n) (R R2 c d : Nat) (cur cur2 : Array Value) (h1 : WordsAt cur l) (h2 : WordsAt cur2 l) (w : World) (hb : w.heap[R]? = some (.cells cur 22 (0, 0))) (hb2 : w.heap[R2]? = some (.cells cur2 22 (0, 0))) :
    Calls Tryz.prog 31 #[.slice (some ⟨R, 0, none⟩) n c, .slice (some ⟨R2, 0, none⟩) n d] w fun e w' => e = .returned (.bool true) ∧ Ch [] w w' := by
  subst hl
  exact eqWords_any l _ _ c d cur cur2 w hn h1 (fun _ => ⟨R, rfl⟩) (fun r h => by cases h; exact hb) h2 (fun _ => ⟨R2, rfl⟩) (fun r h => by cases h; exact hb2)
end
end Go.Proofs.Hc
