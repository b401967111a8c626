/- Accesses as values: their cells. -/
import Derived.Test.YtcikopeddljgkaaGreatKHts
import Derived.Test.YtcikopeddljgkaaGreatKPc
import Derived.Deep.Slices
set_option linter.unusedSimpArgs false
set_option linter.unusedVariables false
set_option maxHeartbeats 1000000
set_option maxRecDepth 100000
namespace Go.Proofs.Hc
open Go.RowKit
def accC (a b c d : Int) : Array Value := #[I a, I b, I c, .int .u64 0, .int .u64 d]
theorem accC_size (a b c d : Int) : (accC a b c d).size = 5 := rfl
theorem accC_one (a b c d : Int) : allOne (accC a b c d) = true := by unfold allOne accC; simp [Value.oneCell']
theorem accC_all (a b c d : Int) : (accC a b c d).extract 0 5 = accC a b c d := by have := Array.extract_size (xs := accC a b c d); rwa [accC_size] at this
theorem acc_g0 (a b c d : Int) : (accC a b c d)[0]? = some (I a) := rfl
theorem acc_g1 (a b c d : Int) : (accC a b c d)[1]? = some (I b) := rfl
theorem acc_g2 (a b c d : Int) : (accC a b c d)[2]? = some (I c) := rfl
theorem acc_g4 (a b c d : Int) : (accC a b c d)[4]? = some (.int .u64 d) := rfl
theorem acc_s0 (a b c d x : Int) : (accC a b c d).setIfInBounds 0 (I x) = accC x b c d := rfl
theorem acc_s1 (a b c d x : Int) : (accC a b c d).setIfInBounds 1 (I x) = accC a x c d := rfl
theorem acc_s2 (a b c d x : Int) : (accC a b c d).setIfInBounds 2 (I x) = accC a b x d := rfl
theorem acc_s4 (a b c d x : Int) : (accC a b c d).setIfInBounds 4 (.int .u64 x) = accC a b c x := rfl
theorem loadAcc (g o : Nat) (w : World) : (loadRow 87 ⟨g, o, none⟩).run Tryz.prog w = rowRes Tryz.prog 87 g o w ((w.heap[g]?).bind (rowAt o 5)) :=
  run_row Tryz.underlying87 rfl (by kernel_rfl) g o w
theorem storeAcc (g o : Nat) (vs : Array Value) (w : World) : (storeRow 87 ⟨g, o, none⟩ (.agg vs)).run Tryz.prog w = layRes Tryz.prog 87 g o vs w (((w.heap[g]?).map (canLay o 5 vs)).getD false) :=
  run_lay (by kernel_rfl) g o vs w
theorem lrowAcc (a : Addr) : loadVar 87 a = loadRow 87 a := rfl
theorem srowAcc (a : Addr) (v : Value) : storeVar 87 a v = storeRow 87 a v := rfl
theorem browAcc (ps : Array (Nat × Value)) : Instr.build 87 ps = buildRow 87 ps := rfl
theorem zeroAcc_run (w : World) : (zeroValue 87).run Tryz.prog w = .ok (.agg (accC 0 0 0 0)) w := by kernel_rfl
theorem bacc0 (w : World) : (buildRow 87 #[]).run Tryz.prog w = .ok (.agg (accC 0 0 0 0)) w := by kernel_rfl
theorem bacc2 (b c : Int) (w : World) : (buildRow 87 #[(1, I b), (2, I c)]).run Tryz.prog w = .ok (.agg (accC 0 b c 0)) w := by kernel_rfl
theorem bacc3 (a b c : Int) (w : World) : (buildRow 87 #[(0, I a), (1, I b), (2, I c)]).run Tryz.prog w = .ok (.agg (accC a b c 0)) w := by kernel_rfl
theorem bacc3u (b c d : Int) (w : World) : (buildRow 87 #[(1, I b), (2, I c), (4, .int .u64 d)]).run Tryz.prog w = .ok (.agg (accC 0 b c d)) w := by kernel_rfl
theorem bacc4 (a b c d : Int) (w : World) : (buildRow 87 #[(0, I a), (1, I b), (2, I c), (4, .int .u64 d)]).run Tryz.prog w = .ok (.agg (accC a b c d)) w := by kernel_rfl
theorem laidAt_acc (a b c d a' b' c' d' : Int) (T : TypeId) (fr : Nat × Nat) : laidAt 0 (accC a b c d) (.cells (accC a' b' c' d') T fr) = .cells (accC a b c d) T fr := by
  rw [zah, laid_whole _ _ (by rw [accC_size, accC_size])]
theorem acc_result {fn : Func} {p : Tmp} (h : fn.results = #[.cell p 87]) (tmps : Array Value) (b : Nat) (w : World) (x y z u : Int) (hp : tmps.getD p undef = .pointer (some ⟨b, 0, none⟩))
    (hb : w.heap[b]? = some (.cells (accC x y z u) 87 (0, 0))) : (results fn tmps).run Tryz.prog w = .ok (.agg (accC x y z u)) w := by
  have hl := run_loadVar_row (P := Tryz.prog) w b 87 87 (accC x y z u) (0, 0) _ hb Tryz.underlying87 rfl (by rw [accC_size]; kernel_rfl)
  have hp' : tmps[p]?.getD undef = .pointer (some ⟨b, 0, none⟩) := by simpa using hp
  simp [results, h, hp', asAddr, hl]
end Go.Proofs.Hc
namespace Go.Proofs.Hc
open Go.RowKit
attribute [local go_sem] zbr zcd zat zaz zbn zax zbm zbo zbw signed64 signed8 zar BitVec.ofInt_add BitVec.ofInt_mul ofInt_sub' zav zaw wide8 eqN neN zcc shr1 shr7 shr56
attribute [local go_sem high] zay zbv
attribute [local go_sem] zau zbx zai zal zac zbd zan zah zbk zaj zbc zbe
attribute [local go_sem] load26 load73 load23 store26 build73
attribute [local go_sem ↓] lrow26 lrow73 lrow23 srow26 zero26 brow73 zab zba zbb zaa zae
attribute [local go_sem] zag zap zaf zbf zbi zbp zam zaq zbq zbh zbg
attribute [local go_sem] nn2 nm2 nn3 nm3 nn4 nm4 nn5 nm5 nn6 nm6 nn7 nm7 nn8 nm8
section
attribute [local go_sem] acc_g0 acc_g1 acc_g2 acc_g4 acc_s0 acc_s1 acc_s2 acc_s4 accC_size accC_one accC_all loadAcc storeAcc bacc0 bacc2 bacc3 bacc3u bacc4
attribute [local go_sem ↓] lrowAcc srowAcc browAcc zeroAcc_run
attribute [local go_sem high] laidAt_acc
attribute [local irreducible] accC
theorem words_one (l : List (BitVec 64)) : ∀ v ∈ l.map (fun x => U x), v.oneCell' = true := by
  intro v hv
  obtain ⟨x, _, rfl⟩ := List.mem_map.1 hv
  rfl
end
end Go.Proofs.Hc
namespace Go.Proofs.Hc
open Go.RowKit
variable {me : Int}
attribute [local go_sem] zbr zcd zat zaz zbn zax zbm zbo zbw signed64 signed8 zar BitVec.ofInt_add BitVec.ofInt_mul ofInt_sub' zav zaw wide8 eqN neN zcc shr1 shr7 shr56
attribute [local go_sem high] zay zbv
attribute [local go_sem] zau zbx zai zal zac zbd zan zah zbk zaj zbc zbe
attribute [local go_sem] load26 load73 load23 store26 build73
attribute [local go_sem ↓] lrow26 lrow73 lrow23 srow26 zero26 brow73 zab zba zbb zaa zae
attribute [local go_sem] zag zap zaf zbf zbi zbp zam zaq zbq zbh zbg
attribute [local go_sem] nn2 nm2 nn3 nm3 nn4 nm4 nn5 nm5 nn6 nm6 nn7 nm7 nn8 nm8
attribute [local go_sem] acc_g0 acc_g1 acc_g2 acc_g4 acc_s0 acc_s1 acc_s2 acc_s4 accC_size accC_one accC_all loadAcc storeAcc bacc0 bacc2 bacc3 bacc3u bacc4
attribute [local go_sem ↓] lrowAcc srowAcc browAcc zeroAcc_run
attribute [local go_sem high] laidAt_acc
attribute [local go_sem] Oper.semAt_some zak
attribute [local irreducible] accC
theorem loadAcs (g o : Nat) (w : World) : (loadRow 264 ⟨g, o, none⟩).run Tryz.prog w = rowRes Tryz.prog 264 g o w ((w.heap[g]?).bind (rowAt o 5)) :=
  run_row Tryz.underlying264 rfl (by kernel_rfl) g o w
theorem storeAcs (g o : Nat) (vs : Array Value) (w : World) : (storeRow 264 ⟨g, o, none⟩ (.agg vs)).run Tryz.prog w = layRes Tryz.prog 264 g o vs w (((w.heap[g]?).map (canLay o 5 vs)).getD false) :=
  run_lay (by kernel_rfl) g o vs w
theorem lrowAcs (a : Addr) : loadVar 264 a = loadRow 264 a := rfl
theorem srowAcs (a : Addr) (v : Value) : storeVar 264 a v = storeRow 264 a v := rfl
theorem browAcs (ps : Array (Nat × Value)) : Instr.build 264 ps = buildRow 264 ps := rfl
theorem buildAcs (a b c d : Int) (w : World) : (buildRow 264 #[(0, .agg (accC a b c d))]).run Tryz.prog w = .ok (.agg (accC a b c d)) w := by kernel_rfl
theorem zeroAcs_run (w : World) : (zeroValue 264).run Tryz.prog w = .ok (.agg (accC 0 0 0 0)) w := by kernel_rfl
theorem boxAcs (a b c d : Int) (w : World) : (Instr.box 264 (.agg (accC a b c d))).run Tryz.prog w = .ok (.pointer (some ⟨w.heap.size, 0, none⟩)) (w.alloc (.cells (accC a b c d) 264)) := rfl
theorem boxAcc (a b c d : Int) (w : World) : (Instr.box 87 (.agg (accC a b c d))).run Tryz.prog w = .ok (.pointer (some ⟨w.heap.size, 0, none⟩)) (w.alloc (.cells (accC a b c d) 87)) := rfl
attribute [local go_sem] loadAcs storeAcs buildAcs boxAcs boxAcc
attribute [local go_sem ↓] lrowAcs srowAcs browAcs zeroAcs_run
theorem meth_load (v : Value) (w : World) : (method 473 268 v "honeycomb/cells.load").run Tryz.prog w = .ok (337, v) w := by kernel_rfl
theorem meth_swap (v : Value) (w : World) : (method 473 268 v "honeycomb/cells.swap").run Tryz.prog w = .ok (338, v) w := by kernel_rfl
theorem loadSeen (g o : Nat) (w : World) : (loadRow 93 ⟨g, o, none⟩).run Tryz.prog w = rowRes Tryz.prog 93 g o w ((w.heap[g]?).bind (rowAt o 2)) :=
  run_row Tryz.underlying93 rfl (by kernel_rfl) g o w
theorem storeSeen (g o : Nat) (vs : Array Value) (w : World) : (storeRow 93 ⟨g, o, none⟩ (.agg vs)).run Tryz.prog w = layRes Tryz.prog 93 g o vs w (((w.heap[g]?).map (canLay o 2 vs)).getD false) :=
  run_lay (by kernel_rfl) g o vs w
theorem lrowSeen (a : Addr) : loadVar 93 a = loadRow 93 a := rfl
theorem srowSeen (a : Addr) (v : Value) : storeVar 93 a v = storeRow 93 a v := rfl
def seenC (x : Int) (b : Bool) : Array Value := #[.int .u64 x, .bool b]
theorem seenC_size (x : Int) (b : Bool) : (seenC x b).size = 2 := rfl
theorem seenC_one (x : Int) (b : Bool) : allOne (seenC x b) = true := by unfold allOne seenC; simp [Value.oneCell']
theorem seenC_all (x : Int) (b : Bool) : (seenC x b).extract 0 2 = seenC x b := by have := Array.extract_size (xs := seenC x b); rwa [seenC_size] at this
theorem seenC_g0 (x : Int) (b : Bool) : (seenC x b)[0]? = some (.int .u64 x) := rfl
theorem browSeen (ps : Array (Nat × Value)) : Instr.build 93 ps = buildRow 93 ps := rfl
theorem buildSeen (x : Int) (b : Bool) (w : World) : (buildRow 93 #[(0, .int .u64 x), (1, .bool b)]).run Tryz.prog w = .ok (.agg (seenC x b)) w := by kernel_rfl
theorem buildSeen0 (w : World) : (buildRow 93 #[]).run Tryz.prog w = .ok (.agg (seenC 0 false)) w := by kernel_rfl
theorem zeroSeen_run (w : World) : (zeroValue 93).run Tryz.prog w = .ok (.agg (seenC 0 false)) w := by kernel_rfl
theorem laidAt_seen (x y : Int) (b c : Bool) (T : TypeId) (fr : Nat × Nat) : laidAt 0 (seenC x b) (.cells (seenC y c) T fr) = .cells (seenC x b) T fr := by
  rw [zah, laid_whole _ _ (by rw [seenC_size, seenC_size])]
attribute [local go_sem] meth_load meth_swap
attribute [local go_sem] seenC_size seenC_one seenC_all seenC_g0 loadSeen storeSeen buildSeen buildSeen0
attribute [local go_sem ↓] lrowSeen srowSeen browSeen zeroSeen_run
attribute [local go_sem high] laidAt_seen
attribute [local irreducible] seenC
end Go.Proofs.Hc
namespace Go.Proofs.Hc
open Go.RowKit
attribute [local go_sem] zbr zcd zat zaz zbn zax zbm zbo zbw signed64 signed8 zar BitVec.ofInt_add BitVec.ofInt_mul ofInt_sub' zav zaw wide8 eqN neN zcc shr1 shr7 shr56
attribute [local go_sem high] zay zbv
attribute [local go_sem] zau zbx zai zal zac zbd zan zah zbk zaj zbc zbe
attribute [local go_sem] load26 load73 load23 store26 build73
attribute [local go_sem ↓] lrow26 lrow73 lrow23 srow26 zero26 brow73 zab zba zbb zaa zae
attribute [local go_sem] zag zap zaf zbf zbi zbp zam zaq zbq zbh zbg
attribute [local go_sem] nn2 nm2 nn3 nm3 nn4 nm4 nn5 nm5 nn6 nm6 nn7 nm7 nn8 nm8
section
attribute [local go_sem] zar zbj
attribute [local go_sem] Oper.semAt_some zak
attribute [local go_sem] pen_g0 pen_g1 pen_g2 pen_g3 pen_g4 pen_g5 pen_g6 pen_g7 pen_g8 pen_g9 pen_g10 pen_g11 pen_g12 pen_g13 pen_g14 pen_g15 pen_g16 pen_g17 penC_size penC_one penC_all
attribute [local irreducible] penC
theorem tmod2_64w (x : BitVec 64) : (N x).tmod 2 = N (x &&& 1#64) := by
  rw [Int.tmod_eq_emod_of_nonneg (N_nonneg x)]
  unfold N
  rw [BitVec.toNat_and]
  show ((x.toNat : Int) % 2) = ((x.toNat &&& (2 ^ 1 - 1) : Nat) : Int)
  rw [Nat.and_two_pow_sub_one_eq_mod]; rfl
theorem bit64w (x : BitVec 64) : (N (x &&& 1#64) == 1) = oddB x := by
  have h : (N (x &&& 1#64) == N (1#64)) = ((x &&& 1#64) == 1#64) := eqN _ _
  exact h
theorem bit64zw (x : BitVec 64) : (N (x &&& 1#64) == 0) = !oddB x := by
  rw [← bit64w]
  have h : N (x &&& 1#64) = 0 ∨ N (x &&& 1#64) = 1 := by rw [← tmod2_64w, Int.tmod_eq_emod_of_nonneg (N_nonneg x)]; omega
  rcases h with h | h <;> rw [h] <;> rfl
attribute [local go_sem high] tmod2_64w bit64w bit64zw
theorem brow170 (ps : Array (Nat × Value)) : Instr.build 281 ps = buildRow 281 ps := rfl
theorem build170 (p : PenT) (w : World) : (buildRow 281 #[(0, .agg (penC p))]).run Tryz.prog w = .ok (.agg (penC p)) w := by kernel_rfl
theorem box170 (p : PenT) (w : World) : (Instr.box 281 (.agg (penC p))).run Tryz.prog w = .ok (.pointer (some ⟨w.heap.size, 0, none⟩)) (w.alloc (.cells (penC p) 281)) := rfl
attribute [local go_sem] build170 box170 boxPen loadPen storePen
attribute [local go_sem ↓] brow170 lrowPen srowPen
theorem cell_ok (n k : Int) (h0 : 0 ≤ n) (h1 : n < 128) (h2 : 0 ≤ k) (h3 : k < 40) (w : World) : Calls Tryz.prog 44 #[I n, I k] w fun e w' => e = .returned (.tuple #[I (16 + 40 * n + k), I 0]) ∧ w = w' := by
  go_enter Tryz.func44, Tryz.ntmps44
  go_wp2
  go_ret2
  exact ⟨by rw [show 16 + 40 * n + k = 16 + n * 40 + k by omega]; rfl, rfl⟩
end
section
attribute [local go_sem] Oper.semAt_some zak
attribute [local go_sem] loadP storeP allOne_pair
attribute [local go_sem high] laidAt_p
attribute [local go_sem ↓] lrowP srowP zeroP
theorem box_pair (x y : BitVec 64) (w : World) : (Instr.box 31 (.agg #[U x, U y])).run Tryz.prog w = .ok (.pointer (some ⟨w.heap.size, 0, none⟩)) (w.alloc (.cells #[U x, U y] 31)) := rfl
attribute [local go_sem] box_pair
end
section
attribute [local go_sem] acc_g0 acc_g1 acc_g2 acc_g4 acc_s0 acc_s1 acc_s2 acc_s4 accC_size accC_one accC_all loadAcc storeAcc bacc0 bacc2 bacc3 bacc3u bacc4
attribute [local go_sem ↓] lrowAcc srowAcc browAcc zeroAcc_run
attribute [local go_sem high] laidAt_acc
attribute [local go_sem] zar zbj
attribute [local go_sem] Oper.semAt_some zak
attribute [local go_sem] zci pacell0 pacell1 pacell2 pacell3 pacell4 pacell5 pacell6 pacell7 pacell42
attribute [local go_sem] zcv zdi zdc zcy zcx zdb zdh zda zcf zct part_s6 zdg zco zbl zch zcj boxPart loadPart storePart zce zcq buildPart0 buildPart4
attribute [local go_sem ↓] lrowPart srowPart browPart zck zbs
attribute [local go_sem high] zas
attribute [local irreducible] partC
attribute [local irreducible] accC
theorem s22Load_any (p : PartT) (g : Nat) (wd : Int) (s0 : 0 ≤ p.sl) (s1 : p.sl < 128) (h0 : 0 ≤ wd) (h1 : wd < 40) (w : World) (hg : w.heap[g]? = some (.cells (partC p) 179 (0, 0))) :
    Calls Tryz.prog 171 #[.pointer (some ⟨g, 0, none⟩), I wd] w fun e w' => e = .returned (.agg (accC p.who 1 (16 + 40 * p.sl + wd) 0)) ∧ Ch [] w w' := by
  have K1 := fun w => cell_ok p.sl wd s0 s1 h0 h1 w
  have C0 : Ch [] w (w.alloc (.cells (accC 0 0 0 0) 87)) := (Ch.refl [] w).alloc _
  have z0 : (w.alloc (.cells (accC 0 0 0 0) 87)).heap[w.heap.size]? = some (.cells (accC 0 0 0 0) 87 (0, 0)) := by rw [zab, if_pos rfl]
  have g0 := hkeep C0 hg
  have hgn : ¬ g = w.heap.size := by have := (Array.getElem?_eq_some_iff.1 hg).1; omega
  clear hg
  go_enter Tryz.func171, Tryz.ntmps171
  go_upto_region 1 with (fail)
  obtain ⟨w0, hw0⟩ : ∃ W, w.alloc (.cells (accC 0 0 0 0) 87) = W := ⟨_, rfl⟩
  rw [hw0] at C0 z0 g0 ⊢
  clear hw0
  obtain ⟨B, hB⟩ : ∃ b, w.heap.size = b := ⟨_, rfl⟩
  rw [hB] at z0 hgn ⊢
  have hBw : w.heap.size ≤ B := by omega
  clear hB
  go_wp2_with (go_at_call 44; refine (K1 _).mono ?_; rintro e w' ⟨rfl, rfl⟩)
  refine bodyPost_ret (acc_result Tryz.results171 _ B _ p.who 1 (16 + 40 * p.sl + wd) 0 rfl ?_) rfl ⟨rfl, C0.onObj (.inr hBw) _⟩
  rw [zae, if_pos rfl, z0, Option.map_some, laidAt_acc]
theorem s22Store_any (p : PartT) (g : Nat) (sl wd : Int) (x : BitVec 64) (s0 : 0 ≤ sl) (s1 : sl < 128) (h0 : 0 ≤ wd) (h1 : wd < 40) (w : World) (hg : w.heap[g]? = some (.cells (partC p) 179 (0, 0))) :
    Calls Tryz.prog 172 #[.pointer (some ⟨g, 0, none⟩), I sl, I wd, U x] w fun e w' => e = .returned (.agg (accC p.who 2 (16 + 40 * sl + wd) (N x))) ∧ Ch [] w w' := by
  have K1 := fun w => cell_ok sl wd s0 s1 h0 h1 w
  have C0 : Ch [] w (w.alloc (.cells (accC 0 0 0 0) 87)) := (Ch.refl [] w).alloc _
  have z0 : (w.alloc (.cells (accC 0 0 0 0) 87)).heap[w.heap.size]? = some (.cells (accC 0 0 0 0) 87 (0, 0)) := by rw [zab, if_pos rfl]
  have g0 := hkeep C0 hg
  have hgn : ¬ g = w.heap.size := by have := (Array.getElem?_eq_some_iff.1 hg).1; omega
  clear hg
  go_enter Tryz.func172, Tryz.ntmps172
  go_upto_region 1 with (fail)
  obtain ⟨w0, hw0⟩ : ∃ W, w.alloc (.cells (accC 0 0 0 0) 87) = W := ⟨_, rfl⟩
  rw [hw0] at C0 z0 g0 ⊢
  clear hw0
  obtain ⟨B, hB⟩ : ∃ b, w.heap.size = b := ⟨_, rfl⟩
  rw [hB] at z0 hgn ⊢
  have hBw : w.heap.size ≤ B := by omega
  clear hB
  go_wp2_with (go_at_call 44; refine (K1 _).mono ?_; rintro e w' ⟨rfl, rfl⟩)
  refine bodyPost_ret (acc_result Tryz.results172 _ B _ p.who 2 (16 + 40 * sl + wd) (N x) rfl ?_) rfl ⟨rfl, C0.onObj (.inr hBw) _⟩
  rw [zae, if_pos rfl, z0, Option.map_some, laidAt_acc]
end
section
attribute [local go_sem] Oper.semAt_some zak
theorem eqWords_any (l : List (BitVec 64)) (a b : Option Addr) (c d : Nat) (cur cur2 : Array Value) (w : World) (hl : l.length ≤ 900000)
    (hpa : WordsAt cur l) (ha : 0 < l.length → ∃ r, a = some ⟨r, 0, none⟩) (hr : ∀ r, a = some ⟨r, 0, none⟩ → w.heap[r]? = some (.cells cur 22 (0, 0)))
    (hpb : WordsAt cur2 l) (hb : 0 < l.length → ∃ r, b = some ⟨r, 0, none⟩) (hs : ∀ r, b = some ⟨r, 0, none⟩ → w.heap[r]? = some (.cells cur2 22 (0, 0))) :
    Calls Tryz.prog 31 #[.slice a l.length c, .slice b l.length d] w fun e w' => e = .returned (.bool true) ∧ Ch [] w w' := by
  have HP := Lib.hid hpa
  have HA := Lib.hid ha
  have HR := Lib.hid hr
  have HPB := Lib.hid hpb
  have HAB := Lib.hid hb
  have HRB := Lib.hid hs
  clear hpa ha hr hpb hb hs
  go_enter Tryz.func31, Tryz.ntmps31
  go_wp2
  go_loopw [13] (fun i wr => ∃ j : Nat, i = .int .i64 j ∧ j ≤ l.length ∧ Ch [] w wr) (fun i _ => l.length - (intOf i).toNat)
  case atStart => exact ⟨0, rfl, Nat.zero_le _, Ch.refl _ _⟩
  case round =>
    obtain ⟨j, hj, hjl, hcr⟩ := hrel
    subst hj
    rcases Nat.lt_or_ge j l.length with hlt | hge
    · obtain ⟨r, hra⟩ := HA.out (by omega)
      obtain ⟨q, hqb⟩ := HAB.out (by omega)
      obtain ⟨y, hy⟩ : ∃ y, l[j]? = some y := ⟨l[j]'hlt, List.getElem?_eq_getElem hlt⟩
      have hrow : cur[j]? = some (U y) := HP.out j y hy
      have hrow2 : cur2[j]? = some (U y) := HPB.out j y hy
      subst hra hqb
      have hrr : wr.heap[r]? = some (.cells cur 22 (0, 0)) := hkeep hcr (HR.out r rfl)
      have hqq : wr.heap[q]? = some (.cells cur2 22 (0, 0)) := hkeep hcr (HRB.out q rfl)
      have hdec : decide (j < l.length) = true := by simpa using hlt
      have hg0 : ∀ g : Gar wr, (g.1).heap[q]? = some (.cells cur2 22 (0, 0)) := fun g => hkeep g.2 hqq
      have hg1 : ∀ g : Gar wr, (g.1).heap[r]? = some (.cells cur 22 (0, 0)) := fun g => hkeep g.2 hrr
      clear hy
      go_wp2
      refine wp_region_gar (by kernel_rfl) (by kernel_rfl) ?_
      repeat (go_big_quiet_step (fail))
      refine wpQuiet_nil ?_
      rintro w1 ⟨g1, hw1⟩
      have hc1 : Ch [] w w1 := hcr.trans (by rw [hw1]; exact g1.2)
      clear hw1 g1 hg0 hg1
      go_wp2
      go_roundw
      case rel => exact ⟨j + 1, by go_num, hlt, hc1⟩
      case measure => simp [intOf]; omega
    · have hj : j = l.length := by omega
      subst hj
      go_wp2
      go_ret
      exact ⟨rfl, hcr⟩
end
section
attribute [local go_sem] acc_g0 acc_g1 acc_g2 acc_g4 acc_s0 acc_s1 acc_s2 acc_s4 accC_size accC_one accC_all loadAcc storeAcc bacc0 bacc2 bacc3 bacc3u bacc4
attribute [local go_sem ↓] lrowAcc srowAcc browAcc zeroAcc_run
attribute [local go_sem high] laidAt_acc
attribute [local go_sem] zar zbj
attribute [local go_sem] Oper.semAt_some zak
attribute [local go_sem] zci pacell0 pacell1 pacell2 pacell3 pacell4 pacell5 pacell6 pacell7 pacell42
attribute [local go_sem] zcv zdi zdc zcy zcx zdb zdh zda zcf zct part_s6 zdg zco zbl zch zcj boxPart loadPart storePart zce zcq buildPart0 buildPart4
attribute [local go_sem ↓] lrowPart srowPart browPart zck zbs
attribute [local go_sem high] zas
attribute [local irreducible] partC
attribute [local go_sem] box26 zbz cell0 cell1 cell2 cell3 cell4 zcb zca
attribute [local irreducible] accC tcells
attribute [local go_sem high] zcu tmod2_64w bit64w bit64zw
theorem eqin_part (p : PartT) (w : World) : (Op.equalIn 10000 51 (.agg (partC p)) (.agg (partC p))).run Tryz.prog w = .ok true w := self_part 9996 p w
attribute [local go_sem] guardPart
attribute [local go_sem ↓] eqin_part eql_part neq_part
theorem build2i_21 (w : World) : (Instr.build 45 #[(0, .int .i64 2), (1, .int .i64 1)]).run Tryz.prog w = .ok (.agg #[.int .i64 2, .int .i64 1]) w := by kernel_rfl
attribute [local go_sem] build2i_21
theorem eq_rows22 {l : List (BitVec 64)} {n : Nat} (hn : n ≤ 900000) (hl : l.length = n) (R R2 c d : Nat) (cur cur2 : Array Value) (h1 : WordsAt cur l) (h2 : WordsAt cur2 l) (w : World) (hb : w.heap[R]? = some (.cells cur 22 (0, 0))) (hb2 : w.heap[R2]? = some (.cells cur2 22 (0, 0))) :
    Calls Tryz.prog 31 #[.slice (some ⟨R, 0, none⟩) n c, .slice (some ⟨R2, 0, none⟩) n d] w fun e w' => e = .returned (.bool true) ∧ Ch [] w w' := by
  subst hl
  exact eqWords_any l _ _ c d cur cur2 w hn h1 (fun _ => ⟨R, rfl⟩) (fun r h => by cases h; exact hb) h2 (fun _ => ⟨R2, rfl⟩) (fun r h => by cases h; exact hb2)
end
end Go.Proofs.Hc
