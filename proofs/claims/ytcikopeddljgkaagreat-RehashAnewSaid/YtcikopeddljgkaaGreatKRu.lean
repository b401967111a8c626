/- Tables laid anew, and halves: plain law. -/
import Derived.Test.YtcikopeddljgkaaGreatKHcb
import Derived.Test.YtcikopeddljgkaaGreatKHdb
import Derived.Test.YtcikopeddljgkaaGreatKSb
import Derived.Test.YtcikopeddljgkaaGreatKHdn
import Derived.Test.YtcikopeddljgkaaGreatKHj
import Derived.Test.YtcikopeddljgkaaGreatKHlan
import Derived.Test.YtcikopeddljgkaaGreatKHmet
import Derived.Test.YtcikopeddljgkaaGreatKHpa
import Derived.Test.YtcikopeddljgkaaGreatKHpb
import Derived.Test.YtcikopeddljgkaaGreatKHr
import Derived.Test.YtcikopeddljgkaaGreatKHs
import Derived.Test.YtcikopeddljgkaaGreatKHta
import Derived.Test.YtcikopeddljgkaaGreatKHtc
import Derived.Test.YtcikopeddljgkaaGreatKRn
import Derived.Test.YtcikopeddljgkaaGreatKHye
import Derived.Test.YtcikopeddljgkaaGreatKRb
import Derived.Test.YtcikopeddljgkaaGreatKRj
import Derived.Test.YtcikopeddljgkaaGreatKRv
import Derived.Below
import Derived.BigQuiet
import Derived.Deep.Draws
import Derived.Deep.Light
import Derived.Deep.QuietTactic
import Derived.Deep.RegionHeld
import Derived.Laws.CopyRow
import Derived.Laws.Tables
import Derived.Lib.AppendZerosOnto
import Derived.Lib.Hide
import Derived.Lib.Tables
import Derived.Lib.Walk
import Derived.LoopIn
import Derived.LoopN
import Derived.LoopNIn
import Derived.Maps.AppendAt
import Derived.Maps.Views
import Derived.OwnWalkIn
import Derived.RangeFuncBox
import Derived.RangeFuncCalls
import Derived.RangeFuncRecord
import Derived.RangeFuncSeq
import Derived.Recover
import Derived.RegionTactic
import Derived.Shelf.Slices.Clone
import Derived.StillTail
import Derived.StillTailTactics
import Derived.TacticsInMore
import Derived.Test.YtcikopeddljgkaaGreatProg
import Derived.WalkKit
import Derived.WalkLawsBesides
import Derived.WalkMore
import Derived.WalkSpells
import Derived.Deep.OwnRows
import Derived.IntWalk
import Derived.Laws.AppendOwn
import Derived.Laws.CopyOwn
import Derived.Laws.StructEq
import Derived.OpenShut
import Derived.ProofKit
import Derived.ScopeJumps
set_option linter.unusedSimpArgs false
set_option linter.unusedVariables false
namespace Go.Proofs.Hc
open Go.RowKit
/-- A table none of whose slots is deleted. -/
def Clean (t : Tab) : Prop := ∀ j, j < 16 → bt t j ≠ 254#8
theorem clean_nFill {t : Tab} {s : BitVec 64} (m : May t s) (h : Clean t) : nFill t = nFull t := by
  unfold nFill nFull
  apply List.countP_congr
  intro j hj
  have hj16 : j < 16 := by simpa using hj
  rw [fillJ, fullJ, bne_iff_ne, decide_eq_true_iff]
  rcases m.ok j hj16 with e | e | e
  · exact ⟨fun _ => e, fun _ h => by rw [h] at e; exact absurd e (by decide)⟩
  · rw [e]; exact ⟨fun h => absurd rfl h, fun h => absurd h (by decide)⟩
  · exact absurd e (h j hj16)
theorem clean_can {t : Tab} {s : BitVec 64} (m : May t s) (h : Clean t) : t.can = 14 - t.live := by rw [m.can, m.live, clean_nFill m h]
theorem Clean.fill {t : Tab} (h : Clean t) (s k v : BitVec 64) (sl : Nat) : Clean (fillT t s k v sl) := by
  intro j hj
  rw [bt_fill]
  split
  · intro e
    have := hash2_lt (hashOf s k)
    rw [e] at this; exact absurd this (by decide)
  · exact h j hj
theorem bt_bare (c : BitVec 64) (d : Int) (p : BitVec 64) (j : Nat) : bt (bareT c d p) j = 128#8 := byteAt_tops _ (by omega)
theorem clean_bare (c : BitVec 64) (d : Int) (p : BitVec 64) : Clean (bareT c d p) := fun j _ => by rw [bt_bare]; decide
theorem bare_full (c : BitVec 64) (d : Int) (p : BitVec 64) (j : Nat) : fullJ (bareT c d p) j = false := by rw [fullJ, bt_bare]; decide
theorem bare_pairs (c : BitVec 64) (d : Int) (p : BitVec 64) (q : BitVec 64 × BitVec 64) : ¬ q ∈ pairsT (bareT c d p) := by
  rw [mem_pairs]
  rintro ⟨j, _, hf, _⟩
  rw [bare_full] at hf; cases hf
theorem bare_flat {c : BitVec 64} {d : Int} {p : BitVec 64} (h0 : 0 ≤ d) (h5 : d ≤ 5) (hp : N (p >>> d.toNat) = 0) : flatT (bareT c d p) = true :=
  (flatT_iff _).2 ⟨h0, h5, hp, by show (0 : Int) ≤ 14; omega, by show (14 : Int) ≤ 14; omega, by show (0 : Int) ≤ 0; omega, by show (0 : Int) ≤ 14; omega⟩
theorem bare_may {c : BitVec 64} {d : Int} {p : BitVec 64} (s : BitVec 64) (h : flatT (bareT c d p) = true) : May (bareT c d p) s := by
  have h1 : nFull (bareT c d p) = 0 := by
    unfold nFull
    rw [List.countP_eq_zero]
    intro j _
    rw [bare_full]; simp
  have h2 : nFill (bareT c d p) = 0 := by
    unfold nFill
    rw [List.countP_eq_zero]
    intro j _
    rw [fillJ, bt_bare]; decide
  refine ⟨h, fun j _ => .inr (.inl (bt_bare c d p j)), fun j _ hf => ?_, fun i j _ _ hf => ?_, ?_, ?_⟩
  · rw [bare_full] at hf; cases hf
  · rw [bare_full] at hf; cases hf
  · rw [h1]; rfl
  · rw [h2]; rfl
theorem has_fill {t : Tab} {s k v : BitVec 64} {sl : Nat} (m : May (fillT t s k v sl) s) {h : BitVec 64} (hh : hasT t h = true) : hasT (fillT t s k v sl) h = true :=
  hasT_of hh m.flat (fill_depth ..) (fill_pre ..)
/-- What pairs come to that are put one behind the other. -/
structure Laid (s : BitVec 64) (t0 : Tab) (l : List (BitVec 64 × BitVec 64)) (x : Tab) : Prop where
  eq : laidT s t0 l = .ok x
  may : May x s
  clean : Clean x
  mem : ∀ q, q ∈ pairsT x ↔ q ∈ l ∨ q ∈ pairsT t0
  live : x.live = t0.live + l.length
  depth : x.depth = t0.depth
  pre : x.pre = t0.pre
  count : x.count = t0.count
theorem laid_ok {s : BitVec 64} : ∀ (l : List (BitVec 64 × BitVec 64)) (t0 : Tab), May t0 s → Clean t0 → (∀ p ∈ l, hasT t0 (hashOf s p.1) = true) → ((l.map (·.1)).Nodup) → (∀ p ∈ l, ∀ q ∈ pairsT t0, q.1 ≠ p.1) → t0.live + l.length ≤ 14 → ∃ x, Laid s t0 l x
  | [], t0, m, hc, _, _, _, _ => ⟨t0, rfl, m, hc, fun q => by simp, by simp, rfl, rfl, rfl⟩
  | p :: l, t0, m, hc, hg, hn, hd, hl => by
    have hcan := clean_can m hc
    rw [List.length_cons] at hl
    rw [List.map_cons, List.nodup_cons] at hn
    have hno : hasKT t0 p.1 = false := by
      cases h : hasKT t0 p.1 with
      | false => rfl
      | true =>
        obtain ⟨j, hj, hf, hk⟩ := (hasKT_iff t0 p.1).1 h
        exact absurd hk (hd p (by simp) (t0.k j, t0.v j) ((mem_pairs t0 _).2 ⟨j, hj, hf, rfl⟩))
    obtain ⟨sl, hsl⟩ := place_room m (by omega) (hg p (by simp)) hno
    have hsp := place_spot hsl
    have m' := m.fill p.2 hsp
    have hp' := fill_pairs p.2 hsp
    obtain ⟨x, hx⟩ := laid_ok l (fillT t0 s p.1 p.2 sl) m' (hc.fill _ _ _ _) (fun q hq => has_fill m' (hg q (by simp [hq]))) hn.2 (fun q hq r hr => by
      rcases (hp' r).1 hr with rfl | hr
      · intro e; exact hn.1 (List.mem_map.2 ⟨q, hq, e.symm⟩)
      · exact hd q (by simp [hq]) r hr) (by show t0.live + 1 + _ ≤ 14; omega)
    refine ⟨x, ?_, hx.may, hx.clean, fun q => ?_, ?_, hx.depth.trans (fill_depth ..), hx.pre.trans (fill_pre ..), hx.count.trans (fill_count ..)⟩
    · rw [laidT_ok hsl]; exact hx.eq
    · rw [hx.mem q, hp' q, List.mem_cons]
      constructor
      · rintro (h | h | h)
        · exact .inl (.inr h)
        · exact .inl (.inl h)
        · exact .inr h
      · rintro ((h | h) | h)
        · exact .inr (.inl h)
        · exact .inl h
        · exact .inr (.inr h)
    · rw [hx.live]; show t0.live + 1 + (l.length : Int) = _; rw [List.length_cons]; omega
theorem live_le {t : Tab} {s : BitVec 64} (m : May t s) : ((pairsT t).length : Int) ≤ 14 := by
  rw [m.len]; exact ((flatT_iff t).1 m.flat).2.2.2.2.2.2
/-- A table that is laid anew. -/
theorem anew_ok {t : Tab} {s : BitVec 64} (m : May t s) : ∃ x, Laid s (bareT t.count t.depth t.pre) (pairsT t) x := by
  obtain ⟨a, b, c, _⟩ := (flatT_iff t).1 m.flat
  have hfl := bare_flat (c := t.count) a b c
  refine laid_ok _ _ (bare_may s hfl) (clean_bare _ _ _) (fun p hp => ?_) m.keys (fun p _ q hq => absurd hq (bare_pairs _ _ _ q)) ?_
  · obtain ⟨j, hj, hf, rfl⟩ := (mem_pairs t p).1 hp
    exact (hasT_iff _ _).2 ⟨hfl, ((hasT_iff _ _).1 (m.slot j hj hf).2.1).2⟩
  · show (0 : Int) + _ ≤ 14
    have := live_le m
    omega
end Go.Proofs.Hc
/- Package rehash: many, own, Begin, Inside, Step (printed by gen_step20.py). -/
namespace Go.Proofs.Hc
open Go.RowKit
set_option linter.unusedVariables false
attribute [local go_sem] wrap_u64 wrap_u8 bits_xor64 bits_and64 bits_or64 bits_not64 bits_xor8 bits_and8 bits_or8 signed64 signed8 ofInt_N BitVec.ofInt_add BitVec.ofInt_mul ofInt_sub' ofInt8_N64 ofInt64_N8 wide8 eqN neN shr_pow shr1 shr7 shr56
attribute [local go_sem high] bits_com64 shl_wrap
attribute [local go_sem] cell_heap ice_heap cellAt_cells iceAt_cells setAt_cells rowAt_cells canLay_cells laidAt_cells size_onObj size_setCell rowRes_some layRes_true
attribute [local go_sem] load26 load73 load23 store26 build73
attribute [local go_sem ↓] lrow26 lrow73 lrow23 srow26 zero26 brow73 heap_alloc heap_drew heap_drewN heap_setCell heap_onObj
attribute [local go_sem] tcells_size hcells_size tcells_get hcells_get tcells_one hcells_one hcells_table tcells_table hcells_all hcells_ctrl tcells_ctrl
attribute [local go_sem] nn2 nm2 nn3 nm3 nn4 nm4 nn5 nm5 nn6 nm6 nn7 nm7 nn8 nm8
attribute [local go_sem] nn2 nm2 nn3 nm3 nn4 nm4 nn5 nm5 nn6 nm6 nn7 nm7 nn8 nm8
attribute [local go_sem] acc_g0 acc_g1 acc_g2 acc_g4 acc_s0 acc_s1 acc_s2 acc_s4 accC_size accC_one accC_all loadAcc storeAcc bacc0 bacc2 bacc3 bacc3u bacc4
attribute [local go_sem ↓] lrowAcc srowAcc browAcc zeroAcc_run
attribute [local go_sem high] laidAt_acc
attribute [local go_sem] seenC_size seenC_one seenC_all seenC_g0 loadSeen storeSeen buildSeen buildSeen0
attribute [local go_sem ↓] lrowSeen srowSeen browSeen zeroSeen_run
attribute [local go_sem high] laidAt_seen
attribute [local irreducible] seenC
attribute [local go_sem] ofInt_N ofInt_pow8
attribute [local go_sem] Oper.semAt_some make_func1
attribute [local go_sem] layC_idx lcell0 lcell1 lcell2 lcell3 lcell4 lcell5 lcell46
attribute [local go_sem] lay_g0 lay_g1 lay_g2 lay_g3 lay_g4 lay_g5 lay_g46 lay_s0 lay_s4 lay_s5 lay_s46 layC_size layC_one layC_all layC_ws boxLay loadLay storeLay build_lay box_lay buildLay0 buildLay2 buildLay3
attribute [local go_sem ↓] lrowLay srowLay browLay brow_lay zeroLay_run
attribute [local go_sem high] laidAt_lay
attribute [local irreducible] layC
attribute [local irreducible] accC
attribute [local go_sem] boxSeen
theorem lMany_any (a : Option Addr) (n c : Nat) (w : World) : Calls Tryz.prog 101 #[.slice a n c] w fun e w' => e = .returned (.bool (decide (1 ≤ n) && decide (n ≤ 8192))) ∧ w = w' := by
  obtain ⟨r, hr⟩ : ∃ r, (decide (1 ≤ n) && decide (n ≤ 8192)) = r := ⟨_, rfl⟩
  rw [hr]
  have hcs : n < 1 ∧ r = false ∨ 1 ≤ n ∧ n ≤ 8192 ∧ r = true ∨ 1 ≤ n ∧ ¬ n ≤ 8192 ∧ r = false := by
    rw [← hr]
    by_cases h1 : 1 ≤ n
    · by_cases h2 : n ≤ 8192
      · right; left; exact ⟨h1, h2, by rw [decide_eq_true h1, decide_eq_true h2]; rfl⟩
      · right; right; exact ⟨h1, h2, by rw [decide_eq_false h2, Bool.and_false]⟩
    · left; exact ⟨by omega, by rw [decide_eq_false h1, Bool.false_and]⟩
  clear hr
  rcases hcs with ⟨h1, rfl⟩ | ⟨h1, h2, rfl⟩ | ⟨h1, h2, rfl⟩
  · have h1' : ¬ (1 : Int) ≤ n := by omega
    go_enter Tryz.func101, Tryz.ntmps101
    go_wp2
    go_ret
    exact ⟨rfl, rfl⟩
  · have h1' : (1 : Int) ≤ n := by omega
    have h2' : (n : Int) ≤ 8192 := by omega
    go_enter Tryz.func101, Tryz.ntmps101
    go_wp2
    go_ret
    exact ⟨rfl, rfl⟩
  · have h1' : (1 : Int) ≤ n := by omega
    have h2' : ¬ (n : Int) ≤ 8192 := by omega
    go_enter Tryz.func101, Tryz.ntmps101
    go_wp2
    go_ret
    exact ⟨rfl, rfl⟩
set_option maxHeartbeats 1000000 in
set_option maxRecDepth 100000 in
theorem lOwn_any (l : List (BitVec 64)) (g c : Nat) (cur : Array Value) (w : World) (hl : l.length ≤ 9000) (hb : w.heap[g]? = some (.cells cur 22 (0, 0))) (hw : WordsAt cur l) :
    Calls Tryz.prog 102 #[.slice (some ⟨g, 0, none⟩) l.length c] w fun e w' => e = .returned (.slice (some ⟨w.heap.size, 0, none⟩) l.length l.length) ∧ w'.heap[w.heap.size]? = some (.cells (wcells l) 22 (0, 0)) ∧ Ch [] w w' := by
  have hm := fun w => run_make_row' (P := Tryz.prog) 44 22 (.int .u64 0) 8 Tryz.underlying44 infoU rfl .i64 .i64 l.length (by omega) (by omega) w
  have hgn : ¬ g = w.heap.size := by have := (Array.getElem?_eq_some_iff.1 hb).1; omega
  have hn : (w.alloc (.cells (madeCells #[.int .u64 0] l.length) 22)).heap[w.heap.size]? = some (.cells (madeCells #[.int .u64 0] l.length) 22 (0, 0)) := by rw [heap_alloc, if_pos rfl]
  have hlen : (l.map fun x => U x).length = l.length := List.length_map ..
  have hcp := run_copy_row (P := Tryz.prog) (w.alloc (.cells (madeCells #[.int .u64 0] l.length) 22)) 44 44 3 22 w.heap.size 0 l.length l.length ⟨g, 0, none⟩ l.length c (madeCells #[.int .u64 0] l.length) 22 (l.map fun x => U x) Tryz.underlying44 (by kernel_rfl) hn (by rw [hlen]; exact (Nat.min_self _).symm) (by
    intro j v hj
    rw [List.getElem?_map] at hj
    obtain ⟨x, hx, rfl⟩ := Option.map_eq_some_iff.1 hj
    rw [Addr.add_lit, cell_heap, heap_alloc, if_neg hgn, hb, Option.bind_some, cellAt_cells, Nat.zero_add]
    exact hw j x hx) (by rw [hlen, size_madeCells]; omega) (words_one l)
  have hrow : ((madeCells #[.int .u64 0] l.length).toList.take 0 ++ (l.map fun x => U x) ++ (madeCells #[.int .u64 0] l.length).toList.drop (0 + (l.map fun x => U x).length)).toArray = wcells l := by
    rw [List.take_zero, List.nil_append, List.drop_eq_nil_of_le (by rw [hlen, Array.length_toList, size_madeCells]; omega), List.append_nil]; rfl
  rw [hrow, hlen] at hcp
  have hh := setRow_heap (w.alloc (.cells (madeCells #[.int .u64 0] l.length) 22)) w.heap.size _ (wcells l) 22 (0, 0) hn
  have hC : Ch [] w ((w.alloc (.cells (madeCells #[.int .u64 0] l.length) 22)).setRow w.heap.size (wcells l)) := by
    refine ((Ch.refl [] w).alloc (.cells (madeCells #[.int .u64 0] l.length) 22)).trans2 (T := [w.heap.size]) ⟨rfl, rfl, rfl, by simp [World.setRow], fun k _ hk => setRow_other _ _ _ _ (by simpa using hk)⟩ (by simp)
  generalize (w.alloc (.cells (madeCells #[.int .u64 0] l.length) 22)).setRow w.heap.size (wcells l) = W2 at *
  clear hrow hn hb hw hgn
  go_enter Tryz.func102, Tryz.ntmps102
  go_wp2
  go_ret
  exact ⟨rfl, hh, hC⟩
theorem accv_put (a b c d : Int) (w : World) : (World.onObj (w.alloc (.cells (accC 0 0 0 0) 87)) w.heap.size (laidAt 0 (accC a b c d))).heap[w.heap.size]? = some (.cells (accC a b c d) 87 (0, 0)) := by
  rw [heap_onObj, if_pos rfl, heap_alloc, if_pos rfl, Option.map_some, laidAt_acc]
theorem accv_put_ch (a b c d : Int) (w : World) : Ch [] w (World.onObj (w.alloc (.cells (accC 0 0 0 0) 87)) w.heap.size (laidAt 0 (accC a b c d))) := ((Ch.refl [] w).alloc _).onObj (.inr (Nat.le_refl _)) _
theorem seen_put (x : Int) (b : Bool) (w : World) : (World.onObj (w.alloc (.cells (seenC 0 false) 93)) w.heap.size (laidAt 0 (seenC x b))).heap[w.heap.size]? = some (.cells (seenC x b) 93 (0, 0)) := by
  rw [heap_onObj, if_pos rfl, heap_alloc, if_pos rfl, Option.map_some, laidAt_seen]
theorem seen_put_ch (x : Int) (b : Bool) (w : World) : Ch [] w (World.onObj (w.alloc (.cells (seenC 0 false) 93)) w.heap.size (laidAt 0 (seenC x b))) := ((Ch.refl [] w).alloc _).onObj (.inr (Nat.le_refl _)) _
end Go.Proofs.Hc
