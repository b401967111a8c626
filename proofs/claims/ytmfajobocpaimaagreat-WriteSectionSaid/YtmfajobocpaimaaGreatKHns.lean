/- Package layout: Cell; package write: Check. -/
import Derived.Test.YtmfajobocpaimaaGreatKHmet
import Derived.Test.YtmfajobocpaimaaGreatKHcs
import Derived.Test.YtmfajobocpaimaaGreatKHm
import Derived.Test.YtmfajobocpaimaaGreatKHnl
import Derived.Test.YtmfajobocpaimaaGreatKHnq
import Derived.Test.YtmfajobocpaimaaGreatKHnr
import Derived.Test.YtmfajobocpaimaaGreatKHni
import Derived.Test.YtmfajobocpaimaaGreatKHxh
import Derived.Below
import Derived.BigQuiet
import Derived.Deep.Draws
import Derived.Deep.Light
import Derived.Deep.QuietTactic
import Derived.Deep.RegionHeld
import Derived.Laws.CopyRow
import Derived.Laws.StructEq
import Derived.Laws.Tables
import Derived.Lib.AppendZerosOnto
import Derived.Lib.Hide
import Derived.Lib.Tables
import Derived.Lib.Walk
import Derived.LoopIn
import Derived.LoopN
import Derived.LoopNIn
import Derived.Maps.AppendAt
import Derived.Maps.Views
import Derived.OwnWalkIn
import Derived.RangeFuncBox
import Derived.RangeFuncCalls
import Derived.RangeFuncRecord
import Derived.RangeFuncSeq
import Derived.Recover
import Derived.RegionTactic
import Derived.ScopeJumps
import Derived.Shelf.Slices.Clone
import Derived.StillTail
import Derived.StillTailTactics
import Derived.TacticsInMore
import Derived.Test.YtmfajobocpaimaaGreatProg
import Derived.WalkKit
import Derived.WalkLawsBesides
import Derived.WalkMore
import Derived.WalkSpells
set_option linter.unusedSimpArgs false
set_option linter.unusedVariables false
namespace Go.Proofs.Hc
open Go.RowKit
attribute [local go_sem] wrap_u64 wrap_u8 bits_xor64 bits_and64 bits_or64 bits_not64 bits_xor8 bits_and8 bits_or8 signed64 signed8 ofInt_N BitVec.ofInt_add BitVec.ofInt_mul ofInt_sub' ofInt8_N64 ofInt64_N8 wide8 eqN neN shr_pow shr1 shr7 shr56
attribute [local go_sem high] bits_com64 shl_wrap
attribute [local go_sem] cell_heap ice_heap cellAt_cells iceAt_cells setAt_cells rowAt_cells canLay_cells laidAt_cells size_onObj size_setCell rowRes_some layRes_true
attribute [local go_sem] load26 load73 load23 store26 build73
attribute [local go_sem ↓] lrow26 lrow73 lrow23 srow26 zero26 brow73 heap_alloc heap_drew heap_drewN heap_setCell heap_onObj
attribute [local go_sem] tcells_size hcells_size tcells_get hcells_get tcells_one hcells_one hcells_table tcells_table hcells_all hcells_ctrl tcells_ctrl
attribute [local go_sem] nn2 nm2 nn3 nm3 nn4 nm4 nn5 nm5 nn6 nm6 nn7 nm7 nn8 nm8
attribute [local go_sem] nn2 nm2 nn3 nm3 nn4 nm4 nn5 nm5 nn6 nm6 nn7 nm7 nn8 nm8
attribute [local go_sem] ofInt_N ofInt_pow8
attribute [local go_sem] Oper.semAt_some make_func1
attribute [local go_sem] pen_g0 pen_g1 pen_g2 pen_g3 pen_g4 pen_g5 pen_g6 pen_g7 pen_g8 pen_g9 pen_g10 pen_g11 pen_g12 pen_g13 pen_g14 pen_g15 pen_g16 pen_g17 penC_size penC_one penC_all
attribute [local irreducible] penC
theorem tmod2_64w (x : BitVec 64) : (N x).tmod 2 = N (x &&& 1#64) := by
  rw [Int.tmod_eq_emod_of_nonneg (N_nonneg x)]
  unfold N
  rw [BitVec.toNat_and]
  show ((x.toNat : Int) % 2) = ((x.toNat &&& (2 ^ 1 - 1) : Nat) : Int)
  rw [Nat.and_two_pow_sub_one_eq_mod]; rfl
theorem bit64w (x : BitVec 64) : (N (x &&& 1#64) == 1) = oddB x := by
  have h : (N (x &&& 1#64) == N (1#64)) = ((x &&& 1#64) == 1#64) := eqN _ _
  exact h
theorem bit64zw (x : BitVec 64) : (N (x &&& 1#64) == 0) = !oddB x := by
  rw [← bit64w]
  have h : N (x &&& 1#64) = 0 ∨ N (x &&& 1#64) = 1 := by rw [← tmod2_64w, Int.tmod_eq_emod_of_nonneg (N_nonneg x)]; omega
  rcases h with h | h <;> rw [h] <;> rfl
attribute [local go_sem high] tmod2_64w bit64w bit64zw
theorem brow170 (ps : Array (Nat × Value)) : Instr.build 170 ps = buildRow 170 ps := rfl
theorem build170 (p : PenT) (w : World) : (buildRow 170 #[(0, .agg (penC p))]).run Tryz.prog w = .ok (.agg (penC p)) w := by kernel_rfl
theorem box170 (p : PenT) (w : World) : (Instr.box 170 (.agg (penC p))).run Tryz.prog w = .ok (.pointer (some ⟨w.heap.size, 0, none⟩)) (w.alloc (.cells (penC p) 170)) := rfl
attribute [local go_sem] build170 box170 boxPen loadPen storePen
attribute [local go_sem ↓] brow170 lrowPen srowPen
/-- A slab's cell. -/
theorem cell_ok (n k : Int) (h0 : 0 ≤ n) (h1 : n < 128) (h2 : 0 ≤ k) (h3 : k < 40) (w : World) : Calls Tryz.prog 56 #[I n, I k] w fun e w' => e = .returned (.tuple #[I (16 + 40 * n + k), I 0]) ∧ w = w' := by
  go_enter Tryz.func56, Tryz.ntmps56
  go_wp2
  go_ret2
  exact ⟨by rw [show 16 + 40 * n + k = 16 + n * 40 + k by omega]; rfl, rfl⟩
theorem cell_bad (n k : Int) (h : n < 0 ∨ 128 ≤ n) (w : World) : Calls Tryz.prog 56 #[I n, I k] w fun e w' => e = .returned (.tuple #[I 0, I 2]) ∧ w = w' := by
  rcases h with h | h
  all_goals
    go_enter Tryz.func56, Tryz.ntmps56
    go_wp2
    go_ret2
    exact ⟨rfl, rfl⟩
theorem wGoes_any (p : PenT) (hf0 : 0 ≤ p.free) (x : Int) (h4 : 4 ≤ x) (h13 : x ≤ 13) (g : Nat) (w : World) (hg : w.heap[g]? = some (.cells (penC p) 170 (0, 0))) :
    Calls Tryz.prog 158 #[.pointer (some ⟨g, 0, none⟩), I x] w fun e w' => e = .returned (.bool (goesP p x)) ∧ Ch [] w w' := by
  by_cases h0 : wantsP p = 0 ∨ wantsP p = 1 ∧ p.free = 0
  · have hz : goesP p x = false := by
      unfold goesP
      rcases h0 with h | ⟨h, hf⟩
      · rw [h, goes_zero x h4 h13]; rfl
      · rw [h, hf]; simp
    rw [hz]; exact goes_no p x g w hg h0
  · have hc : wantsP p = 1 ∧ (p.free == 0) = false ∨ wantsP p = 2 ∨ wantsP p = 3 := by
      rcases wantsP_cases p with h | h | h | h
      · exact absurd (.inl h) h0
      · exact .inl ⟨h, by simp; intro e; exact h0 (.inr ⟨h, e⟩)⟩
      · exact .inr (.inl h)
      · exact .inr (.inr h)
    have hg2 : (wantsP p != 1 || decide (0 < p.free)) = true := by
      rcases hc with ⟨h, hf⟩ | h | h
      · have : p.free ≠ 0 := by simpa using hf
        rw [h]; simp; omega
      · rw [h]; rfl
      · rw [h]; rfl
    have hn3 : wantsP p = 1 ∨ wantsP p = 2 ∨ wantsP p = 3 := by omega
    have e : goesP p x = throughP (wantsP p) x := by unfold goesP; rw [hg2, Bool.and_true]
    rw [e]
    by_cases h45 : x = 4 ∨ x = 5
    · have := goes_45 p x h45 g w hg hc
      have e2 : throughP (wantsP p) x = (wantsP p != 2) := by rcases hn3 with h | h | h <;> rcases h45 with rfl | rfl <;> rw [h] <;> rfl
      rwa [e2]
    · have := goes_range p x (by omega) g w hg hc
      rwa [goes_mem _ hn3 x h4 h13 (by omega)]
/-- The answer of Check. -/
def checkV (p : PenT) : Int := if rightP p then 0 else 290
theorem mem_ops (x : Int) : decide (x ∈ ([2, 3, 4, 5] : List Int)) = (decide (2 ≤ x) && decide (x ≤ 5)) := by
  rw [Bool.eq_iff_iff]; simp; omega
theorem mem_grp (x : Int) : decide (x ∈ ([0, 1] : List Int)) = (decide (0 ≤ x) && decide (x ≤ 1)) := by
  rw [Bool.eq_iff_iff]; simp; omega
theorem wright_split (p : PenT) : p.ph < 0 ∨ (0 ≤ p.ph ∧ 16 < p.ph) ∨ (0 ≤ p.ph ∧ p.ph ≤ 16) ∧ ((p.sl < 0 ∨ 128 ≤ p.sl) ∨ (0 ≤ p.sl ∧ p.sl < 128) ∧ (decide (p.op ∈ ([2, 3, 4, 5] : List Int)) = false ∨ decide (p.op ∈ ([2, 3, 4, 5] : List Int)) = true ∧ (oddB p.count = true ∨ oddB p.count = false ∧
    (decide (p.grp ∈ ([0, 1] : List Int)) = false ∨ decide (p.grp ∈ ([0, 1] : List Int)) = true ∧ (p.slot < 0 ∨ (0 ≤ p.slot ∧ 15 < p.slot) ∨ (0 ≤ p.slot ∧ p.slot ≤ 15) ∧ (p.free < 0 ∨ (0 ≤ p.free ∧ 16 < p.free) ∨ (0 ≤ p.free ∧ p.free ≤ 16)))))))  := by
  have h1 : decide (p.op ∈ ([2, 3, 4, 5] : List Int)) = false ∨ decide (p.op ∈ ([2, 3, 4, 5] : List Int)) = true := by cases decide (p.op ∈ ([2, 3, 4, 5] : List Int)) <;> simp
  have h2 : oddB p.count = true ∨ oddB p.count = false := by cases oddB p.count <;> simp
  have h3 : decide (p.grp ∈ ([0, 1] : List Int)) = false ∨ decide (p.grp ∈ ([0, 1] : List Int)) = true := by cases decide (p.grp ∈ ([0, 1] : List Int)) <;> simp
  rcases h1 with h1 | h1 <;> rcases h2 with h2 | h2 <;> rcases h3 with h3 | h3 <;> simp only [h1, h2, h3, true_and, and_true, true_or, or_true, false_or, or_false, reduceCtorEq, false_and, and_false] <;> omega
theorem not_rightW {p : PenT} (h : ¬ RightP p) : checkV p = 290 := by
  unfold checkV
  rw [if_neg (fun e => h ((rightP_iff p).1 e))]
theorem is_rightW {p : PenT} (h : RightP p) : checkV p = 0 := by
  unfold checkV
  rw [if_pos ((rightP_iff p).2 h)]
/-- The worlds that Check comes to ahead of its last test. -/
theorem check_among {p : PenT} (W : World) (gb : Nat) (l : List Int) (x : Int) (n : Nat) (hn : l.length = n) (hb : W.heap[gb]? = some (.cells (intsC l) 3 (0, 0))) (hl : n ≤ 900) (r : Bool) (hr : decide (x ∈ l) = r) :
    Calls Tryz.prog 157 #[I x, .slice (some ⟨gb, 0, none⟩) n n] W fun e w' => e = .returned (.bool r) ∧ W = w' := by
  have := among_ints l x gb n W (by omega) hb
  rwa [hr, hn] at this
set_option maxHeartbeats 2000000 in
set_option maxRecDepth 100000 in
theorem check_flat_bad (p : PenT) (w : World) (h : p.ph < 0 ∨ (0 ≤ p.ph ∧ 16 < p.ph) ∨ (0 ≤ p.ph ∧ p.ph ≤ 16) ∧ (p.sl < 0 ∨ 128 ≤ p.sl)) : Calls Tryz.prog 104 #[.agg (penC p)] w fun e w' => e = .returned (I 290) ∧ Ch [] w w' := by
  obtain ⟨o4, ho4⟩ : ∃ b, decide (p.op ∈ ([2, 3, 4, 5] : List Int)) = b := ⟨_, rfl⟩
  obtain ⟨g2, hg2⟩ : ∃ b, decide (p.grp ∈ ([0, 1] : List Int)) = b := ⟨_, rfl⟩
  have M4 : ∀ (W : World) (gb : Nat), W.heap[gb]? = some (.cells #[.int .i64 2, .int .i64 3, .int .i64 4, .int .i64 5] 3 (0, 0)) → Calls Tryz.prog 157 #[I p.op, .slice (some ⟨gb, 0, none⟩) 4 4] W fun e w' => e = .returned (.bool o4) ∧ W = w' := fun W gb hb => check_among (p := p) W gb [2, 3, 4, 5] p.op 4 rfl hb (by omega) o4 ho4
  have M2 : ∀ (W : World) (gb : Nat), W.heap[gb]? = some (.cells #[.int .i64 0, .int .i64 1] 3 (0, 0)) → Calls Tryz.prog 157 #[I p.grp, .slice (some ⟨gb, 0, none⟩) 2 2] W fun e w' => e = .returned (.bool g2) ∧ W = w' := fun W gb hb => check_among (p := p) W gb [0, 1] p.grp 2 rfl hb (by omega) g2 hg2
  have L1 : ∃ x y : Int, (0 ≤ p.ph → p.ph ≤ 16 → (y == 0) = false) ∧ ∀ w, Calls Tryz.prog 56 #[I p.sl, .int .i64 0] w fun e w' => e = .returned (.tuple #[I x, I y]) ∧ w = w' := by
    rcases (show (p.sl < 0 ∨ 128 ≤ p.sl) ∨ (0 ≤ p.sl ∧ p.sl < 128) by omega) with h1 | h1
    · exact ⟨0, 2, fun _ _ => by decide, fun w => cell_bad p.sl 0 h1 w⟩
    · exact ⟨_, 0, fun h2 h3 => by omega, fun w => cell_ok p.sl 0 h1.1 h1.2 (by omega) (by omega) w⟩
  obtain ⟨x, y, hy, L1⟩ := L1
  clear ho4 hg2
  have h' : p.ph < 0 ∨ (0 ≤ p.ph ∧ 16 < p.ph) ∨ (0 ≤ p.ph ∧ p.ph ≤ 16 ∧ (y == 0) = false) := by
    rcases h with h | h | h
    · exact .inl h
    · exact .inr (.inl h)
    · exact .inr (.inr ⟨h.1.1, h.1.2, hy h.1.1 h.1.2⟩)
  clear h hy
  rcases h' with c | ⟨c, d⟩ | ⟨c0, c1, c2⟩
  all_goals
    go_enter Tryz.func104, Tryz.ntmps104
    go_wp2_with (go_at_call 56; refine (L1 _).mono ?_; rintro e w' ⟨rfl, rfl⟩)
    refine (M4 _ _ (by simp [go_sem])).mono ?_
    rintro e w' ⟨rfl, rfl⟩
    go_wp2_with fail
    all_goals
      refine (M2 _ _ (by simp [go_sem])).mono ?_
      rintro e w' ⟨rfl, rfl⟩
      go_wp2
    all_goals
      go_ret
      exact ⟨rfl, ((((Ch.refl [] w).alloc _).alloc _).alloc _).alloc _⟩
set_option maxHeartbeats 2000000 in
set_option maxRecDepth 100000 in
theorem check_op_bad (p : PenT) (w : World) (c0 : 0 ≤ p.ph) (c1 : p.ph ≤ 16) (s0 : 0 ≤ p.sl) (s1 : p.sl < 128) (h : decide (p.op ∈ ([2, 3, 4, 5] : List Int)) = false ∨ decide (p.op ∈ ([2, 3, 4, 5] : List Int)) = true ∧ oddB p.count = true) : Calls Tryz.prog 104 #[.agg (penC p)] w fun e w' => e = .returned (I 290) ∧ Ch [] w w' := by
  obtain ⟨o4, ho4⟩ : ∃ b, decide (p.op ∈ ([2, 3, 4, 5] : List Int)) = b := ⟨_, rfl⟩
  obtain ⟨g2, hg2⟩ : ∃ b, decide (p.grp ∈ ([0, 1] : List Int)) = b := ⟨_, rfl⟩
  rw [ho4] at h
  have M4 : ∀ (W : World) (gb : Nat), W.heap[gb]? = some (.cells #[.int .i64 2, .int .i64 3, .int .i64 4, .int .i64 5] 3 (0, 0)) → Calls Tryz.prog 157 #[I p.op, .slice (some ⟨gb, 0, none⟩) 4 4] W fun e w' => e = .returned (.bool o4) ∧ W = w' := fun W gb hb => check_among (p := p) W gb [2, 3, 4, 5] p.op 4 rfl hb (by omega) _ ho4
  have M2 : ∀ (W : World) (gb : Nat), W.heap[gb]? = some (.cells #[.int .i64 0, .int .i64 1] 3 (0, 0)) → Calls Tryz.prog 157 #[I p.grp, .slice (some ⟨gb, 0, none⟩) 2 2] W fun e w' => e = .returned (.bool g2) ∧ W = w' := fun W gb hb => check_among (p := p) W gb [0, 1] p.grp 2 rfl hb (by omega) _ hg2
  have L1 : ∀ w, Calls Tryz.prog 56 #[I p.sl, .int .i64 0] w fun e w' => e = .returned (.tuple #[I (16 + 40 * p.sl + 0), I 0]) ∧ w = w' := fun w => cell_ok p.sl 0 s0 s1 (by omega) (by omega) w
  generalize 16 + 40 * p.sl + 0 = x at *
  clear ho4 hg2
  rcases h with rfl | ⟨rfl, hodd⟩
  all_goals
    go_enter Tryz.func104, Tryz.ntmps104
    go_wp2_with (go_at_call 56; refine (L1 _).mono ?_; rintro e w' ⟨rfl, rfl⟩)
    refine (M4 _ _ (by simp [go_sem])).mono ?_
    rintro e w' ⟨rfl, rfl⟩
    go_wp2_with fail
    all_goals
      refine (M2 _ _ (by simp [go_sem])).mono ?_
      rintro e w' ⟨rfl, rfl⟩
      go_wp2
    all_goals
      go_ret
      exact ⟨rfl, ((((Ch.refl [] w).alloc _).alloc _).alloc _).alloc _⟩
set_option maxHeartbeats 2000000 in
set_option maxRecDepth 100000 in
theorem check_place_bad (p : PenT) (w : World) (c0 : 0 ≤ p.ph) (c1 : p.ph ≤ 16) (s0 : 0 ≤ p.sl) (s1 : p.sl < 128) (ho4 : decide (p.op ∈ ([2, 3, 4, 5] : List Int)) = true) (hodd : oddB p.count = false)
    (h : decide (p.grp ∈ ([0, 1] : List Int)) = false ∨ decide (p.grp ∈ ([0, 1] : List Int)) = true ∧ (p.slot < 0 ∨ (0 ≤ p.slot ∧ 15 < p.slot) ∨ (0 ≤ p.slot ∧ p.slot ≤ 15) ∧ (p.free < 0 ∨ (0 ≤ p.free ∧ 16 < p.free) ∨ (0 ≤ p.free ∧ p.free ≤ 16) ∧ (p.ph = 2 ∧ p.left = 0#8)))) : Calls Tryz.prog 104 #[.agg (penC p)] w fun e w' => e = .returned (I 290) ∧ Ch [] w w' := by
  obtain ⟨g2, hg2⟩ : ∃ b, decide (p.grp ∈ ([0, 1] : List Int)) = b := ⟨_, rfl⟩
  rw [hg2] at h
  have M4 : ∀ (W : World) (gb : Nat), W.heap[gb]? = some (.cells #[.int .i64 2, .int .i64 3, .int .i64 4, .int .i64 5] 3 (0, 0)) → Calls Tryz.prog 157 #[I p.op, .slice (some ⟨gb, 0, none⟩) 4 4] W fun e w' => e = .returned (.bool true) ∧ W = w' := fun W gb hb => check_among (p := p) W gb [2, 3, 4, 5] p.op 4 rfl hb (by omega) _ ho4
  have M2 : ∀ (W : World) (gb : Nat), W.heap[gb]? = some (.cells #[.int .i64 0, .int .i64 1] 3 (0, 0)) → Calls Tryz.prog 157 #[I p.grp, .slice (some ⟨gb, 0, none⟩) 2 2] W fun e w' => e = .returned (.bool g2) ∧ W = w' := fun W gb hb => check_among (p := p) W gb [0, 1] p.grp 2 rfl hb (by omega) _ hg2
  have L1 : ∀ w, Calls Tryz.prog 56 #[I p.sl, .int .i64 0] w fun e w' => e = .returned (.tuple #[I (16 + 40 * p.sl + 0), I 0]) ∧ w = w' := fun w => cell_ok p.sl 0 s0 s1 (by omega) (by omega) w
  generalize 16 + 40 * p.sl + 0 = x at *
  clear ho4 hg2
  rcases h with rfl | ⟨rfl, d | ⟨d, d2⟩ | ⟨⟨d, d2⟩, e | ⟨e, e2⟩ | ⟨⟨e, e2⟩, f, l⟩⟩⟩
  all_goals
    try (obtain ⟨l1, l2⟩ : (N p.left == 0) = true ∧ (N p.left != 0) = false := by rw [l]; decide
         clear l)
    go_enter Tryz.func104, Tryz.ntmps104
    go_wp2_with (go_at_call 56; refine (L1 _).mono ?_; rintro e w' ⟨rfl, rfl⟩)
    refine (M4 _ _ (by simp [go_sem])).mono ?_
    rintro e w' ⟨rfl, rfl⟩
    go_wp2_with fail
    all_goals
      refine (M2 _ _ (by simp [go_sem])).mono ?_
      rintro e w' ⟨rfl, rfl⟩
      go_wp2
    all_goals
      go_ret
      exact ⟨rfl, ((((Ch.refl [] w).alloc _).alloc _).alloc _).alloc _⟩
set_option maxHeartbeats 2000000 in
set_option maxRecDepth 100000 in
theorem check_low (p : PenT) (w : World) (c0 : 0 ≤ p.ph) (c1 : p.ph ≤ 16) (s0 : 0 ≤ p.sl) (s1 : p.sl < 128) (ho4 : decide (p.op ∈ ([2, 3, 4, 5] : List Int)) = true) (hodd : oddB p.count = false) (hg2 : decide (p.grp ∈ ([0, 1] : List Int)) = true) (t0 : 0 ≤ p.slot) (t1 : p.slot ≤ 15) (f0 : 0 ≤ p.free) (f1 : p.free ≤ 16) (h : p.ph = 2 ∧ p.left ≠ 0#8 ∨ (p.ph == 2) = false ∧ (p.ph < 4 ∨ 13 < p.ph)) : Calls Tryz.prog 104 #[.agg (penC p)] w fun e w' => e = .returned (I 0) ∧ Ch [] w w' := by
  have M4 : ∀ (W : World) (gb : Nat), W.heap[gb]? = some (.cells #[.int .i64 2, .int .i64 3, .int .i64 4, .int .i64 5] 3 (0, 0)) → Calls Tryz.prog 157 #[I p.op, .slice (some ⟨gb, 0, none⟩) 4 4] W fun e w' => e = .returned (.bool true) ∧ W = w' := fun W gb hb => check_among (p := p) W gb [2, 3, 4, 5] p.op 4 rfl hb (by omega) _ ho4
  have M2 : ∀ (W : World) (gb : Nat), W.heap[gb]? = some (.cells #[.int .i64 0, .int .i64 1] 3 (0, 0)) → Calls Tryz.prog 157 #[I p.grp, .slice (some ⟨gb, 0, none⟩) 2 2] W fun e w' => e = .returned (.bool true) ∧ W = w' := fun W gb hb => check_among (p := p) W gb [0, 1] p.grp 2 rfl hb (by omega) _ hg2
  have L1 : ∀ w, Calls Tryz.prog 56 #[I p.sl, .int .i64 0] w fun e w' => e = .returned (.tuple #[I (16 + 40 * p.sl + 0), I 0]) ∧ w = w' := fun w => cell_ok p.sl 0 s0 s1 (by omega) (by omega) w
  generalize 16 + 40 * p.sl + 0 = x at *
  clear ho4 hg2
  rcases h with ⟨hph, hl⟩ | ⟨hph, h | h⟩
  all_goals
    try (obtain ⟨l1, l2⟩ : (N p.left == 0) = false ∧ (N p.left != 0) = true := by rcases left_casesW p.left with ⟨a, b, c⟩ | ⟨a, b, c⟩; exact ⟨b, c⟩; exact absurd (by simpa using a) hl
         clear hl)
    go_enter Tryz.func104, Tryz.ntmps104
    go_wp2_with (go_at_call 56; refine (L1 _).mono ?_; rintro e w' ⟨rfl, rfl⟩)
    refine (M4 _ _ (by simp [go_sem])).mono ?_
    rintro e w' ⟨rfl, rfl⟩
    go_wp2_with fail
    all_goals
      refine (M2 _ _ (by simp [go_sem])).mono ?_
      rintro e w' ⟨rfl, rfl⟩
      go_wp2
    all_goals
      go_ret
      exact ⟨rfl, ((((Ch.refl [] w).alloc _).alloc _).alloc _).alloc _⟩
set_option maxHeartbeats 2000000 in
set_option maxRecDepth 100000 in
theorem check_mid (p : PenT) (w : World) (c0 : 0 ≤ p.ph) (c1 : p.ph ≤ 16) (s0 : 0 ≤ p.sl) (s1 : p.sl < 128) (ho4 : decide (p.op ∈ ([2, 3, 4, 5] : List Int)) = true) (hodd : oddB p.count = false) (hg2 : decide (p.grp ∈ ([0, 1] : List Int)) = true) (t0 : 0 ≤ p.slot) (t1 : p.slot ≤ 15) (f0 : 0 ≤ p.free) (f1 : p.free ≤ 16) (hph : (p.ph == 2) = false) (h4 : 4 ≤ p.ph) (h13 : p.ph ≤ 13) : Calls Tryz.prog 104 #[.agg (penC p)] w fun e w' => e = .returned (I (if goesP p p.ph then 0 else 290)) ∧ Ch [] w w' := by
  have M4 : ∀ (W : World) (gb : Nat), W.heap[gb]? = some (.cells #[.int .i64 2, .int .i64 3, .int .i64 4, .int .i64 5] 3 (0, 0)) → Calls Tryz.prog 157 #[I p.op, .slice (some ⟨gb, 0, none⟩) 4 4] W fun e w' => e = .returned (.bool true) ∧ W = w' := fun W gb hb => check_among (p := p) W gb [2, 3, 4, 5] p.op 4 rfl hb (by omega) _ ho4
  have M2 : ∀ (W : World) (gb : Nat), W.heap[gb]? = some (.cells #[.int .i64 0, .int .i64 1] 3 (0, 0)) → Calls Tryz.prog 157 #[I p.grp, .slice (some ⟨gb, 0, none⟩) 2 2] W fun e w' => e = .returned (.bool true) ∧ W = w' := fun W gb hb => check_among (p := p) W gb [0, 1] p.grp 2 rfl hb (by omega) _ hg2
  have L1 : ∀ w, Calls Tryz.prog 56 #[I p.sl, .int .i64 0] w fun e w' => e = .returned (.tuple #[I (16 + 40 * p.sl + 0), I 0]) ∧ w = w' := fun w => cell_ok p.sl 0 s0 s1 (by omega) (by omega) w
  generalize 16 + 40 * p.sl + 0 = x at *
  clear ho4 hg2
  have G1 := fun w g hg => wGoes_any p f0 p.ph h4 h13 g w hg
  generalize goesP p p.ph = b at *
  cases b
  all_goals
    go_enter Tryz.func104, Tryz.ntmps104
    go_wp2_with (go_at_call 56; refine (L1 _).mono ?_; rintro e w' ⟨rfl, rfl⟩)
    refine (M4 _ _ (by simp [go_sem])).mono ?_
    rintro e w' ⟨rfl, rfl⟩
    go_wp2_with fail
    refine (M2 _ _ (by simp [go_sem])).mono ?_
    rintro e w' ⟨rfl, rfl⟩
    go_wp2_with fail
    refine (G1 _ _ (by simp [go_sem])).mono ?_
    rintro e w1 ⟨rfl, hc1⟩
    go_wp2
    go_ret
    exact ⟨rfl, (((((Ch.refl [] w).alloc _).alloc _).alloc _).alloc _).trans hc1⟩
theorem check_pen (p : PenT) (w : World) : Calls Tryz.prog 104 #[.agg (penC p)] w fun e w' => e = .returned (I (checkV p)) ∧ Ch [] w w' := by
  rcases wright_split p with c | ⟨c, d⟩ | ⟨⟨c0, c1⟩, c | ⟨⟨s0, s1⟩, c | ⟨ho, c | ⟨hc, c | ⟨hg, c | ⟨c, d⟩ | ⟨⟨t0, t1⟩, c | ⟨c, d⟩ | ⟨f0, f1⟩⟩⟩⟩⟩⟩⟩
  · rw [not_rightW fun R => by have := R.ph0; omega]; exact check_flat_bad p w (.inl c)
  · rw [not_rightW fun R => by have := R.ph1; omega]; exact check_flat_bad p w (.inr (.inl ⟨c, d⟩))
  · rw [not_rightW fun R => by have := R.sl0; have := R.sl1; omega]; exact check_flat_bad p w (.inr (.inr ⟨⟨c0, c1⟩, c⟩))
  · rw [not_rightW fun R => by have h0 := R.op0; have h1 := R.op1; rw [mem_ops] at c; simp only [Bool.and_eq_false_iff, decide_eq_false_iff_not] at c; omega]; exact check_op_bad p w c0 c1 s0 s1 (.inl c)
  · rw [not_rightW fun R => by have h0 := R.cnt; rw [h0] at c; cases c]; exact check_op_bad p w c0 c1 s0 s1 (.inr ⟨ho, c⟩)
  · rw [not_rightW fun R => by have h0 := R.grp; rw [mem_grp] at c; simp only [Bool.and_eq_false_iff, decide_eq_false_iff_not] at c; omega]; exact check_place_bad p w c0 c1 s0 s1 ho hc (.inl c)
  · rw [not_rightW fun R => by have := R.slot0; omega]; exact check_place_bad p w c0 c1 s0 s1 ho hc (.inr ⟨hg, .inl c⟩)
  · rw [not_rightW fun R => by have := R.slot1; omega]; exact check_place_bad p w c0 c1 s0 s1 ho hc (.inr ⟨hg, .inr (.inl ⟨c, d⟩)⟩)
  · rw [not_rightW fun R => by have := R.free0; omega]; exact check_place_bad p w c0 c1 s0 s1 ho hc (.inr ⟨hg, .inr (.inr ⟨⟨t0, t1⟩, .inl c⟩)⟩)
  · rw [not_rightW fun R => by have := R.free1; omega]; exact check_place_bad p w c0 c1 s0 s1 ho hc (.inr ⟨hg, .inr (.inr ⟨⟨t0, t1⟩, .inr (.inl ⟨c, d⟩)⟩)⟩)
  · have hop : 2 ≤ p.op ∧ p.op ≤ 5 := by have := ho; rw [mem_ops] at this; simpa using this
    have hgr : p.grp = 0 ∨ p.grp = 1 := by have := hg; rw [mem_grp] at this; simp at this; omega
    by_cases h2 : p.ph = 2
    · by_cases hl : p.left = 0#8
      · rw [not_rightW fun R => R.left h2 hl]; exact check_place_bad p w c0 c1 s0 s1 ho hc (.inr ⟨hg, .inr (.inr ⟨⟨t0, t1⟩, .inr (.inr ⟨⟨f0, f1⟩, h2, hl⟩)⟩)⟩)
      · rw [is_rightW ⟨c0, c1, s0, s1, hop.1, hop.2, hc, hgr, t0, t1, f0, f1, fun _ => hl, .inl (by omega)⟩]; exact check_low p w c0 c1 s0 s1 ho hc hg t0 t1 f0 f1 (.inl ⟨h2, hl⟩)
    · have h2' : (p.ph == 2) = false := by simpa using h2
      by_cases hm : 4 ≤ p.ph ∧ p.ph ≤ 13
      · have e : checkV p = if goesP p p.ph then 0 else 290 := by
          have hb : rightP p = goesP p p.ph := by
            rw [Bool.eq_iff_iff, rightP_iff]
            unfold goesP
            constructor
            · intro R
              have := (R.goes.resolve_left (by omega)).resolve_left (by omega)
              simpa using this
            · intro h
              have h' : throughP (wantsP p) p.ph = true ∧ (wantsP p ≠ 1 ∨ 0 < p.free) := by simpa using h
              exact ⟨c0, c1, s0, s1, hop.1, hop.2, hc, hgr, t0, t1, f0, f1, fun h => absurd h h2, .inr (.inr h')⟩
          rw [checkV, hb]
        rw [e]; exact check_mid p w c0 c1 s0 s1 ho hc hg t0 t1 f0 f1 h2' hm.1 hm.2
      · rw [is_rightW ⟨c0, c1, s0, s1, hop.1, hop.2, hc, hgr, t0, t1, f0, f1, fun h => absurd h h2, by omega⟩]; exact check_low p w c0 c1 s0 s1 ho hc hg t0 t1 f0 f1 (.inr ⟨h2', by omega⟩)
end Go.Proofs.Hc
