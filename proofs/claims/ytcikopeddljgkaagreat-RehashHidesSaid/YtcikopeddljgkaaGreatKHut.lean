/- Package layout: Cell; package write: Check. -/
import Derived.Test.YtcikopeddljgkaaGreatKHdn
import Derived.Test.YtcikopeddljgkaaGreatKHj
import Derived.Test.YtcikopeddljgkaaGreatKHma
import Derived.Test.YtcikopeddljgkaaGreatKHmet
import Derived.Test.YtcikopeddljgkaaGreatKHmy
import Derived.Test.YtcikopeddljgkaaGreatKHnw
import Derived.Test.YtcikopeddljgkaaGreatKHpb
import Derived.Test.YtcikopeddljgkaaGreatKHr
import Derived.Test.YtcikopeddljgkaaGreatKHtj
import Derived.Test.YtcikopeddljgkaaGreatKHnac
import Derived.Test.YtcikopeddljgkaaGreatKHde
import Derived.Below
import Derived.BigQuiet
import Derived.Deep.Draws
import Derived.Deep.Light
import Derived.Deep.QuietTactic
import Derived.Deep.RegionHeld
import Derived.Laws.CopyRow
import Derived.Laws.StructEq
import Derived.Laws.Tables
import Derived.Lib.AppendZerosOnto
import Derived.Lib.Hide
import Derived.Lib.Tables
import Derived.Lib.Walk
import Derived.LoopIn
import Derived.LoopN
import Derived.LoopNIn
import Derived.Maps.AppendAt
import Derived.Maps.Views
import Derived.OwnWalkIn
import Derived.RangeFuncBox
import Derived.RangeFuncCalls
import Derived.RangeFuncRecord
import Derived.RangeFuncSeq
import Derived.Recover
import Derived.RegionTactic
import Derived.ScopeJumps
import Derived.Shelf.Slices.Clone
import Derived.StillTail
import Derived.StillTailTactics
import Derived.TacticsInMore
import Derived.Test.YtcikopeddljgkaaGreatProg
import Derived.WalkKit
import Derived.WalkLawsBesides
import Derived.WalkMore
import Derived.WalkSpells
import Derived.Deep.OwnRows
import Derived.IntWalk
import Derived.Laws.CopyOwn
set_option linter.unusedSimpArgs false
set_option linter.unusedVariables false
namespace Go.Proofs.Hc
open Go.RowKit
attribute [local go_sem] wrap_u64 wrap_u8 bits_xor64 bits_and64 bits_or64 bits_not64 bits_xor8 bits_and8 bits_or8 signed64 signed8 ofInt_N BitVec.ofInt_add BitVec.ofInt_mul ofInt_sub' ofInt8_N64 ofInt64_N8 wide8 eqN neN shr_pow shr1 shr7 shr56
attribute [local go_sem high] bits_com64 shl_wrap
attribute [local go_sem] cell_heap ice_heap cellAt_cells iceAt_cells setAt_cells rowAt_cells canLay_cells laidAt_cells size_onObj size_setCell rowRes_some layRes_true
attribute [local go_sem] load26 load73 load23 store26 build73
attribute [local go_sem ↓] lrow26 lrow73 lrow23 srow26 zero26 brow73 heap_alloc heap_drew heap_drewN heap_setCell heap_onObj
attribute [local go_sem] tcells_size hcells_size tcells_get hcells_get tcells_one hcells_one hcells_table tcells_table hcells_all hcells_ctrl tcells_ctrl
attribute [local go_sem] nn2 nm2 nn3 nm3 nn4 nm4 nn5 nm5 nn6 nm6 nn7 nm7 nn8 nm8
attribute [local go_sem] nn2 nm2 nn3 nm3 nn4 nm4 nn5 nm5 nn6 nm6 nn7 nm7 nn8 nm8
attribute [local go_sem] ofInt_N ofInt_pow8
attribute [local go_sem] Oper.semAt_some make_func1
attribute [local go_sem] pen_g0 pen_g1 pen_g2 pen_g3 pen_g4 pen_g5 pen_g6 pen_g7 pen_g8 pen_g9 pen_g10 pen_g11 pen_g12 pen_g13 pen_g14 pen_g15 pen_g16 pen_g17 penC_size penC_one penC_all
attribute [local irreducible] penC
theorem tmod2_64w (x : BitVec 64) : (N x).tmod 2 = N (x &&& 1#64) := by
  rw [Int.tmod_eq_emod_of_nonneg (N_nonneg x)]
  unfold N
  rw [BitVec.toNat_and]
  show ((x.toNat : Int) % 2) = ((x.toNat &&& (2 ^ 1 - 1) : Nat) : Int)
  rw [Nat.and_two_pow_sub_one_eq_mod]; rfl
theorem bit64w (x : BitVec 64) : (N (x &&& 1#64) == 1) = oddB x := by
  have h : (N (x &&& 1#64) == N (1#64)) = ((x &&& 1#64) == 1#64) := eqN _ _
  exact h
theorem bit64zw (x : BitVec 64) : (N (x &&& 1#64) == 0) = !oddB x := by
  rw [← bit64w]
  have h : N (x &&& 1#64) = 0 ∨ N (x &&& 1#64) = 1 := by rw [← tmod2_64w, Int.tmod_eq_emod_of_nonneg (N_nonneg x)]; omega
  rcases h with h | h <;> rw [h] <;> rfl
attribute [local go_sem high] tmod2_64w bit64w bit64zw
theorem brow170 (ps : Array (Nat × Value)) : Instr.build 281 ps = buildRow 281 ps := rfl
theorem build170 (p : PenT) (w : World) : (buildRow 281 #[(0, .agg (penC p))]).run Tryz.prog w = .ok (.agg (penC p)) w := by kernel_rfl
theorem box170 (p : PenT) (w : World) : (Instr.box 281 (.agg (penC p))).run Tryz.prog w = .ok (.pointer (some ⟨w.heap.size, 0, none⟩)) (w.alloc (.cells (penC p) 281)) := rfl
attribute [local go_sem] build170 box170 boxPen loadPen storePen
attribute [local go_sem ↓] brow170 lrowPen srowPen
/-- A slab's cell. -/
theorem cell_ok (n k : Int) (h0 : 0 ≤ n) (h1 : n < 128) (h2 : 0 ≤ k) (h3 : k < 40) (w : World) : Calls Tryz.prog 44 #[I n, I k] w fun e w' => e = .returned (.tuple #[I (16 + 40 * n + k), I 0]) ∧ w = w' := by
  go_enter Tryz.func44, Tryz.ntmps44
  go_wp2
  go_ret2
  exact ⟨by rw [show 16 + 40 * n + k = 16 + n * 40 + k by omega]; rfl, rfl⟩
end Go.Proofs.Hc
/- Package write: Take, Begin. -/
namespace Go.Proofs.Hc
open Go.RowKit
attribute [local go_sem] wrap_u64 wrap_u8 bits_xor64 bits_and64 bits_or64 bits_not64 bits_xor8 bits_and8 bits_or8 signed64 signed8 ofInt_N BitVec.ofInt_add BitVec.ofInt_mul ofInt_sub' ofInt8_N64 ofInt64_N8 wide8 eqN neN shr_pow shr1 shr7 shr56
attribute [local go_sem high] bits_com64 shl_wrap
attribute [local go_sem] cell_heap ice_heap cellAt_cells iceAt_cells setAt_cells rowAt_cells canLay_cells laidAt_cells size_onObj size_setCell rowRes_some layRes_true
attribute [local go_sem] load26 load73 load23 store26 build73
attribute [local go_sem ↓] lrow26 lrow73 lrow23 srow26 zero26 brow73 heap_alloc heap_drew heap_drewN heap_setCell heap_onObj
attribute [local go_sem] tcells_size hcells_size tcells_get hcells_get tcells_one hcells_one hcells_table tcells_table hcells_all hcells_ctrl tcells_ctrl
attribute [local go_sem] nn2 nm2 nn3 nm3 nn4 nm4 nn5 nm5 nn6 nm6 nn7 nm7 nn8 nm8
attribute [local go_sem] nn2 nm2 nn3 nm3 nn4 nm4 nn5 nm5 nn6 nm6 nn7 nm7 nn8 nm8
attribute [local go_sem] ofInt_N ofInt_pow8
attribute [local go_sem] Oper.semAt_some make_func1
attribute [local go_sem] pen_g0 pen_g1 pen_g2 pen_g3 pen_g4 pen_g5 pen_g6 pen_g7 pen_g8 pen_g9 pen_g10 pen_g11 pen_g12 pen_g13 pen_g14 pen_g15 pen_g16 pen_g17 penC_size penC_one penC_all
attribute [local irreducible] penC
attribute [local go_sem] pen_s0 pen_s1 pen_s2 pen_s3 pen_s4 pen_s5 pen_s6 pen_s7 pen_s8 pen_s9 pen_s10 pen_s11 pen_s12 pen_s13 pen_s14 pen_s15 pen_s16 pen_s17
theorem wzeroPen_run (w : World) : (zeroValue 123).run Tryz.prog w = .ok (.agg (penC zeroPen)) w := by kernel_rfl
theorem wlaidAt_pen (p q : PenT) (T : TypeId) (fr : Nat × Nat) : laidAt 0 (penC q) (.cells (penC p) T fr) = .cells (penC q) T fr := by
  rw [laidAt_cells, laid_whole _ _ (by rw [penC_size, penC_size])]
theorem browPen (ps : Array (Nat × Value)) : Instr.build 123 ps = buildRow 123 ps := rfl
theorem buildPen0 (w : World) : (buildRow 123 #[]).run Tryz.prog w = .ok (.agg (penC zeroPen)) w := by kernel_rfl
attribute [local go_sem] build170 box170 boxPen loadPen storePen buildPen0
attribute [local go_sem ↓] brow170 lrowPen srowPen wzeroPen_run browPen
attribute [local go_sem high] wlaidAt_pen
end Go.Proofs.Hc
/- A whole run of a pen: the plain law. -/
namespace Go.Proofs.Hc
open Go.RowKit
theorem doP_in {l : List (BitVec 64)} {a : AccT} (h : a.at_.toNat < l.length) : ∃ y, doP l a = some y ∧ y.1.length = l.length := by
  unfold doP
  rw [List.getElem?_eq_getElem h]
  refine ⟨_, rfl, ?_⟩
  dsimp only
  split
  · rfl
  · split <;> simp
/-- A whole run: the words and the pen behind it, and how many steps. -/
inductive RunsTo : List (BitVec 64) → PenT → Nat → List (BitVec 64) → PenT → Prop
  | done {l p} : 13 < p.ph → RunsTo l p 0 l p
  | step {l p a y k l' p'} : p.ph ≤ 13 → rightP p = true → needP p = some a → doP l a = some y → RunsTo y.1 (takeP p y.2) k l' p' → RunsTo l p (k + 1) l' p'
end Go.Proofs.Hc
/- The reference of layer 19: Run. -/
namespace Go.Proofs.Hc
open Go.RowKit
attribute [local go_sem] wrap_u64 wrap_u8 bits_xor64 bits_and64 bits_or64 bits_not64 bits_xor8 bits_and8 bits_or8 signed64 signed8 ofInt_N BitVec.ofInt_add BitVec.ofInt_mul ofInt_sub' ofInt8_N64 ofInt64_N8 wide8 eqN neN shr_pow shr1 shr7 shr56
attribute [local go_sem high] bits_com64 shl_wrap
attribute [local go_sem] cell_heap ice_heap cellAt_cells iceAt_cells setAt_cells rowAt_cells canLay_cells laidAt_cells size_onObj size_setCell rowRes_some layRes_true
attribute [local go_sem] load26 load73 load23 store26 build73
attribute [local go_sem ↓] lrow26 lrow73 lrow23 srow26 zero26 brow73 heap_alloc heap_drew heap_drewN heap_setCell heap_onObj
attribute [local go_sem] tcells_size hcells_size tcells_get hcells_get tcells_one hcells_one hcells_table tcells_table hcells_all hcells_ctrl tcells_ctrl
attribute [local go_sem] nn2 nm2 nn3 nm3 nn4 nm4 nn5 nm5 nn6 nm6 nn7 nm7 nn8 nm8
attribute [local go_sem] nn2 nm2 nn3 nm3 nn4 nm4 nn5 nm5 nn6 nm6 nn7 nm7 nn8 nm8
attribute [local go_sem] ofInt_N ofInt_pow8
attribute [local go_sem] Oper.semAt_some make_func1
attribute [local go_sem] pen_g0 pen_g1 pen_g2 pen_g3 pen_g4 pen_g5 pen_g6 pen_g7 pen_g8 pen_g9 pen_g10 pen_g11 pen_g12 pen_g13 pen_g14 pen_g15 pen_g16 pen_g17 penC_size penC_one penC_all
attribute [local irreducible] penC
attribute [local go_sem] pen_s0 pen_s1 pen_s2 pen_s3 pen_s4 pen_s5 pen_s6 pen_s7 pen_s8 pen_s9 pen_s10 pen_s11 pen_s12 pen_s13 pen_s14 pen_s15 pen_s16 pen_s17
attribute [local go_sem] boxPen loadPen storePen buildPen0
attribute [local go_sem ↓] lrowPen srowPen wzeroPen_run browPen
attribute [local go_sem high] wlaidAt_pen
theorem RunsTo.inv {l : List (BitVec 64)} {p : PenT} {k : Nat} {l' : List (BitVec 64)} {p' : PenT} (h : RunsTo l p k l' p') : (13 < p.ph ∧ k = 0 ∧ l' = l ∧ p' = p) ∨ ∃ a y k1, p.ph ≤ 13 ∧ k = k1 + 1 ∧ needP p = some a ∧ doP l a = some y ∧ RunsTo y.1 (takeP p y.2) k1 l' p' := by
  cases h with
  | done h => exact .inl ⟨h, rfl, rfl, rfl⟩
  | step h1 h2 h3 h4 h5 => exact .inr ⟨_, _, _, h1, rfl, h3, h4, h5⟩
/-- A row of words at a block. -/
def RowIn (w : World) (v : Value) (n : Nat) (l : List (BitVec 64)) : Prop := ∃ r c cur, v = .slice (some ⟨r, 0, none⟩) n c ∧ l.length = n ∧ w.heap[r]? = some (.cells cur 22 (0, 0)) ∧ WordsAt cur l
theorem RowIn.keep {w w' : World} {v : Value} {n : Nat} {l : List (BitVec 64)} (h : RowIn w v n l) (c : Ch [] w w') : RowIn w' v n l := by
  obtain ⟨r, d, cur, rfl, hn, hW, hA⟩ := h
  exact ⟨r, d, cur, rfl, hn, hkeep c hW, hA⟩
end Go.Proofs.Hc
/- One who writes, in cells that hold a table: how the key is looked for. Plain law, no program in sight. -/
namespace Go.Proofs.Hc
open Go.RowKit
/-- The same call, by the same hash, in the same slab. -/
structure Alike (p q : PenT) : Prop where
  sl : p.sl = q.sl
  op : p.op = q.op
  key : p.key = q.key
  a : p.a = q.a
  b : p.b = q.b
  hash : p.hash = q.hash
  count : p.count = q.count
theorem Alike.refl (p : PenT) : Alike p p := ⟨rfl, rfl, rfl, rfl, rfl, rfl, rfl⟩
theorem Alike.trans {p q r : PenT} (h : Alike p q) (g : Alike q r) : Alike p r := ⟨h.sl.trans g.sl, h.op.trans g.op, h.key.trans g.key, h.a.trans g.a, h.b.trans g.b, h.hash.trans g.hash, h.count.trans g.count⟩
section
variable {l l' : List (BitVec 64)} {p p' : PenT} {k : Nat}
theorem RunsTo.load (h : RunsTo l p k l' p') (h0 : 0 ≤ p.ph) (h5 : p.ph ≤ 5) {w : BitVec 64} (hw : l[(16 + 40 * p.sl + wordP p).toNat]? = some w) : ∃ k1, k = k1 + 1 ∧ RunsTo l (takeP p w) k1 l' p' := by
  rcases h.inv with ⟨h13, _⟩ | ⟨a, y, k1, _, hk, ha, hy, hr⟩
  · omega
  · have e : a = ⟨1, 16 + 40 * p.sl + wordP p, 0#64⟩ := by
      have hp := needP_some ha
      unfold needP at ha
      rw [if_pos (by simp [hp.1, hp.2]), if_neg (by omega)] at ha
      have ha := (Option.some.inj ha).symm
      simpa only [show ¬ 5 < p.ph by omega, if_false] using ha
    subst e
    have e2 : doP l ⟨1, 16 + 40 * p.sl + wordP p, 0#64⟩ = some (l, w) := by
      unfold doP; dsimp only; rw [hw]; rfl
    rw [e2] at hy
    have hy := Option.some.inj hy
    subst hy
    exact ⟨k1, hk, hr⟩
theorem takeP_store {p : PenT} (h6 : 6 ≤ p.ph) (w : BitVec 64) : takeP p w = { p with ph := nextP (wantsP p) p.ph } := by
  unfold takeP
  rw [if_neg (by omega), if_neg (by omega), if_neg (by omega), if_neg (by omega), if_neg (by omega), if_neg (by omega)]
theorem RunsTo.store (h : RunsTo l p k l' p') (h6 : 6 ≤ p.ph) (h13 : p.ph ≤ 13) (h12 : p.ph ≠ 12) : ∃ k1, k = k1 + 1 ∧ RunsTo (l.set (16 + 40 * p.sl + wordP p).toNat (whatP p)) { p with ph := nextP (wantsP p) p.ph } k1 l' p' := by
  rcases h.inv with ⟨h13, _⟩ | ⟨a, y, k1, _, hk, ha, hy, hr⟩
  · omega
  · have e : a = ⟨2, 16 + 40 * p.sl + wordP p, whatP p⟩ := by
      have hp := needP_some ha
      unfold needP at ha
      rw [if_pos (by simp [hp.1, hp.2]), if_neg (by omega)] at ha
      have ha := (Option.some.inj ha).symm
      simpa only [show 5 < p.ph by omega, if_true] using ha
    subst e
    unfold doP at hy
    dsimp only at hy
    split at hy
    · cases hy
    · have hy := Option.some.inj hy
      rw [if_neg (by decide), if_pos rfl] at hy
      subst hy
      rw [takeP_store h6] at hr
      exact ⟨k1, hk, hr⟩
theorem RunsTo.add (h : RunsTo l p k l' p') (h12 : p.ph = 12) {x : BitVec 64} (hx : l[1]? = some x) : ∃ k1, k = k1 + 1 ∧ RunsTo (l.set 1 (x + byP (wantsP p))) { p with ph := nextP (wantsP p) p.ph } k1 l' p' := by
  rcases h.inv with ⟨h13, _⟩ | ⟨a, y, k1, _, hk, ha, hy, hr⟩
  · omega
  · have e : a = ⟨4, 1, byP (wantsP p)⟩ := by
      have hp := needP_some ha
      unfold needP at ha
      rw [if_pos (by simp [hp.1, hp.2]), if_pos h12] at ha
      exact (Option.some.inj ha).symm
    subst e
    have e2 : doP l ⟨4, 1, byP (wantsP p)⟩ = some (l.set 1 (x + byP (wantsP p)), x) := by
      unfold doP
      dsimp only
      rw [show (1 : Int).toNat = 1 by rfl, hx]
      dsimp only
      rw [if_neg (by decide), if_neg (by decide)]
    rw [e2] at hy
    have hy := Option.some.inj hy
    subst hy
    rw [takeP_store (by omega)] at hr
    exact ⟨k1, hk, hr⟩
theorem RunsTo.over (h : RunsTo l p k l' p') (h13 : 13 < p.ph) : l' = l ∧ p' = p ∧ k = 0 := by
  rcases h.inv with ⟨_, hk, hl, hp⟩ | ⟨a, y, k1, h2, _⟩
  · exact ⟨hl, hp, hk⟩
  · omega
end
end Go.Proofs.Hc
/- Blocks: small laws. -/
namespace Go.Proofs.Hc
open Go.RowKit
theorem block_ne {w : World} {r b : Nat} {c d : Array Value} {T T' : TypeId} {fr fr' : Nat × Nat} (h1 : w.heap[r]? = some (.cells c T fr)) (h2 : w.heap[b]? = some (.cells d T' fr')) (hT : T ≠ T') : r ≠ b := by
  intro he
  subst he
  rw [h1] at h2
  have := Option.some.inj h2
  injection this with _ h3
  exact hT h3
theorem onObj_other {w : World} {F b : Nat} (f : Obj → Obj) (h : ¬ b = F) : (World.onObj w F f).heap[b]? = w.heap[b]? := by rw [heap_onObj, if_neg h]
theorem setCell_other {w : World} {b : Nat} (p o : Nat) (v : Value) (h : b ≠ p) : (w.setCell ⟨p, o, none⟩ v).heap[b]? = w.heap[b]? := by rw [heap_setCell, if_neg h]
theorem blk_lt19 {w : World} {b : Nat} {o : Obj} (h : w.heap[b]? = some o) : b < w.heap.size := (Array.getElem?_eq_some_iff.1 h).1
end Go.Proofs.Hc
