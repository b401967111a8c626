/- Package table: a table, and pairs that are put in it. -/
import Derived.Test.YtmfajobocpaimaaGreatKHmet
import Derived.Test.YtmfajobocpaimaaGreatKHcg
import Derived.Test.YtmfajobocpaimaaGreatKHci
import Derived.Test.YtmfajobocpaimaaGreatKHcs
import Derived.Test.YtmfajobocpaimaaGreatKHdv
import Derived.Test.YtmfajobocpaimaaGreatKHm
import Derived.Test.YtmfajobocpaimaaGreatKHma
import Derived.Test.YtmfajobocpaimaaGreatKHmy
import Derived.Test.YtmfajobocpaimaaGreatKHnl
import Derived.Test.YtmfajobocpaimaaGreatKHrw
import Derived.Test.YtmfajobocpaimaaGreatKHh
import Derived.Test.YtmfajobocpaimaaGreatKHtc
import Derived.Test.YtmfajobocpaimaaGreatKHni
import Derived.Test.YtmfajobocpaimaaGreatKHxh
import Derived.Test.YtmfajobocpaimaaGreatKHxo
import Derived.Below
import Derived.BigQuiet
import Derived.Deep.Draws
import Derived.Deep.Light
import Derived.Deep.QuietTactic
import Derived.Deep.RegionHeld
import Derived.Laws.CopyRow
import Derived.Laws.Tables
import Derived.Lib.AppendZerosOnto
import Derived.Lib.Hide
import Derived.Lib.Tables
import Derived.Lib.Walk
import Derived.LoopIn
import Derived.LoopN
import Derived.LoopNIn
import Derived.Maps.AppendAt
import Derived.Maps.Views
import Derived.OwnWalkIn
import Derived.RangeFuncBox
import Derived.RangeFuncCalls
import Derived.RangeFuncRecord
import Derived.RangeFuncSeq
import Derived.Recover
import Derived.RegionTactic
import Derived.Shelf.Slices.Clone
import Derived.StillTail
import Derived.StillTailTactics
import Derived.TacticsInMore
import Derived.Test.YtmfajobocpaimaaGreatProg
import Derived.WalkKit
import Derived.WalkLawsBesides
import Derived.WalkMore
import Derived.WalkSpells
import Derived.Laws.StructEq
import Derived.Deep.OwnRows
import Derived.IntWalk
import Derived.Laws.CopyOwn
import Derived.ScopeJumps
set_option linter.unusedSimpArgs false
set_option linter.unusedVariables false
namespace Go.Proofs.Hc
open Go.RowKit
attribute [local go_sem] wrap_u64 wrap_u8 bits_xor64 bits_and64 bits_or64 bits_not64 bits_xor8 bits_and8 bits_or8 signed64 signed8 ofInt_N BitVec.ofInt_add BitVec.ofInt_mul ofInt_sub' ofInt8_N64 ofInt64_N8 wide8 eqN neN shr_pow shr1 shr7 shr56
attribute [local go_sem high] bits_com64 shl_wrap
attribute [local go_sem] cell_heap ice_heap cellAt_cells iceAt_cells setAt_cells rowAt_cells canLay_cells laidAt_cells size_onObj size_setCell rowRes_some layRes_true
attribute [local go_sem] load26 load73 load23 store26 build73
attribute [local go_sem ↓] lrow26 lrow73 lrow23 srow26 zero26 brow73 heap_alloc heap_drew heap_drewN heap_setCell heap_onObj
attribute [local go_sem] tcells_size hcells_size tcells_get hcells_get tcells_one hcells_one hcells_table tcells_table hcells_all hcells_ctrl tcells_ctrl
attribute [local go_sem] nn2 nm2 nn3 nm3 nn4 nm4 nn5 nm5 nn6 nm6 nn7 nm7 nn8 nm8
attribute [local go_sem] nn2 nm2 nn3 nm3 nn4 nm4 nn5 nm5 nn6 nm6 nn7 nm7 nn8 nm8
attribute [local go_sem] Oper.semAt_some make_func1 ofInt_pow8
attribute [local go_sem] box26 tcells_idx cell0 cell1 cell2 cell3 cell4 hcells_idx hcells_pop
attribute [local go_sem] cell5 cell6
theorem loadP (g o : Nat) (w : World) : (loadRow 31 ⟨g, o, none⟩).run Tryz.prog w = rowRes Tryz.prog 31 g o w ((w.heap[g]?).bind (rowAt o 2)) :=
  run_row Tryz.underlying31 rfl (by kernel_rfl) g o w
theorem storeP (g o : Nat) (vs : Array Value) (w : World) : (storeRow 31 ⟨g, o, none⟩ (.agg vs)).run Tryz.prog w = layRes Tryz.prog 31 g o vs w (((w.heap[g]?).map (canLay o 2 vs)).getD false) :=
  run_lay (by kernel_rfl) g o vs w
theorem lrowP (a : Addr) : loadVar 31 a = loadRow 31 a := rfl
theorem srowP (a : Addr) (v : Value) : storeVar 31 a v = storeRow 31 a v := rfl
theorem zeroP (w : World) : (zeroValue 31).run Tryz.prog w = .ok (.agg #[U 0#64, U 0#64]) w := by kernel_rfl
/-- A row of pairs, read where it lies. -/
def PairsAt (cur : Array Value) (l : List (BitVec 64 × BitVec 64)) : Prop := ∀ (i : Nat) (p : BitVec 64 × BitVec 64), l[i]? = some p → rowAt (2 * i) 2 (.cells cur 31 (0, 0)) = some #[U p.1, U p.2]
theorem pcells_at : ∀ (l : List (BitVec 64 × BitVec 64)) (i : Nat) (p : BitVec 64 × BitVec 64), l[i]? = some p → (pcells l)[2 * i]? = some (U p.1) ∧ (pcells l)[2 * i + 1]? = some (U p.2)
  | [], i, p, h => by cases h
  | q :: l, 0, p, h => by
    have : q = p := by simpa using h
    subst this; exact ⟨rfl, rfl⟩
  | q :: l, i + 1, p, h => by
    have := pcells_at l i p (by simpa using h)
    have e : pcells (q :: l) = U q.1 :: U q.2 :: pcells l := rfl
    rw [e, show 2 * (i + 1) = 2 * i + 1 + 1 by omega]
    simpa using this
theorem pairs_at {W : World} {base n : Nat} {a : Option Addr} {c : Nat} {l : List (BitVec 64 × BitVec 64)} (hn : n = l.length) (h : W.ownsRow base 31 2 (.slice a n c) n (pcells l)) :
    ∃ cur, PairsAt cur l ∧ (0 < l.length → ∃ r, a = some ⟨r, 0, none⟩) ∧ ∀ r, a = some ⟨r, 0, none⟩ → base ≤ r ∧ W.heap[r]? = some (.cells cur 31 (0, 0)) := by
  subst hn
  obtain ⟨_, ⟨hv, h0⟩ | ⟨g, cap, cur, hv, hg, hW, hle, _, hsz, hx⟩⟩ := h
  · refine ⟨#[], fun i p hp => ?_, fun hl => by omega, fun r hr => by rw [hr] at hv; simp at hv⟩
    have := (List.getElem?_eq_some_iff.1 hp).1
    omega
  · refine ⟨cur, fun i p hp => ?_, fun _ => ⟨g, by simp only [Value.slice.injEq] at hv; exact hv.1⟩, fun r hr => ?_⟩
    · have hi := (List.getElem?_eq_some_iff.1 hp).1
      obtain ⟨h1, h2⟩ := pcells_at l i p hp
      rw [← hx, List.getElem?_take] at h1 h2
      rw [if_pos (by omega)] at h1 h2
      have h1' : cur[2 * i]? = some (U p.1) := by simpa using h1
      have h2' : cur[2 * i + 1]? = some (U p.2) := by simpa using h2
      rw [rowAt_cells, if_pos (by omega)]
      congr 1
      apply Array.ext_getElem?
      intro j
      rw [Array.getElem?_extract]
      match j with
      | 0 => rw [if_pos (by omega)]; simpa using h1'
      | 1 => rw [if_pos (by omega)]; simpa using h2'
      | j + 2 => rw [if_neg (by omega)]; simp
    · rw [hr] at hv
      simp only [Value.slice.injEq] at hv
      have hrg : r = g := by simpa using hv.1
      subst hrg
      exact ⟨hg, hW⟩
theorem allOne_pair (x y : BitVec 64) : allOne #[U x, U y] = true := by simp [allOne, Value.oneCell']
theorem laidAt_p (a b c d : Value) (T : TypeId) (fr : Nat × Nat) : laidAt 0 #[a, b] (.cells #[c, d] T fr) = .cells #[a, b] T fr := by
  have h := laid_whole (#[a, b] : Array Value) #[c, d] rfl
  show Obj.cells (((#[c, d] : Array Value).extract 0 0 ++ #[a, b]) ++ (#[c, d] : Array Value).extract (0 + (#[a, b] : Array Value).size) (#[c, d] : Array Value).size) T fr = _
  rw [h]
attribute [local go_sem] loadP storeP allOne_pair
attribute [local go_sem high] laidAt_p
attribute [local go_sem high] laidAt_t
attribute [local go_sem ↓] lrowP srowP zeroP
theorem drop_one {α : Type} {l : List α} {m : Nat} (h : m < l.length) : ∃ p, l[m]? = some p ∧ l.drop m = p :: l.drop (m + 1) :=
  ⟨l[m]'h, List.getElem?_eq_getElem h, List.drop_eq_getElem_cons h⟩
end Go.Proofs.Hc
/- slices.Index, slices.Contains at rows of pairs. -/
namespace Go.Proofs.Hc
open Go.RowKit
attribute [local go_sem] wrap_u64 wrap_u8 bits_xor64 bits_and64 bits_or64 bits_not64 bits_xor8 bits_and8 bits_or8 signed64 signed8 ofInt_N BitVec.ofInt_add BitVec.ofInt_mul ofInt_sub' ofInt8_N64 ofInt64_N8 wide8 eqN neN shr_pow shr1 shr7 shr56
attribute [local go_sem high] bits_com64 shl_wrap
attribute [local go_sem] cell_heap ice_heap cellAt_cells iceAt_cells setAt_cells rowAt_cells canLay_cells laidAt_cells size_onObj size_setCell rowRes_some layRes_true
attribute [local go_sem] load26 load73 load23 store26 build73
attribute [local go_sem ↓] lrow26 lrow73 lrow23 srow26 zero26 brow73 heap_alloc heap_drew heap_drewN heap_setCell heap_onObj
attribute [local go_sem] tcells_size hcells_size tcells_get hcells_get tcells_one hcells_one hcells_table tcells_table hcells_all hcells_ctrl tcells_ctrl
attribute [local go_sem] nn2 nm2 nn3 nm3 nn4 nm4 nn5 nm5 nn6 nm6 nn7 nm7 nn8 nm8
attribute [local go_sem] nn2 nm2 nn3 nm3 nn4 nm4 nn5 nm5 nn6 nm6 nn7 nm7 nn8 nm8
attribute [local go_sem] Oper.semAt_some make_func1
attribute [local go_sem] loadP storeP allOne_pair
attribute [local go_sem high] laidAt_p
attribute [local go_sem ↓] lrowP srowP zeroP
theorem fieldsP : (Tryz.prog.fieldsOf 31).toList.map (fun f => (f.name == "_", f.type, f.offset)) = [(false, 22, 0), (false, 22, 1)] := by kernel_rfl
theorem eqU (d : Nat) (x y : BitVec 64) (w : World) : (Op.equalIn (d + 1) 22 (U x) (U y)).run Tryz.prog w = .ok (x == y) w := by
  rw [run_equalIn_int w d 22 .u64 .u64 (N x) (N y) Tryz.underlying22]
  rw [eqN]
theorem eql_pair (x y z v : BitVec 64) (w : World) : (binOp .eql 31 (.agg #[U x, U y]) (.agg #[U z, U v])).run Tryz.prog w = .ok (.bool (x == z && y == v)) w := by
  rw [run_eql_struct, run_equalIn_agg w 9999 31 _ _ (by kernel_rfl) (by kernel_rfl)]
  have h := fieldsP
  generalize (Tryz.prog.fieldsOf 31).toList = fs at *
  have p0 : ∀ (x y : BitVec 64) (w : World), (part 22 #[U x, U y] 0).run Tryz.prog w = .ok (U x) w := fun x y w => by kernel_rfl
  have p1 : ∀ (x y : BitVec 64) (w : World), (part 22 #[U x, U y] 1).run Tryz.prog w = .ok (U y) w := fun x y w => by kernel_rfl
  cases fs with
  | nil => simp at h
  | cons f fs =>
    cases fs with
    | nil => simp at h
    | cons g fs =>
      cases fs with
      | cons e fs => simp at h
      | nil =>
        simp only [List.map_cons, List.map_nil, List.cons.injEq, Prod.mk.injEq, and_true, beq_eq_false_iff_ne] at h
        obtain ⟨⟨n1, t1, o1⟩, n2, t2, o2⟩ := h
        simp only [Op.eqFields]
        rw [if_pos n1, if_pos n2, t1, t2, o1, o2]
        simp only [Sem.run_bind, p0, p1, Result.andThen_ok, eqU, Sem.run_ite, Sem.run_pure]
        cases h1 : (x == z) <;> cases h2 : (y == v) <;> simp
theorem guardP (x y : Operand) (xs ys : Array Value) (w : World) : (eqGuard .eql 31 x y (.agg xs) (.agg ys)).run Tryz.prog w = .ok () w := run_eqGuard_agg w .eql 31 x y xs ys (by kernel_rfl)
attribute [local go_sem high] eql_pair guardP
theorem take_nextG {α : Type} {P : α → Prop} {l : List α} {m : Nat} {x : α} (h : ∀ y ∈ l.take m, P y) (hx : l[m]? = some x) (hp : P x) : ∀ y ∈ l.take (m + 1), P y := by
  intro y hy
  rw [List.take_add_one, hx] at hy
  rcases List.mem_append.1 hy with h1 | h1
  · exact h y h1
  · have : y = x := by simpa using h1
    rw [this]; exact hp
end Go.Proofs.Hc
/- A whole run of a pen: the plain law. -/
namespace Go.Proofs.Hc
open Go.RowKit
/-- A right pen's access lies in a row that holds its slab. -/
theorem needP_in {p : PenT} {a : AccT} {n : Nat} (h : needP p = some a) (hn : 56 + 40 * p.sl ≤ (n : Int)) : a.at_.toNat < n := by
  obtain ⟨hr, h13⟩ := needP_some h
  have R := (rightP_iff p).1 hr
  have hs := R.sl0
  unfold needP at h
  rw [if_pos (by simp [hr, h13])] at h
  have h := Option.some.inj h
  by_cases h12 : p.ph = 12
  · rw [if_pos h12] at h; subst h; show (1 : Int).toNat < n; omega
  · rw [if_neg h12] at h
    subst h
    have hw := wordP_range R h13
    show (16 + 40 * p.sl + wordP p).toNat < n
    omega
theorem needP_yes {p : PenT} (hr : rightP p = true) (h13 : p.ph ≤ 13) : ∃ a, needP p = some a := by
  unfold needP
  rw [if_pos (by simp [hr, h13])]
  exact ⟨_, rfl⟩
theorem doP_in {l : List (BitVec 64)} {a : AccT} (h : a.at_.toNat < l.length) : ∃ y, doP l a = some y ∧ y.1.length = l.length := by
  unfold doP
  rw [List.getElem?_eq_getElem h]
  refine ⟨_, rfl, ?_⟩
  dsimp only
  split
  · rfl
  · split <;> simp
/-- A step of a right pen whose row holds its slab: it goes on, stays right, and comes nearer to its end. -/
theorem stepP_goes {l : List (BitVec 64)} {p : PenT} (hr : rightP p = true) (h13 : p.ph ≤ 13) (hn : 56 + 40 * p.sl ≤ (l.length : Int)) :
    ∃ a y, needP p = some a ∧ doP l a = some y ∧ stepP l p = some (y.1, takeP p y.2) ∧ y.1.length = l.length ∧ rightP (takeP p y.2) = true ∧ meas (takeP p y.2) < meas p := by
  obtain ⟨a, ha⟩ := needP_yes hr h13
  obtain ⟨y, hy, hyl⟩ := doP_in (needP_in ha hn)
  have R := (rightP_iff p).1 hr
  refine ⟨a, y, ha, hy, ?_, hyl, (rightP_iff _).2 (R.take h13 y.2), meas_take R h13 y.2⟩
  unfold stepP
  rw [ha]
  dsimp only
  rw [hy]
  rfl
theorem onP_sl (p : PenT) : (onP p).sl = p.sl := by
  unfold onP
  split
  · rfl
  · split <;> rfl
theorem freeP_sl (p : PenT) (w : BitVec 64) (o : Option Nat) : (freeP p w o).sl = p.sl := by
  cases o with
  | none => rfl
  | some x =>
    by_cases h : p.free = 0
    · rw [freeP_put p w x h]
    · rw [freeP_kept p w _ h]
theorem takeP_sl (p : PenT) (w : BitVec 64) : (takeP p w).sl = p.sl := by
  unfold takeP
  split
  · split <;> rfl
  · split
    · unfold lookedP; rw [onP_sl, freeP_sl]; rfl
    · split
      · split
        · rfl
        · rw [onP_sl]
      · split
        · rfl
        · split
          · rfl
          · split <;> rfl
/-- A whole run: the words and the pen behind it, and how many steps. -/
inductive RunsTo : List (BitVec 64) → PenT → Nat → List (BitVec 64) → PenT → Prop
  | done {l p} : 13 < p.ph → RunsTo l p 0 l p
  | step {l p a y k l' p'} : p.ph ≤ 13 → rightP p = true → needP p = some a → doP l a = some y → RunsTo y.1 (takeP p y.2) k l' p' → RunsTo l p (k + 1) l' p'
theorem runs_any : ∀ (m : Nat) (l : List (BitVec 64)) (p : PenT), meas p ≤ m → rightP p = true → 56 + 40 * p.sl ≤ (l.length : Int) → ∃ k l' p', k ≤ m ∧ RunsTo l p k l' p' ∧ l'.length = l.length := by
  intro m
  induction m with
  | zero =>
    intro l p hm hr hn
    by_cases h13 : p.ph ≤ 13
    · obtain ⟨a, y, _, _, _, _, _, hlt⟩ := stepP_goes hr h13 hn
      omega
    · exact ⟨0, l, p, Nat.le_refl _, .done (by omega), rfl⟩
  | succ m ih =>
    intro l p hm hr hn
    by_cases h13 : p.ph ≤ 13
    · obtain ⟨a, y, ha, hy, _, hyl, hr', hlt⟩ := stepP_goes hr h13 hn
      obtain ⟨k, l', p', hk, hrun, hl'⟩ := ih y.1 (takeP p y.2) (by omega) hr' (by rw [takeP_sl, hyl]; exact hn)
      exact ⟨k + 1, l', p', by omega, .step h13 hr ha hy hrun, by rw [hl', hyl]⟩
    · exact ⟨0, l, p, Nat.zero_le _, .done (by omega), rfl⟩
end Go.Proofs.Hc
/- The reference of layer 19: Run. -/
namespace Go.Proofs.Hc
open Go.RowKit
attribute [local go_sem] wrap_u64 wrap_u8 bits_xor64 bits_and64 bits_or64 bits_not64 bits_xor8 bits_and8 bits_or8 signed64 signed8 ofInt_N BitVec.ofInt_add BitVec.ofInt_mul ofInt_sub' ofInt8_N64 ofInt64_N8 wide8 eqN neN shr_pow shr1 shr7 shr56
attribute [local go_sem high] bits_com64 shl_wrap
attribute [local go_sem] cell_heap ice_heap cellAt_cells iceAt_cells setAt_cells rowAt_cells canLay_cells laidAt_cells size_onObj size_setCell rowRes_some layRes_true
attribute [local go_sem] load26 load73 load23 store26 build73
attribute [local go_sem ↓] lrow26 lrow73 lrow23 srow26 zero26 brow73 heap_alloc heap_drew heap_drewN heap_setCell heap_onObj
attribute [local go_sem] tcells_size hcells_size tcells_get hcells_get tcells_one hcells_one hcells_table tcells_table hcells_all hcells_ctrl tcells_ctrl
attribute [local go_sem] nn2 nm2 nn3 nm3 nn4 nm4 nn5 nm5 nn6 nm6 nn7 nm7 nn8 nm8
attribute [local go_sem] nn2 nm2 nn3 nm3 nn4 nm4 nn5 nm5 nn6 nm6 nn7 nm7 nn8 nm8
attribute [local go_sem] ofInt_N ofInt_pow8
attribute [local go_sem] Oper.semAt_some make_func1
attribute [local go_sem] pen_g0 pen_g1 pen_g2 pen_g3 pen_g4 pen_g5 pen_g6 pen_g7 pen_g8 pen_g9 pen_g10 pen_g11 pen_g12 pen_g13 pen_g14 pen_g15 pen_g16 pen_g17 penC_size penC_one penC_all
attribute [local irreducible] penC
attribute [local go_sem] pen_s0 pen_s1 pen_s2 pen_s3 pen_s4 pen_s5 pen_s6 pen_s7 pen_s8 pen_s9 pen_s10 pen_s11 pen_s12 pen_s13 pen_s14 pen_s15 pen_s16 pen_s17
attribute [local go_sem] boxPen loadPen storePen buildPen0
attribute [local go_sem ↓] lrowPen srowPen wzeroPen_run browPen
attribute [local go_sem high] wlaidAt_pen
theorem RunsTo.inv {l : List (BitVec 64)} {p : PenT} {k : Nat} {l' : List (BitVec 64)} {p' : PenT} (h : RunsTo l p k l' p') : (13 < p.ph ∧ k = 0 ∧ l' = l ∧ p' = p) ∨ ∃ a y k1, p.ph ≤ 13 ∧ k = k1 + 1 ∧ needP p = some a ∧ doP l a = some y ∧ RunsTo y.1 (takeP p y.2) k1 l' p' := by
  cases h with
  | done h => exact .inl ⟨h, rfl, rfl, rfl⟩
  | step h1 h2 h3 h4 h5 => exact .inr ⟨_, _, _, h1, rfl, h3, h4, h5⟩
theorem doP_len {l : List (BitVec 64)} {a : AccT} {y : List (BitVec 64) × BitVec 64} (h : doP l a = some y) : y.1.length = l.length := by
  unfold doP at h
  split at h
  · cases h
  · have h := Option.some.inj h
    subst h
    dsimp only
    split
    · rfl
    · split <;> simp
/-- A row of words at a block. -/
def RowIn (w : World) (v : Value) (n : Nat) (l : List (BitVec 64)) : Prop := ∃ r c cur, v = .slice (some ⟨r, 0, none⟩) n c ∧ l.length = n ∧ w.heap[r]? = some (.cells cur 22 (0, 0)) ∧ WordsAt cur l
theorem RowIn.own {w : World} {base n : Nat} {v : Value} {l : List (BitVec 64)} (h : w.ownsRow base 22 1 v n (l.map fun x => U x)) (h1 : 1 ≤ n) : RowIn w v n l := by
  obtain ⟨hlen, ⟨_, h0⟩ | ⟨r, c, cur, rfl, _, hW, _, _, _, htake⟩⟩ := h
  · omega
  · refine ⟨r, c, cur, rfl, by simpa using hlen, hW, ?_⟩
    intro j x hj
    have hjl : j < l.length := (List.getElem?_eq_some_iff.1 hj).1
    have hln : l.length = n := by simpa using hlen
    have : (cur.toList.take (n * 1))[j]? = some (U x) := by rw [htake, List.getElem?_map, hj]; rfl
    rw [List.getElem?_take, if_pos (by omega)] at this
    simpa using this
theorem RowIn.keep {w w' : World} {v : Value} {n : Nat} {l : List (BitVec 64)} (h : RowIn w v n l) (c : Ch [] w w') : RowIn w' v n l := by
  obtain ⟨r, d, cur, rfl, hn, hW, hA⟩ := h
  exact ⟨r, d, cur, rfl, hn, hkeep c hW, hA⟩
end Go.Proofs.Hc
/- Whole runs as a function, and the table's words: plain. -/
namespace Go.Proofs.Hc
open Go.RowKit
def runF : Nat → List (BitVec 64) → PenT → Nat → Option (List (BitVec 64) × PenT × Nat)
  | 0, _, _, _ => none
  | m + 1, l, p, k => if 13 < p.ph then some (l, p, k) else (needP p).bind fun a => (doP l a).bind fun y => runF m y.1 (takeP p y.2) (k + 1)
theorem runF_runs : ∀ (m : Nat) (l : List (BitVec 64)) (p : PenT) (k : Nat) (r : List (BitVec 64) × PenT × Nat), runF m l p k = some r → ∃ j, r.2.2 = k + j ∧ RunsTo l p j r.1 r.2.1 := by
  intro m
  induction m with
  | zero => intro l p k r h; cases h
  | succ m ih =>
    intro l p k r h
    unfold runF at h
    by_cases h13 : 13 < p.ph
    · rw [if_pos h13] at h
      have h := Option.some.inj h
      subst h
      exact ⟨0, rfl, .done h13⟩
    · rw [if_neg h13] at h
      obtain ⟨a, ha, h⟩ := Option.bind_eq_some_iff.1 h
      obtain ⟨y, hy, h⟩ := Option.bind_eq_some_iff.1 h
      obtain ⟨j, hj, hr⟩ := ih _ _ _ _ h
      exact ⟨j + 1, by omega, .step (by omega) (needP_some ha).1 ha hy hr⟩
/-- One who writes, at first. -/
def firstP (sl op : Int) (k a b h : BitVec 64) : PenT := ⟨0, sl, op, k, a, b, h, 0#64, 0#64, 0#64, 0, 0#64, 0#8, 0, 0#64, 0, 0#64, false⟩
end Go.Proofs.Hc
/- slices.DeleteFunc at rows of pairs: what the walk needs. -/
namespace Go.Proofs.Hc
open Go.RowKit
theorem pcells_set : ∀ (L : List (BitVec 64 × BitVec 64)) (i : Nat) (p : BitVec 64 × BitVec 64), i < L.length → (pcells L).take (2 * i) ++ [U p.1, U p.2] ++ (pcells L).drop (2 * i + 2) = pcells (L.set i p)
  | [], i, p, h => by simp at h
  | q :: L, 0, p, _ => rfl
  | q :: L, i + 1, p, h => by
    have ih := pcells_set L i p (by simpa using h)
    have e : pcells (q :: L) = U q.1 :: U q.2 :: pcells L := rfl
    have e2 : pcells ((q :: L).set (i + 1) p) = U q.1 :: U q.2 :: pcells (L.set i p) := rfl
    rw [e, e2, ← ih, show 2 * (i + 1) = 2 * i + 1 + 1 by omega, show 2 * i + 1 + 1 + 2 = (2 * i + 2) + 1 + 1 by omega]
    simp
/-- An own row, block and all. -/
structure RowOf (W : World) (base g n cap : Nat) (L : List (BitVec 64 × BitVec 64)) (cur : Array Value) : Prop where
  heap : W.heap[g]? = some (.cells cur 31 (0, 0))
  size : cur.size = cap * 2
  len : L.length = n
  le : n ≤ cap
  max : cap ≤ maxLen
  base : base ≤ g
  cells : cur.toList.take (2 * n) = pcells L
theorem RowOf.own {W : World} {base g n cap : Nat} {L : List (BitVec 64 × BitVec 64)} {cur : Array Value} (h : RowOf W base g n cap L cur) : W.ownsRow base 31 2 (.slice (some ⟨g, 0, none⟩) n cap) n (pcells L) :=
  ⟨by rw [pcells_len, h.len], .inr ⟨g, cap, cur, rfl, h.base, h.heap, h.le, h.max, h.size, by rw [Nat.mul_comm]; exact h.cells⟩⟩
/-- A pair that is stored. -/
theorem RowOf.put {W : World} {base g n cap : Nat} {L : List (BitVec 64 × BitVec 64)} {cur : Array Value} (h : RowOf W base g n cap L cur) {i : Nat} (hi : i < n) (p : BitVec 64 × BitVec 64) :
    ∃ cur', RowOf (World.onObj W g (laidAt (i * 2) #[U p.1, U p.2])) base g n cap (L.set i p) cur' := by
  have hsz := h.size
  have hle := h.le
  have hlen := h.len
  refine ⟨cur.extract 0 (i * 2) ++ #[U p.1, U p.2] ++ cur.extract (i * 2 + 2) cur.size, ?_, ?_, by rw [List.length_set]; exact hlen, hle, h.max, h.base, ?_⟩
  · rw [heap_onObj, if_pos rfl, h.heap]; rfl
  · simp only [Array.size_append, Array.size_extract, List.size_toArray, List.length_cons, List.length_nil]
    omega
  · rw [← pcells_set L i p (by omega), ← h.cells]
    have hcl : cur.toList.length = cap * 2 := by simpa using hsz
    have h1 : (cur.extract 0 (i * 2) ++ #[U p.1, U p.2] ++ cur.extract (i * 2 + 2) cur.size).toList = cur.toList.take (2 * i) ++ [U p.1, U p.2] ++ cur.toList.drop (2 * i + 2) := by
      simp only [Array.toList_append, Array.toList_extract, List.extract_eq_take_drop, Nat.sub_zero, List.drop_zero, Nat.mul_comm i 2]
      rw [List.take_of_length_le (l := List.drop (2 * i + 2) cur.toList) (by rw [List.length_drop, Array.length_toList]; omega)]
    rw [h1]
    generalize cur.toList = cl at *
    rw [show (cl.take (2 * n)).take (2 * i) = cl.take (2 * i) by rw [List.take_take, Nat.min_eq_left (by omega)]]
    have e : (cl.take (2 * i) ++ [U p.1, U p.2]).length = 2 * i + 2 := by simp; omega
    rw [List.take_append, e, List.take_of_length_le (by rw [e]; omega), List.drop_take]
end Go.Proofs.Hc
/- slices.DeleteFunc at rows of pairs, by the statement's own test. -/
namespace Go.Proofs.Hc
open Go.RowKit
attribute [local go_sem] wrap_u64 wrap_u8 bits_xor64 bits_and64 bits_or64 bits_not64 bits_xor8 bits_and8 bits_or8 signed64 signed8 ofInt_N BitVec.ofInt_add BitVec.ofInt_mul ofInt_sub' ofInt8_N64 ofInt64_N8 wide8 eqN neN shr_pow shr1 shr7 shr56
attribute [local go_sem high] bits_com64 shl_wrap
attribute [local go_sem] cell_heap ice_heap cellAt_cells iceAt_cells setAt_cells rowAt_cells canLay_cells laidAt_cells size_onObj size_setCell rowRes_some layRes_true
attribute [local go_sem] load26 load73 load23 store26 build73
attribute [local go_sem ↓] lrow26 lrow73 lrow23 srow26 zero26 brow73 heap_alloc heap_drew heap_drewN heap_setCell heap_onObj
attribute [local go_sem] tcells_size hcells_size tcells_get hcells_get tcells_one hcells_one hcells_table tcells_table hcells_all hcells_ctrl tcells_ctrl
attribute [local go_sem] nn2 nm2 nn3 nm3 nn4 nm4 nn5 nm5 nn6 nm6 nn7 nm7 nn8 nm8
attribute [local go_sem] nn2 nm2 nn3 nm3 nn4 nm4 nn5 nm5 nn6 nm6 nn7 nm7 nn8 nm8
attribute [local go_sem] Oper.semAt_some make_func1
attribute [local go_sem] loadP storeP allOne_pair
attribute [local go_sem high] laidAt_p
attribute [local go_sem ↓] lrowP srowP zeroP
theorem RowOf.ch {W W' : World} {S : List Nat} {base g n cap : Nat} {L : List (BitVec 64 × BitVec 64)} {cur : Array Value} (h : RowOf W base g n cap L cur) (c : Ch S W W') (hg : g ∉ S) : RowOf W' base g n cap L cur := ⟨hkeepS c hg h.heap, h.size, h.len, h.le, h.max, h.base, h.cells⟩
end Go.Proofs.Hc
