/- Who writes: what becomes of one that may be. Plain law, no program in sight. -/
import Derived.Test.YtcikopeddljgkaaGreatKHcb
import Derived.Test.YtcikopeddljgkaaGreatKHg
import Derived.Test.YtcikopeddljgkaaGreatKHdn
import Derived.Test.YtcikopeddljgkaaGreatKHj
import Derived.Test.YtcikopeddljgkaaGreatKHma
import Derived.Test.YtcikopeddljgkaaGreatKHmet
import Derived.Test.YtcikopeddljgkaaGreatKHmy
import Derived.Test.YtcikopeddljgkaaGreatKHr
import Derived.Test.YtcikopeddljgkaaGreatKHtd
import Derived.Test.YtcikopeddljgkaaGreatKHtj
import Derived.Test.YtcikopeddljgkaaGreatKHtr2
import Derived.Below
import Derived.BigQuiet
import Derived.Deep.Draws
import Derived.Deep.Light
import Derived.Deep.QuietTactic
import Derived.Deep.RegionHeld
import Derived.Laws.CopyRow
import Derived.Laws.Tables
import Derived.Lib.AppendZerosOnto
import Derived.Lib.Hide
import Derived.Lib.Tables
import Derived.Lib.Walk
import Derived.LoopIn
import Derived.LoopN
import Derived.LoopNIn
import Derived.Maps.AppendAt
import Derived.Maps.Views
import Derived.OwnWalkIn
import Derived.RangeFuncBox
import Derived.RangeFuncCalls
import Derived.RangeFuncRecord
import Derived.RangeFuncSeq
import Derived.Recover
import Derived.RegionTactic
import Derived.Shelf.Slices.Clone
import Derived.StillTail
import Derived.StillTailTactics
import Derived.TacticsInMore
import Derived.Test.YtcikopeddljgkaaGreatProg
import Derived.WalkKit
import Derived.WalkLawsBesides
import Derived.WalkMore
import Derived.WalkSpells
import Derived.Laws.StructEq
import Derived.ScopeJumps
import Derived.Deep.OwnRows
import Derived.IntWalk
import Derived.Laws.CopyOwn
set_option linter.unusedSimpArgs false
set_option linter.unusedVariables false
namespace Go.Proofs.Hc
open Go.RowKit
/-- What holds of one that may be. -/
structure RightP (p : PenT) : Prop where
  ph0 : 0 ≤ p.ph
  ph1 : p.ph ≤ 16
  sl0 : 0 ≤ p.sl
  sl1 : p.sl < 128
  op0 : 2 ≤ p.op
  op1 : p.op ≤ 5
  cnt : oddB p.count = false
  grp : p.grp = 0 ∨ p.grp = 1
  slot0 : 0 ≤ p.slot
  slot1 : p.slot ≤ 15
  free0 : 0 ≤ p.free
  free1 : p.free ≤ 16
  left : p.ph = 2 → p.left ≠ 0#8
  goes : p.ph < 4 ∨ 13 < p.ph ∨ throughP (wantsP p) p.ph = true ∧ (wantsP p ≠ 1 ∨ 0 < p.free)
theorem wantsP_cases (p : PenT) : wantsP p = 0 ∨ wantsP p = 1 ∨ wantsP p = 2 ∨ wantsP p = 3 := by have := wantsP_le p; omega
theorem head_lt {m : BitVec 8} {x : Nat} (h : (lanesOf m).head? = some x) : x < 8 := by
  have hm : x ∈ lanesOf m := List.mem_of_head? h
  unfold lanesOf at hm
  simpa using (List.mem_filter.1 hm).1
theorem laneP_lt (m : BitVec 8) : laneP m < 8 := by
  unfold laneP
  cases h : (lanesOf m).head? with
  | none => simp
  | some x => simpa using head_lt h
theorem groupP_lt (p : PenT) : groupP p < 2 := Nat.mod_lt _ (by decide)
theorem RightP.decided {p : PenT} (h : RightP p) : RightP (decidedP p) := by
  have hw := wantsP_cases p
  have h0 : wantsP (decidedP p) = wantsP p := rfl
  obtain ⟨h1, h2, h3, h4, h5, h6, h7, h8, h9, h10, h11, h12, h13, h14⟩ := h
  have hph : (decidedP p).ph = if wantsP p = 0 then 14 else if wantsP p = 2 then 6 else if wantsP p = 1 ∧ p.free = 0 then 16 else 4 := rfl
  have hc : (decidedP p).ph = 14 ∨ (decidedP p).ph = 16 ∨ (decidedP p).ph = 6 ∧ wantsP p = 2 ∨ (decidedP p).ph = 4 ∧ (wantsP p = 1 ∧ p.free ≠ 0 ∨ wantsP p = 3) := by
    rw [hph]; repeat' split
    all_goals omega
  refine ⟨by omega, by omega, h3, h4, h5, h6, h7, h8, h9, h10, h11, h12, by omega, ?_⟩
  rcases hc with hc | hc | ⟨hc, hw2⟩ | ⟨hc, hw2⟩
  · omega
  · omega
  · refine .inr (.inr ⟨by rw [hc, h0, hw2]; rfl, .inl (by omega)⟩)
  · have hfr : (decidedP p).free = p.free := rfl
    refine .inr (.inr ⟨?_, ?_⟩)
    · rw [hc, h0]; rcases hw2 with ⟨e, -⟩ | e <;> (rw [e]; rfl)
    · rw [h0, hfr]; omega
theorem RightP.ph_ {p : PenT} (h : RightP p) {x : Int} (h0 : x = 0 ∨ x = 1 ∨ x = 3 ∨ 14 ≤ x ∧ x ≤ 16) : RightP { p with ph := x } := by
  obtain ⟨h1, h2, h3, h4, h5, h6, h7, h8, h9, h10, h11, h12, h13, h14⟩ := h
  exact ⟨by show 0 ≤ x; omega, by show x ≤ 16; omega, h3, h4, h5, h6, h7, h8, h9, h10, h11, h12, fun e => by have e' : x = 2 := e; omega, by show x < 4 ∨ 13 < x ∨ _; omega⟩
theorem RightP.on {p : PenT} (h : RightP p) : RightP (onP p) := by
  unfold onP
  split
  · rename_i hl
    have hl' : p.left ≠ 0#8 := by simpa using hl
    obtain ⟨h1, h2, h3, h4, h5, h6, h7, h8, h9, h10, h11, h12, h13, h14⟩ := h
    exact ⟨by show (0 : Int) ≤ 2; omega, by show (2 : Int) ≤ 16; omega, h3, h4, h5, h6, h7, h8, h9, h10, h11, h12, fun _ => hl', .inl (by show (2 : Int) < 4; omega)⟩
  · split
    · exact h.decided
    · obtain ⟨h1, h2, h3, h4, h5, h6, h7, h8, h9, h10, h11, h12, h13, h14⟩ := h
      exact ⟨by show (0 : Int) ≤ 1; omega, by show (1 : Int) ≤ 16; omega, h3, h4, h5, h6, h7, .inr rfl, h9, h10, h11, h12, fun e => by have e' : (1 : Int) = 2 := e; omega, .inl (by show (1 : Int) < 4; omega)⟩
theorem nextP_cases (w : Nat) (ph : Int) : nextP w ph = 14 ∨ (ph < nextP w ph ∧ nextP w ph ≤ 13 ∧ throughP w (nextP w ph) = true) := by
  unfold nextP
  cases h : ((List.range 14).map fun n : Nat => (n : Int)).find? fun n => decide (ph < n) && throughP w n with
  | none => exact .inl rfl
  | some x =>
    right
    have h1 := List.find?_some h
    have h2 := List.mem_of_find?_eq_some h
    simp only [Bool.and_eq_true, decide_eq_true_eq] at h1
    simp only [List.mem_map, List.mem_range] at h2
    obtain ⟨a, ha, rfl⟩ := h2
    exact ⟨h1.1, by show (a : Int) ≤ 13; omega, h1.2⟩
/-- The same but for what was read: nothing that is asked of it. -/
theorem RightP.read {p q : PenT} (h : RightP p) (hph : q.ph = p.ph) (hsl : q.sl = p.sl) (hop : q.op = p.op) (hc : oddB q.count = false) (hg : q.grp = 0 ∨ q.grp = 1)
    (hs0 : 0 ≤ q.slot) (hs1 : q.slot ≤ 15) (hf0 : 0 ≤ q.free) (hf1 : q.free ≤ 16) (hl : p.ph < 4) (h2 : p.ph ≠ 2) : RightP q := by
  obtain ⟨h1, h2', h3, h4, h5, h6, h7, h8, h9, h10, h11, h12, h13, h14⟩ := h
  exact ⟨by omega, by omega, by omega, by omega, by omega, by omega, hc, hg, hs0, hs1, hf0, hf1, fun e => absurd (hph ▸ e) h2, .inl (by omega)⟩
theorem through_sane {w : Nat} {x : Int} (h : throughP w x = true) (h5 : x = 4) : w = 1 ∨ w = 3 := by
  subst h5; unfold throughP at h; simpa using h
theorem RightP.take {p : PenT} (h : RightP p) (hph : p.ph ≤ 13) (w : BitVec 64) : RightP (takeP p w) := by
  have hg := groupP_lt p
  have hln := laneP_lt p.left
  unfold takeP
  split
  · split
    · exact h.ph_ (by omega)
    · rename_i e0 ew
      obtain ⟨h1, h2, h3, h4, h5, h6, h7, h8, h9, h10, h11, h12, h13, h14⟩ := h
      exact ⟨by show (0 : Int) ≤ 1; omega, by show (1 : Int) ≤ 16; omega, h3, h4, h5, h6, by simpa using ew, .inl rfl, h9, h10, h11, h12, fun e => by have e' : (1 : Int) = 2 := e; omega, .inl (by show (1 : Int) < 4; omega)⟩
  split
  · rename_i e0 e1
    unfold lookedP
    apply RightP.on
    have hs : RightP (seenP p w) := h.read rfl rfl rfl h.cnt h.grp h.slot0 h.slot1 h.free0 h.free1 (by omega) (by omega)
    have hgs : groupP (seenP p w) < 2 := groupP_lt _
    have hph1 : (seenP p w).ph = 1 := e1
    generalize seenP p w = q at *
    cases hx : (lanesOf (freeM w)).head? with
    | none => exact hs
    | some x =>
      have hx8 := head_lt hx
      unfold freeP
      simp only
      split
      · exact hs.read rfl rfl rfl hs.cnt hs.grp hs.slot0 hs.slot1 (by show (0 : Int) ≤ ((8 * groupP q + x + 1 : Nat) : Int); omega) (by show ((8 * groupP q + x + 1 : Nat) : Int) ≤ 16; omega) (by omega) (by omega)
      · exact hs
  split
  · split
    · have h' := h.ph_ (x := 3) (by omega)
      obtain ⟨h1, h2, h3, h4, h5, h6, h7, h8, h9, h10, h11, h12, h13, h14⟩ := h'
      exact ⟨h1, h2, h3, h4, h5, h6, h7, h8, by show (0 : Int) ≤ ((8 * groupP p + laneP p.left : Nat) : Int); omega, by show ((8 * groupP p + laneP p.left : Nat) : Int) ≤ 15; omega, h11, h12, h13, .inl (by show (3 : Int) < 4; omega)⟩
    · rename_i e0 e1 e2 ew
      have h' := h.ph_ (x := 0) (by omega)
      have key : onP { p with left := p.left &&& ~~~(1#8 <<< laneP p.left) } = onP { p with left := p.left &&& ~~~(1#8 <<< laneP p.left), ph := 0 } := by
        unfold onP decidedP; rfl
      rw [key]
      apply RightP.on
      exact h'.read rfl rfl rfl h.cnt h.grp h.slot0 h.slot1 h.free0 h.free1 (by show (0 : Int) < 4; omega) (by show (0 : Int) ≠ 2; omega)
  split
  · apply RightP.decided
    exact h.read rfl rfl rfl h.cnt h.grp h.slot0 h.slot1 h.free0 h.free1 (by omega) (by omega)
  split
  · rename_i e0 e1 e2 e3 e4
    have h14 := h.goes
    have hth : throughP (wantsP p) p.ph = true ∧ (wantsP p ≠ 1 ∨ 0 < p.free) := (h14.resolve_left (by omega)).resolve_left (by omega)
    have hw := through_sane hth.1 e4
    obtain ⟨h1, h2, h3, h4, h5, h6, h7, h8, h9, h10, h11, h12, h13, _⟩ := h
    obtain ⟨q, hq⟩ : ∃ q : PenT, q = { p with can := w, ph := if wantsP p == 1 && wasP p && w == 0#64 then 16 else 5 } := ⟨_, rfl⟩
    have hqp : q.ph = 16 ∨ q.ph = 5 := by rw [hq]; show (if _ then (16 : Int) else 5) = 16 ∨ (if _ then (16 : Int) else 5) = 5; split <;> simp
    have hwq : wantsP q = wantsP p := by rw [hq]; rfl
    have hfq : q.free = p.free := by rw [hq]
    rw [← hq]
    refine ⟨by omega, by omega, by rw [hq]; exact h3, by rw [hq]; exact h4, by rw [hq]; exact h5, by rw [hq]; exact h6, by rw [hq]; exact h7, by rw [hq]; exact h8, by rw [hq]; exact h9, by rw [hq]; exact h10, by omega, by omega, fun e => by omega, ?_⟩
    rcases hqp with e | e
    · omega
    · refine .inr (.inr ⟨?_, by rw [hwq, hfq]; exact hth.2⟩)
      rw [e, hwq]; rcases hw with e | e <;> (rw [e]; rfl)
  split
  · rename_i e0 e1 e2 e3 e4 e5
    have h14 := h.goes
    have hth : throughP (wantsP p) p.ph = true ∧ (wantsP p ≠ 1 ∨ 0 < p.free) := (h14.resolve_left (by omega)).resolve_left (by omega)
    obtain ⟨h1, h2, h3, h4, h5, h6, h7, h8, h9, h10, h11, h12, h13, _⟩ := h
    refine ⟨by show (0 : Int) ≤ 6; omega, by show (6 : Int) ≤ 16; omega, h3, h4, h5, h6, h7, h8, h9, h10, h11, h12, fun e => by have e' : (6 : Int) = 2 := e; omega, .inr (.inr ⟨?_, hth.2⟩)⟩
    have hw : wantsP p = 1 ∨ wantsP p = 3 := by have := hth.1; rw [e5] at this; unfold throughP at this; simpa using this
    show throughP (wantsP p) 6 = true
    rcases hw with e | e <;> (rw [e]; rfl)
  · have h14 := h.goes
    have hth : throughP (wantsP p) p.ph = true ∧ (wantsP p ≠ 1 ∨ 0 < p.free) := by have := h.ph0; exact (h14.resolve_left (by omega)).resolve_left (by omega)
    have hn := nextP_cases (wantsP p) p.ph
    have hp0 := h.ph0
    obtain ⟨h1, h2, h3, h4, h5, h6, h7, h8, h9, h10, h11, h12, h13, _⟩ := h
    refine ⟨by show (0 : Int) ≤ nextP _ _; omega, by show nextP _ _ ≤ 16; omega, h3, h4, h5, h6, h7, h8, h9, h10, h11, h12, fun e => by have e' : nextP _ _ = 2 := e; omega, ?_⟩
    rcases hn with e | ⟨_, _, e⟩
    · exact .inr (.inl (by show 13 < nextP _ _; omega))
    · exact .inr (.inr ⟨e, hth.2⟩)
end Go.Proofs.Hc
/- The reference of layer 19: Wants, through. -/
namespace Go.Proofs.Hc
open Go.RowKit
attribute [local go_sem] wrap_u64 wrap_u8 bits_xor64 bits_and64 bits_or64 bits_not64 bits_xor8 bits_and8 bits_or8 signed64 signed8 ofInt_N BitVec.ofInt_add BitVec.ofInt_mul ofInt_sub' ofInt8_N64 ofInt64_N8 wide8 eqN neN shr_pow shr1 shr7 shr56
attribute [local go_sem high] bits_com64 shl_wrap
attribute [local go_sem] cell_heap ice_heap cellAt_cells iceAt_cells setAt_cells rowAt_cells canLay_cells laidAt_cells size_onObj size_setCell rowRes_some layRes_true
attribute [local go_sem] load26 load73 load23 store26 build73
attribute [local go_sem ↓] lrow26 lrow73 lrow23 srow26 zero26 brow73 heap_alloc heap_drew heap_drewN heap_setCell heap_onObj
attribute [local go_sem] tcells_size hcells_size tcells_get hcells_get tcells_one hcells_one hcells_table tcells_table hcells_all hcells_ctrl tcells_ctrl
attribute [local go_sem] nn2 nm2 nn3 nm3 nn4 nm4 nn5 nm5 nn6 nm6 nn7 nm7 nn8 nm8
attribute [local go_sem] nn2 nm2 nn3 nm3 nn4 nm4 nn5 nm5 nn6 nm6 nn7 nm7 nn8 nm8
attribute [local go_sem] ofInt_N
theorem pen_g0 (p : PenT) : (penC p)[0]? = some (I p.ph) := rfl
theorem pen_g1 (p : PenT) : (penC p)[1]? = some (I p.sl) := rfl
theorem pen_g2 (p : PenT) : (penC p)[2]? = some (I p.op) := rfl
theorem pen_g3 (p : PenT) : (penC p)[3]? = some (U p.key) := rfl
theorem pen_g4 (p : PenT) : (penC p)[4]? = some (U p.a) := rfl
theorem pen_g5 (p : PenT) : (penC p)[5]? = some (U p.b) := rfl
theorem pen_g6 (p : PenT) : (penC p)[6]? = some (U p.hash) := rfl
theorem pen_g7 (p : PenT) : (penC p)[7]? = some (U p.count) := rfl
theorem pen_g8 (p : PenT) : (penC p)[8]? = some (U p.can) := rfl
theorem pen_g9 (p : PenT) : (penC p)[9]? = some (U p.live) := rfl
theorem pen_g10 (p : PenT) : (penC p)[10]? = some (I p.grp) := rfl
theorem pen_g11 (p : PenT) : (penC p)[11]? = some (U p.ctrl) := rfl
theorem pen_g12 (p : PenT) : (penC p)[12]? = some (Y p.left) := rfl
theorem pen_g13 (p : PenT) : (penC p)[13]? = some (I p.free) := rfl
theorem pen_g14 (p : PenT) : (penC p)[14]? = some (U p.fctrl) := rfl
theorem pen_g15 (p : PenT) : (penC p)[15]? = some (I p.slot) := rfl
theorem pen_g16 (p : PenT) : (penC p)[16]? = some (U p.val) := rfl
theorem pen_g17 (p : PenT) : (penC p)[17]? = some (.bool p.found) := rfl
theorem pen_s0 (p : PenT) (x : Int) : (penC p).setIfInBounds 0 (I x) = penC { p with ph := x } := rfl
theorem pen_s1 (p : PenT) (x : Int) : (penC p).setIfInBounds 1 (I x) = penC { p with sl := x } := rfl
theorem pen_s2 (p : PenT) (x : Int) : (penC p).setIfInBounds 2 (I x) = penC { p with op := x } := rfl
theorem pen_s3 (p : PenT) (x : BitVec 64) : (penC p).setIfInBounds 3 (U x) = penC { p with key := x } := rfl
theorem pen_s4 (p : PenT) (x : BitVec 64) : (penC p).setIfInBounds 4 (U x) = penC { p with a := x } := rfl
theorem pen_s5 (p : PenT) (x : BitVec 64) : (penC p).setIfInBounds 5 (U x) = penC { p with b := x } := rfl
theorem pen_s6 (p : PenT) (x : BitVec 64) : (penC p).setIfInBounds 6 (U x) = penC { p with hash := x } := rfl
theorem pen_s7 (p : PenT) (x : BitVec 64) : (penC p).setIfInBounds 7 (U x) = penC { p with count := x } := rfl
theorem pen_s8 (p : PenT) (x : BitVec 64) : (penC p).setIfInBounds 8 (U x) = penC { p with can := x } := rfl
theorem pen_s9 (p : PenT) (x : BitVec 64) : (penC p).setIfInBounds 9 (U x) = penC { p with live := x } := rfl
theorem pen_s10 (p : PenT) (x : Int) : (penC p).setIfInBounds 10 (I x) = penC { p with grp := x } := rfl
theorem pen_s11 (p : PenT) (x : BitVec 64) : (penC p).setIfInBounds 11 (U x) = penC { p with ctrl := x } := rfl
theorem pen_s12 (p : PenT) (x : BitVec 8) : (penC p).setIfInBounds 12 (Y x) = penC { p with left := x } := rfl
theorem pen_s13 (p : PenT) (x : Int) : (penC p).setIfInBounds 13 (I x) = penC { p with free := x } := rfl
theorem pen_s14 (p : PenT) (x : BitVec 64) : (penC p).setIfInBounds 14 (U x) = penC { p with fctrl := x } := rfl
theorem pen_s15 (p : PenT) (x : Int) : (penC p).setIfInBounds 15 (I x) = penC { p with slot := x } := rfl
theorem pen_s16 (p : PenT) (x : BitVec 64) : (penC p).setIfInBounds 16 (U x) = penC { p with val := x } := rfl
theorem pen_s17 (p : PenT) (x : Bool) : (penC p).setIfInBounds 17 (.bool x) = penC { p with found := x } := rfl
theorem boxPen (p : PenT) (w : World) : (Instr.box 123 (.agg (penC p))).run Tryz.prog w = .ok (.pointer (some ⟨w.heap.size, 0, none⟩)) (w.alloc (.cells (penC p) 123)) := rfl
theorem loadPen (g o : Nat) (w : World) : (loadRow 123 ⟨g, o, none⟩).run Tryz.prog w = rowRes Tryz.prog 123 g o w ((w.heap[g]?).bind (rowAt o 18)) :=
  run_row Tryz.underlying123 rfl (by kernel_rfl) g o w
theorem storePen (g o : Nat) (vs : Array Value) (w : World) : (storeRow 123 ⟨g, o, none⟩ (.agg vs)).run Tryz.prog w = layRes Tryz.prog 123 g o vs w (((w.heap[g]?).map (canLay o 18 vs)).getD false) :=
  run_lay (by kernel_rfl) g o vs w
theorem lrowPen (a : Addr) : loadVar 123 a = loadRow 123 a := rfl
theorem srowPen (a : Addr) (v : Value) : storeVar 123 a v = storeRow 123 a v := rfl
attribute [local go_sem] pen_g0 pen_g1 pen_g2 pen_g3 pen_g4 pen_g5 pen_g6 pen_g7 pen_g8 pen_g9 pen_g10 pen_g11 pen_g12 pen_g13 pen_g14 pen_g15 pen_g16 pen_g17 penC_size penC_one penC_all boxPen loadPen storePen
attribute [local go_sem ↓] lrowPen srowPen
attribute [local irreducible] penC
end Go.Proofs.Hc
/- Package write: next. -/
namespace Go.Proofs.Hc
open Go.RowKit
attribute [local go_sem] wrap_u64 wrap_u8 bits_xor64 bits_and64 bits_or64 bits_not64 bits_xor8 bits_and8 bits_or8 signed64 signed8 ofInt_N BitVec.ofInt_add BitVec.ofInt_mul ofInt_sub' ofInt8_N64 ofInt64_N8 wide8 eqN neN shr_pow shr1 shr7 shr56
attribute [local go_sem high] bits_com64 shl_wrap
attribute [local go_sem] cell_heap ice_heap cellAt_cells iceAt_cells setAt_cells rowAt_cells canLay_cells laidAt_cells size_onObj size_setCell rowRes_some layRes_true
attribute [local go_sem] load26 load73 load23 store26 build73
attribute [local go_sem ↓] lrow26 lrow73 lrow23 srow26 zero26 brow73 heap_alloc heap_drew heap_drewN heap_setCell heap_onObj
attribute [local go_sem] tcells_size hcells_size tcells_get hcells_get tcells_one hcells_one hcells_table tcells_table hcells_all hcells_ctrl tcells_ctrl
attribute [local go_sem] nn2 nm2 nn3 nm3 nn4 nm4 nn5 nm5 nn6 nm6 nn7 nm7 nn8 nm8
attribute [local go_sem] nn2 nm2 nn3 nm3 nn4 nm4 nn5 nm5 nn6 nm6 nn7 nm7 nn8 nm8
attribute [local go_sem] ofInt_N ofInt_pow8
attribute [local go_sem] Oper.semAt_some make_func1
attribute [local go_sem] pen_g0 pen_g1 pen_g2 pen_g3 pen_g4 pen_g5 pen_g6 pen_g7 pen_g8 pen_g9 pen_g10 pen_g11 pen_g12 pen_g13 pen_g14 pen_g15 pen_g16 pen_g17 penC_size penC_one penC_all
attribute [local irreducible] penC
attribute [local go_sem] pen_s0 pen_s1 pen_s2 pen_s3 pen_s4 pen_s5 pen_s6 pen_s7 pen_s8 pen_s9 pen_s10 pen_s11 pen_s12 pen_s13 pen_s14 pen_s15 pen_s16 pen_s17
/-- How far next is: the flag says whether the last one told is the one it is at. -/
def NextI (xs : List Int) (x : Int) (pre : List Int) (b : Bool) : Prop :=
  (b = true → 0 < pre.length ∧ xs[pre.length - 1]? = some x) ∧ (b = false → ∀ i, i < pre.length → xs[i]? ≠ some x) ∧ (b = true → ∀ i, i + 1 < pre.length → xs[i]? ≠ some x)
theorem NextI.nil (xs : List Int) (x : Int) : NextI xs x [] false := ⟨fun h => (by cases h), fun _ i hi => by simp at hi, fun h => by cases h⟩
theorem NextI.on {xs pre post : List Int} {x y : Int} (h : NextI xs x pre false) (hxs : xs = pre ++ y :: post) : NextI xs x (pre ++ [y]) (y == x) := by
  have hy : xs[pre.length]? = some y := by rw [hxs]; simp
  have hl : (pre ++ [y]).length = pre.length + 1 := by simp
  refine ⟨fun e => ?_, fun e i hi => ?_, fun e i hi => ?_⟩
  · have : y = x := by simpa using e
    exact ⟨by omega, by rw [hl, Nat.add_sub_cancel, hy, this]⟩
  · rcases Nat.lt_or_ge i pre.length with h1 | h1
    · exact h.2.1 rfl i h1
    · have : i = pre.length := by omega
      rw [this, hy]; intro e2
      have : y = x := by simpa using e2
      rw [this] at e; simp at e
  · exact h.2.1 rfl i (by omega)
end Go.Proofs.Hc
/- Package layout: Cell; package write: Check. -/
namespace Go.Proofs.Hc
open Go.RowKit
attribute [local go_sem] wrap_u64 wrap_u8 bits_xor64 bits_and64 bits_or64 bits_not64 bits_xor8 bits_and8 bits_or8 signed64 signed8 ofInt_N BitVec.ofInt_add BitVec.ofInt_mul ofInt_sub' ofInt8_N64 ofInt64_N8 wide8 eqN neN shr_pow shr1 shr7 shr56
attribute [local go_sem high] bits_com64 shl_wrap
attribute [local go_sem] cell_heap ice_heap cellAt_cells iceAt_cells setAt_cells rowAt_cells canLay_cells laidAt_cells size_onObj size_setCell rowRes_some layRes_true
attribute [local go_sem] load26 load73 load23 store26 build73
attribute [local go_sem ↓] lrow26 lrow73 lrow23 srow26 zero26 brow73 heap_alloc heap_drew heap_drewN heap_setCell heap_onObj
attribute [local go_sem] tcells_size hcells_size tcells_get hcells_get tcells_one hcells_one hcells_table tcells_table hcells_all hcells_ctrl tcells_ctrl
attribute [local go_sem] nn2 nm2 nn3 nm3 nn4 nm4 nn5 nm5 nn6 nm6 nn7 nm7 nn8 nm8
attribute [local go_sem] nn2 nm2 nn3 nm3 nn4 nm4 nn5 nm5 nn6 nm6 nn7 nm7 nn8 nm8
attribute [local go_sem] ofInt_N ofInt_pow8
attribute [local go_sem] Oper.semAt_some make_func1
attribute [local go_sem] pen_g0 pen_g1 pen_g2 pen_g3 pen_g4 pen_g5 pen_g6 pen_g7 pen_g8 pen_g9 pen_g10 pen_g11 pen_g12 pen_g13 pen_g14 pen_g15 pen_g16 pen_g17 penC_size penC_one penC_all
attribute [local irreducible] penC
theorem tmod2_64w (x : BitVec 64) : (N x).tmod 2 = N (x &&& 1#64) := by
  rw [Int.tmod_eq_emod_of_nonneg (N_nonneg x)]
  unfold N
  rw [BitVec.toNat_and]
  show ((x.toNat : Int) % 2) = ((x.toNat &&& (2 ^ 1 - 1) : Nat) : Int)
  rw [Nat.and_two_pow_sub_one_eq_mod]; rfl
theorem bit64w (x : BitVec 64) : (N (x &&& 1#64) == 1) = oddB x := by
  have h : (N (x &&& 1#64) == N (1#64)) = ((x &&& 1#64) == 1#64) := eqN _ _
  exact h
theorem bit64zw (x : BitVec 64) : (N (x &&& 1#64) == 0) = !oddB x := by
  rw [← bit64w]
  have h : N (x &&& 1#64) = 0 ∨ N (x &&& 1#64) = 1 := by rw [← tmod2_64w, Int.tmod_eq_emod_of_nonneg (N_nonneg x)]; omega
  rcases h with h | h <;> rw [h] <;> rfl
attribute [local go_sem high] tmod2_64w bit64w bit64zw
theorem brow170 (ps : Array (Nat × Value)) : Instr.build 281 ps = buildRow 281 ps := rfl
theorem build170 (p : PenT) (w : World) : (buildRow 281 #[(0, .agg (penC p))]).run Tryz.prog w = .ok (.agg (penC p)) w := by kernel_rfl
theorem box170 (p : PenT) (w : World) : (Instr.box 281 (.agg (penC p))).run Tryz.prog w = .ok (.pointer (some ⟨w.heap.size, 0, none⟩)) (w.alloc (.cells (penC p) 281)) := rfl
attribute [local go_sem] build170 box170 boxPen loadPen storePen
attribute [local go_sem ↓] brow170 lrowPen srowPen
/-- A slab's cell. -/
theorem cell_ok (n k : Int) (h0 : 0 ≤ n) (h1 : n < 128) (h2 : 0 ≤ k) (h3 : k < 40) (w : World) : Calls Tryz.prog 44 #[I n, I k] w fun e w' => e = .returned (.tuple #[I (16 + 40 * n + k), I 0]) ∧ w = w' := by
  go_enter Tryz.func44, Tryz.ntmps44
  go_wp2
  go_ret2
  exact ⟨by rw [show 16 + 40 * n + k = 16 + n * 40 + k by omega]; rfl, rfl⟩
end Go.Proofs.Hc
/- Package write: Take, Begin. -/
namespace Go.Proofs.Hc
open Go.RowKit
attribute [local go_sem] wrap_u64 wrap_u8 bits_xor64 bits_and64 bits_or64 bits_not64 bits_xor8 bits_and8 bits_or8 signed64 signed8 ofInt_N BitVec.ofInt_add BitVec.ofInt_mul ofInt_sub' ofInt8_N64 ofInt64_N8 wide8 eqN neN shr_pow shr1 shr7 shr56
attribute [local go_sem high] bits_com64 shl_wrap
attribute [local go_sem] cell_heap ice_heap cellAt_cells iceAt_cells setAt_cells rowAt_cells canLay_cells laidAt_cells size_onObj size_setCell rowRes_some layRes_true
attribute [local go_sem] load26 load73 load23 store26 build73
attribute [local go_sem ↓] lrow26 lrow73 lrow23 srow26 zero26 brow73 heap_alloc heap_drew heap_drewN heap_setCell heap_onObj
attribute [local go_sem] tcells_size hcells_size tcells_get hcells_get tcells_one hcells_one hcells_table tcells_table hcells_all hcells_ctrl tcells_ctrl
attribute [local go_sem] nn2 nm2 nn3 nm3 nn4 nm4 nn5 nm5 nn6 nm6 nn7 nm7 nn8 nm8
attribute [local go_sem] nn2 nm2 nn3 nm3 nn4 nm4 nn5 nm5 nn6 nm6 nn7 nm7 nn8 nm8
attribute [local go_sem] ofInt_N ofInt_pow8
attribute [local go_sem] Oper.semAt_some make_func1
attribute [local go_sem] pen_g0 pen_g1 pen_g2 pen_g3 pen_g4 pen_g5 pen_g6 pen_g7 pen_g8 pen_g9 pen_g10 pen_g11 pen_g12 pen_g13 pen_g14 pen_g15 pen_g16 pen_g17 penC_size penC_one penC_all
attribute [local irreducible] penC
attribute [local go_sem] pen_s0 pen_s1 pen_s2 pen_s3 pen_s4 pen_s5 pen_s6 pen_s7 pen_s8 pen_s9 pen_s10 pen_s11 pen_s12 pen_s13 pen_s14 pen_s15 pen_s16 pen_s17
theorem wzeroPen_run (w : World) : (zeroValue 123).run Tryz.prog w = .ok (.agg (penC zeroPen)) w := by kernel_rfl
theorem wlaidAt_pen (p q : PenT) (T : TypeId) (fr : Nat × Nat) : laidAt 0 (penC q) (.cells (penC p) T fr) = .cells (penC q) T fr := by
  rw [laidAt_cells, laid_whole _ _ (by rw [penC_size, penC_size])]
theorem browPen (ps : Array (Nat × Value)) : Instr.build 123 ps = buildRow 123 ps := rfl
theorem buildPen0 (w : World) : (buildRow 123 #[]).run Tryz.prog w = .ok (.agg (penC zeroPen)) w := by kernel_rfl
attribute [local go_sem] build170 box170 boxPen loadPen storePen buildPen0
attribute [local go_sem ↓] brow170 lrowPen srowPen wzeroPen_run browPen
attribute [local go_sem high] wlaidAt_pen
end Go.Proofs.Hc
/- The reference of layer 19: Run. -/
namespace Go.Proofs.Hc
open Go.RowKit
attribute [local go_sem] wrap_u64 wrap_u8 bits_xor64 bits_and64 bits_or64 bits_not64 bits_xor8 bits_and8 bits_or8 signed64 signed8 ofInt_N BitVec.ofInt_add BitVec.ofInt_mul ofInt_sub' ofInt8_N64 ofInt64_N8 wide8 eqN neN shr_pow shr1 shr7 shr56
attribute [local go_sem high] bits_com64 shl_wrap
attribute [local go_sem] cell_heap ice_heap cellAt_cells iceAt_cells setAt_cells rowAt_cells canLay_cells laidAt_cells size_onObj size_setCell rowRes_some layRes_true
attribute [local go_sem] load26 load73 load23 store26 build73
attribute [local go_sem ↓] lrow26 lrow73 lrow23 srow26 zero26 brow73 heap_alloc heap_drew heap_drewN heap_setCell heap_onObj
attribute [local go_sem] tcells_size hcells_size tcells_get hcells_get tcells_one hcells_one hcells_table tcells_table hcells_all hcells_ctrl tcells_ctrl
attribute [local go_sem] nn2 nm2 nn3 nm3 nn4 nm4 nn5 nm5 nn6 nm6 nn7 nm7 nn8 nm8
attribute [local go_sem] nn2 nm2 nn3 nm3 nn4 nm4 nn5 nm5 nn6 nm6 nn7 nm7 nn8 nm8
attribute [local go_sem] ofInt_N ofInt_pow8
attribute [local go_sem] Oper.semAt_some make_func1
attribute [local go_sem] pen_g0 pen_g1 pen_g2 pen_g3 pen_g4 pen_g5 pen_g6 pen_g7 pen_g8 pen_g9 pen_g10 pen_g11 pen_g12 pen_g13 pen_g14 pen_g15 pen_g16 pen_g17 penC_size penC_one penC_all
attribute [local irreducible] penC
attribute [local go_sem] pen_s0 pen_s1 pen_s2 pen_s3 pen_s4 pen_s5 pen_s6 pen_s7 pen_s8 pen_s9 pen_s10 pen_s11 pen_s12 pen_s13 pen_s14 pen_s15 pen_s16 pen_s17
attribute [local go_sem] boxPen loadPen storePen buildPen0
attribute [local go_sem ↓] lrowPen srowPen wzeroPen_run browPen
attribute [local go_sem high] wlaidAt_pen
theorem RunsTo.inv {l : List (BitVec 64)} {p : PenT} {k : Nat} {l' : List (BitVec 64)} {p' : PenT} (h : RunsTo l p k l' p') : (13 < p.ph ∧ k = 0 ∧ l' = l ∧ p' = p) ∨ ∃ a y k1, p.ph ≤ 13 ∧ k = k1 + 1 ∧ needP p = some a ∧ doP l a = some y ∧ RunsTo y.1 (takeP p y.2) k1 l' p' := by
  cases h with
  | done h => exact .inl ⟨h, rfl, rfl, rfl⟩
  | step h1 h2 h3 h4 h5 => exact .inr ⟨_, _, _, h1, rfl, h3, h4, h5⟩
/-- A row of words at a block. -/
def RowIn (w : World) (v : Value) (n : Nat) (l : List (BitVec 64)) : Prop := ∃ r c cur, v = .slice (some ⟨r, 0, none⟩) n c ∧ l.length = n ∧ w.heap[r]? = some (.cells cur 22 (0, 0)) ∧ WordsAt cur l
theorem RowIn.keep {w w' : World} {v : Value} {n : Nat} {l : List (BitVec 64)} (h : RowIn w v n l) (c : Ch [] w w') : RowIn w' v n l := by
  obtain ⟨r, d, cur, rfl, hn, hW, hA⟩ := h
  exact ⟨r, d, cur, rfl, hn, hkeep c hW, hA⟩
end Go.Proofs.Hc
