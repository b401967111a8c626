/- Law 29: BoundScripts, the walk (printed by gen_scripts29.py). -/
import Derived.Test.YtfoicjijngfhbaaGreatDoorKBc
import Derived.Test.YtfoicjijngfhbaaGreatDoorKBd
import Derived.Test.YtfoicjijngfhbaaGreatDoorKBe
import Derived.Test.YtfoicjijngfhbaaGreatDoorKBf
import Derived.Test.YtfoicjijngfhbaaGreatDoorKBk
import Derived.Test.YtfoicjijngfhbaaGreatDoorKBu
import Derived.Test.YtfoicjijngfhbaaGreatDoorKBy
import Derived.Test.YtfoicjijngfhbaaGreatDoorKDa
import Derived.Test.YtfoicjijngfhbaaGreatDoorKDf
import Derived.Test.YtfoicjijngfhbaaGreatDoorKEa
import Derived.Test.YtfoicjijngfhbaaGreatDoorKEf
import Derived.Test.YtfoicjijngfhbaaGreatDoorKEg
import Derived.Test.YtfoicjijngfhbaaGreatDoorKEh
import Derived.Test.YtfoicjijngfhbaaGreatDoorKEi
import Derived.Test.YtfoicjijngfhbaaGreatDoorKEk
import Derived.Test.YtfoicjijngfhbaaGreatDoorKFb
import Derived.Test.YtfoicjijngfhbaaGreatDoorKFd
import Derived.Test.YtfoicjijngfhbaaGreatDoorKFe
import Derived.Test.YtfoicjijngfhbaaGreatDoorKFf
import Derived.Test.YtfoicjijngfhbaaGreatDoorKFg
import Derived.Test.YtfoicjijngfhbaaGreatDoorKFi
import Derived.Test.YtfoicjijngfhbaaGreatDoorKFj
import Derived.Test.YtfoicjijngfhbaaGreatDoorKHm
import Derived.Test.YtfoicjijngfhbaaGreatDoorKHr
import Derived.Below
import Derived.BigQuiet
import Derived.ChangeKeysEq
import Derived.Deep.Cut
import Derived.Deep.CutRange
import Derived.Deep.Draws
import Derived.Deep.OwnRows
import Derived.Deep.QuietTactic
import Derived.Deep.RegionHeld
import Derived.Laws.AppendOwn
import Derived.Laws.Bits64
import Derived.Laws.Bits64b
import Derived.Laws.CopyOwn
import Derived.Laws.CopyRow
import Derived.Laws.EntriesVeiled
import Derived.Laws.IdiomCopy
import Derived.Laws.StructEq
import Derived.Laws.Tables
import Derived.Lib.AppendZerosOnto
import Derived.Lib.BitFns
import Derived.Lib.Hide
import Derived.Lib.Slices
import Derived.Lib.Small
import Derived.Lib.Strings
import Derived.Lib.Tables
import Derived.Lib.Walk
import Derived.LoopIn
import Derived.LoopNIn
import Derived.Maps.RangeWalk
import Derived.Maps.Views
import Derived.OwnWalkIn
import Derived.RangeFuncCalls
import Derived.RangeFuncRecord
import Derived.RangeFuncSeq
import Derived.Recover
import Derived.ScopeJumps
import Derived.Sort.AssemblyPlain
import Derived.Sort.Defs
import Derived.Sort.LotC
import Derived.Sort.LotD1
import Derived.Sort.LotD5
import Derived.Sort.LotD6
import Derived.Sort.Walk13a
import Derived.StillTail
import Derived.TacticsInMore
import Derived.Test.YtfoicjijngfhbaaGreatDoorProg
import Derived.WalkKit
import Derived.WalkLawsBesides
set_option linter.unusedSimpArgs false
set_option linter.unusedVariables false
namespace Go.Proofs.Hc
open Go.RowKit
set_option linter.unusedVariables false
set_option linter.unusedSimpArgs false
attribute [local go_sem] wrap_u64 wrap_u8 bits_xor64 bits_and64 bits_or64 bits_not64 bits_xor8 bits_and8 bits_or8 signed64 signed8 ofInt_N BitVec.ofInt_add BitVec.ofInt_mul ofInt_sub' ofInt8_N64 ofInt64_N8 wide8 eqN neN shr_pow shr1 shr7 shr56
attribute [local go_sem high] bits_com64 shl_wrap
attribute [local go_sem] nn2 nm2 nn3 nm3 nn4 nm4 nn5 nm5 nn6 nm6 nn7 nm7 nn8 nm8
attribute [local go_sem] Oper.semAt_some make_func1 make_funcB
attribute [local go_sem] cell_heap ice_heap cellAt_cells iceAt_cells setAt_cells size_setCell rowAt_cells canLay_cells laidAt_cells size_onObj rowRes_some layRes_true
attribute [local go_sem ↓] heap_alloc heap_drew heap_drewN heap_setCell heap_putObj heap_onObj
attribute [local go_sem] loadS box_sc scC_size scC_one scC_all storeSc
attribute [local go_sem ↓] lrowS srowSc zeroScV
theorem OwnSc.ch {w w' : World} {s s' : ScT} {ps : List (BitVec 64)} (h : OwnSc w s s' ps) (c : Ch [] w w') : OwnSc w' s s' ps := by
  refine { h with lists := ?_, picks := h.picks.ch c, rows := fun x hx => (h.rows x hx).keep c (by simp), lty := fun L o hL => ?_, kty := h.kty.ch c }
  · rcases h.lists with h | ⟨L, o, h1, h2⟩
    · exact .inl h
    · exact .inr ⟨L, o, h1, h2.ch c⟩
  · obtain ⟨cur, h1⟩ := h.lty L o hL
    exact ⟨cur, bkeep c h1⟩
theorem OwnSc.keepT {w w' : World} {S : List Nat} {s s' : ScT} {ps : List (BitVec 64)} (h : OwnSc w s s' ps) (c : Ch S w w') (hS : ∀ t ∈ S, ∃ cur : Array Value, w.heap[t]? = some (.cells cur 26 (0, 0))) : OwnSc w' s s' ps := by
  have hT : ∀ (t2 : TypeId), 26 ≠ t2 → ∀ t ∈ S, ∀ cur : Array Value, w.heap[t]? ≠ some (.cells cur t2 (0, 0)) := fun t2 h2 t ht => by
    obtain ⟨cur, hc⟩ := hS t ht
    exact cells_type hc h2
  have hk := h.picks.keepT h.kty c (hT _ (by decide))
  have hrows : ∀ x ∈ s'.ls, RowNew w' x := fun x hx => (h.rows x hx).keep c (hT _ (by decide))
  have hblk : ∀ L o, s'.la = some (L, o) → w'.heap[L]? = w.heap[L]? := fun L o hL => by
    obtain ⟨cur, h1⟩ := h.lty L o hL
    exact c.block L (Array.getElem?_eq_some_iff.1 h1).1 (fun hs => hT _ (by decide) L hs cur h1)
  refine { h with lists := ?_, picks := hk.1, rows := hrows, lty := fun L o hL => ?_, kty := hk.2 }
  · rcases h.lists with h | ⟨L, o, h1, h2⟩
    · exact .inl h
    · exact .inr ⟨L, o, h1, fun i x hi => ⟨(World.cell?_of_block (w := w) (hblk L o h1)).trans (h2 i x hi).1, (hrows x (List.mem_of_getElem? hi)).at_⟩⟩
  · obtain ⟨cur, h1⟩ := h.lty L o hL
    exact ⟨cur, (hblk L o hL).trans h1⟩
theorem catL_len {k : Nat} : ∀ (ls : List ListT), (∀ x ∈ ls, x.l.length ≤ k) → (catL ls).length ≤ ls.length * k
  | [], _ => by simp [catL]
  | x :: ls, h => by
    have ih := catL_len ls (fun y hy => h y (by simp [hy]))
    have h1 := h x (by simp)
    have e : catL (x :: ls) = x.l ++ catL ls := rfl
    rw [e, List.length_append, List.length_cons, Nat.add_mul]
    omega
theorem OwnSc.any {w : World} {s s' : ScT} {ps : List (BitVec 64)} (h : OwnSc w s s' ps) : AnySc w s' := by
  refine ⟨h.lists, ?_⟩
  have h1 := catL_len (k := 66) s'.ls h.owned.calls
  have h2 := h.owned.many
  have : s'.ls.length * 66 ≤ 10 * 66 := Nat.mul_le_mul_right _ h2
  omega
/-- Both scripts are owned; the places for them wait. -/
structure Mid (w : World) (a b : ScT) (ps qs : List (BitVec 64)) (B T5 T6 : Nat) (s1 s2 : ScT) (wc : World) : Prop where
  l5 : B + 2 ≤ T5
  l6 : B + 2 ≤ T6
  ne : T5 ≠ T6
  hB : wc.heap[B]? = some (.cells (scC a) 26 (0, 0))
  hD : wc.heap[B + 1]? = some (.cells (scC b) 26 (0, 0))
  c : Ch [] w wc
  z5 : wc.heap[T5]? = some (.cells (scC zeroSc) 26 (0, 0))
  z6 : wc.heap[T6]? = some (.cells (scC zeroSc) 26 (0, 0))
  o1 : OwnSc wc a s1 ps
  o2 : OwnSc wc b s2 qs
structure Fin2 (w : World) (a b : ScT) (ps qs : List (BitVec 64)) (B T5 T6 : Nat) (s1 s2 : ScT) (wc : World) : Prop where
  hB : wc.heap[B]? = some (.cells (scC a) 26 (0, 0))
  hD : wc.heap[B + 1]? = some (.cells (scC b) 26 (0, 0))
  c : Ch [] w wc
  z5 : wc.heap[T5]? = some (.cells (scC s1) 26 (0, 0))
  z6 : wc.heap[T6]? = some (.cells (scC s2) 26 (0, 0))
  o1 : OwnSc wc a s1 ps
  o2 : OwnSc wc b s2 qs
theorem Mid.fin {w wc : World} {a b : ScT} {ps qs : List (BitVec 64)} {B T5 T6 : Nat} {s1 s2 : ScT} (M : Mid w a b ps qs B T5 T6 s1 s2 wc) (hw : w.heap.size = B) :
    ((World.onObj wc T5 (laidAt 0 (scC s1))).heap[B]? = some (.cells (scC a) 26 (0, 0)) ∧ (World.onObj wc T5 (laidAt 0 (scC s1))).heap[B + 1]? = some (.cells (scC b) 26 (0, 0)) ∧ Ch [] w (World.onObj wc T5 (laidAt 0 (scC s1)))) ∧
    (World.onObj wc T5 (laidAt 0 (scC s1))).heap[T6]? = some (.cells (scC zeroSc) 26 (0, 0)) ∧
    Fin2 w a b ps qs B T5 T6 s1 s2 (World.onObj (World.onObj wc T5 (laidAt 0 (scC s1))) T6 (laidAt 0 (scC s2))) := by
  obtain ⟨W1, hW1⟩ : ∃ x, World.onObj wc T5 (laidAt 0 (scC s1)) = x := ⟨_, rfl⟩
  have c1 : Ch [T5] wc W1 := by rw [← hW1]; exact (Ch.refl _ _).onObj (.inl (by simp)) _
  have l5 := M.l5
  have l6 := M.l6
  have ne := M.ne
  have b1 := (c1.block B (Array.getElem?_eq_some_iff.1 M.hB).1 (by simp; omega)).trans M.hB
  have d1 := (c1.block (B + 1) (Array.getElem?_eq_some_iff.1 M.hD).1 (by simp; omega)).trans M.hD
  have cw1 : Ch [] w W1 := M.c.trans2 c1 (fun t ht => .inr (by rw [List.mem_singleton.1 ht]; omega))
  have z6 := (c1.block T6 (Array.getElem?_eq_some_iff.1 M.z6).1 (by simp; omega)).trans M.z6
  have z5 : W1.heap[T5]? = some (.cells (scC s1) 26 (0, 0)) := by rw [← hW1, heap_onObj, if_pos rfl, M.z5]; rfl
  have o1 := M.o1.keepT c1 (fun t ht => by rw [List.mem_singleton.1 ht]; exact ⟨_, M.z5⟩)
  have o2 := M.o2.keepT c1 (fun t ht => by rw [List.mem_singleton.1 ht]; exact ⟨_, M.z5⟩)
  rw [hW1]
  refine ⟨⟨b1, d1, cw1⟩, z6, ?_⟩
  obtain ⟨W2, hW2⟩ : ∃ x, World.onObj W1 T6 (laidAt 0 (scC s2)) = x := ⟨_, rfl⟩
  have c2 : Ch [T6] W1 W2 := by rw [← hW2]; exact (Ch.refl _ _).onObj (.inl (by simp)) _
  rw [hW2]
  refine ⟨(c2.block B (Array.getElem?_eq_some_iff.1 b1).1 (by simp; omega)).trans b1, (c2.block (B + 1) (Array.getElem?_eq_some_iff.1 d1).1 (by simp; omega)).trans d1, cw1.trans2 c2 (fun t ht => .inr (by rw [List.mem_singleton.1 ht]; omega)),
    (c2.block T5 (Array.getElem?_eq_some_iff.1 z5).1 (by simp; omega)).trans z5, ?_, o1.keepT c2 (fun t ht => by rw [List.mem_singleton.1 ht]; exact ⟨_, z6⟩), o2.keepT c2 (fun t ht => by rw [List.mem_singleton.1 ht]; exact ⟨_, z6⟩)⟩
  rw [← hW2, heap_onObj, if_pos rfl, z6]
  rfl
theorem RowsSc.two {w : World} {Q : Nat} (s t : ScT) (h : w.heap[Q]? = some (.cells (scC s ++ scC t) 26 (0, 0))) : RowsSc w Q [s, t] :=
  ⟨scC s ++ scC t, h, fun j x hj => by
    match j with
    | 0 =>
      have : s = x := by simpa using hj
      subst this
      rfl
    | 1 =>
      have : t = x := by simpa using hj
      subst this
      rfl
    | j + 2 => simp at hj⟩
theorem rows_two (s t : ScT) (w : World) : ∃ W, w.alloc (.cells (scC s ++ scC t) 26) = W ∧ Ch [] w W ∧ RowsSc W w.heap.size [s, t] :=
  ⟨_, rfl, (Ch.refl [] w).alloc _, RowsSc.two s t (by rw [heap_alloc, if_pos rfl])⟩
def bldTwo (ps : Array (Nat × Value)) : Sem Value := Instr.buildSlice 57 2 ps
theorem browTwo (ps : Array (Nat × Value)) : Instr.buildSlice 57 2 ps = bldTwo ps := rfl
theorem bslice2 (s t : ScT) (w : World) : (bldTwo #[(0, .agg (scC s)), (1, .agg (scC t))]).run Tryz.prog w = .ok (.slice (some ⟨w.heap.size, 0, none⟩) 2 2) (w.alloc (.cells (scC s ++ scC t) 26)) := by kernel_rfl
attribute [local go_sem] bslice2
attribute [local go_sem ↓] browTwo
set_option maxHeartbeats 8000000 in
set_option maxRecDepth 100000 in
theorem scriptsLaw (a b : ScT) (ps qs : List (BitVec 64)) (w : World) (RA : InSc w a ps) (RB : InSc w b qs) (T : TakesAt w) :
    Calls Tryz.prog 3 #[.agg (scC a), .agg (scC b)] w fun e w' => e = .returned (.bool true) ∧ Ch [] w w' := by
  obtain ⟨W, hW, C, hB, hD⟩ := same_world a b w
  have W1 := wakes29_any W (T.ch C)
  have HRA := Lib.hid RA
  have HRB := Lib.hid RB
  have HT := Lib.hid T
  clear RA RB T
  obtain ⟨B, hBe⟩ : ∃ B, w.heap.size = B := ⟨_, rfl⟩
  rw [hBe] at hB hD
  have hszW : B + 2 ≤ W.heap.size := by have := (Array.getElem?_eq_some_iff.1 hD).1; omega
  have HBE := Lib.hid hBe
  go_enter Tryz.func3, Tryz.ntmps3
  go_upto_region 1 with (fail)
  try rw [hW]
  try rw [hBe]
  clear hW hBe
  go_wp2_with fail
  refine W1.mono ?_
  rintro e w0 ⟨rfl, hc0⟩
  have hB0 := bkeep hc0 hB
  have hD0 := bkeep hc0 hD
  have C0 := C.trans hc0
  have hsz : B + 2 ≤ w0.heap.size := Nat.le_trans hszW hc0.size
  clear W1 hc0 hB C hD hszW
  go_upto_region 3 with (fail)
  go_cut [5, 6] from 18 (fun s5 s6 wc => ∃ (T5 T6 : Nat) (s1 s2 : ScT), s5 = .pointer (some ⟨T5, 0, none⟩) ∧ s6 = .pointer (some ⟨T6, 0, none⟩) ∧ Fin2 w a b ps qs B T5 T6 s1 s2 wc)
  case first =>
    have OA := fun (w2 : World) (h : Ch [] w w2) => own_any a ps w2 (HRA.out.ch h)
    have OB := fun (w2 : World) (h : Ch [] w w2) => own_any b qs w2 (HRB.out.ch h)
    have s0 : (fun W' : World => W'.heap[B]? = some (.cells (scC a) 26 (0, 0)) ∧ W'.heap[B + 1]? = some (.cells (scC b) 26 (0, 0)) ∧ Ch [] w W') w0.drew := ⟨hB0, hD0, C0.drew⟩
    refine wp_region_held_drew (S := fun W' : World => W'.heap[B]? = some (.cells (scC a) 26 (0, 0)) ∧ W'.heap[B + 1]? = some (.cells (scC b) 26 (0, 0)) ∧ Ch [] w W') (by kernel_rfl) s0 ?_
    intro _
    simp only [List.size_toArray, List.length_cons, List.length_nil, Nat.reduceAdd]
    have z0 : B + 2 ≤ w0.drew.heap.size := hsz
    clear C0 hB0 hD0 hsz
    generalize w0.drew = v0 at *
    refine wpAnyH_take (i := 0) (oi := ⟨some 18, _, _, _, _, none⟩) (v := ?_) rfl (by kernel_rfl) (by kernel_rfl) (by kernel_rfl) (fun _ _ _ h => h) (Or.inl ⟨by rfl, ?_⟩) s0 ?_
    rotate_left
    · intro wq hSq
      obtain ⟨z1, z2, z3⟩ := hSq
      first | (go_simp; done) | (go_simp; with_reducible rfl)
    try simp only [Act.put, List.setIfInBounds_toArray, List.set_cons_zero, List.set_cons_succ]
    refine wpAnyH_take (i := 2) (oi := ⟨some 20, _, _, _, _, none⟩) (v := ?_) rfl (by kernel_rfl) (by kernel_rfl) (by kernel_rfl) (fun _ _ _ h => h) (Or.inl ⟨by rfl, ?_⟩) s0 ?_
    rotate_left
    · intro wq hSq
      obtain ⟨z1, z2, z3⟩ := hSq
      first | (go_simp; done) | (go_simp; with_reducible rfl)
    try simp only [Act.put, List.setIfInBounds_toArray, List.set_cons_zero, List.set_cons_succ]
    refine wpAnyH_ready (rs := [1, 4, 5]) (by kernel_rfl) (by simp) ?_
    refine AllReadyH.cons (o := ⟨some 19, _, _, _, _, none⟩) rfl (fun K hK => ?_) (AllReadyH.cons (o := ⟨some 5, _, _, _, _, none⟩) rfl (fun K hK => ?_) (AllReadyH.cons (o := ⟨some 6, _, _, _, _, none⟩) rfl (fun K hK => ?_) AllReadyH.nil))
    · go_simp
      refine (OA _ s0.2.2).mono ?_
      rintro e v1 ⟨s1, rfl, o1_1, hc⟩
      have s1 : (fun W' : World => W'.heap[B]? = some (.cells (scC a) 26 (0, 0)) ∧ W'.heap[B + 1]? = some (.cells (scC b) 26 (0, 0)) ∧ Ch [] w W') v1 := ⟨bkeep hc s0.1, bkeep hc s0.2.1, s0.2.2.trans hc⟩
      have z1 : B + 2 ≤ v1.heap.size := Nat.le_trans z0 hc.size
      refine hK.out _ _ s1 (fun _ => ?_)
      clear hK K hc s0 
      try simp only [Act.put, List.setIfInBounds_toArray, List.set_cons_zero, List.set_cons_succ]
      refine wpAnyH_ready (rs := [3, 4, 5]) (by kernel_rfl) (by simp) ?_
      refine AllReadyH.cons (o := ⟨some 21, _, _, _, _, none⟩) rfl (fun K hK => ?_) (AllReadyH.cons (o := ⟨some 5, _, _, _, _, none⟩) rfl (fun K hK => ?_) (AllReadyH.cons (o := ⟨some 6, _, _, _, _, none⟩) rfl (fun K hK => ?_) AllReadyH.nil))
      · go_simp
        refine (OB _ s1.2.2).mono ?_
        rintro e v2 ⟨s2, rfl, o2_2, hc⟩
        have s2 : (fun W' : World => W'.heap[B]? = some (.cells (scC a) 26 (0, 0)) ∧ W'.heap[B + 1]? = some (.cells (scC b) 26 (0, 0)) ∧ Ch [] w W') v2 := ⟨bkeep hc s1.1, bkeep hc s1.2.1, s1.2.2.trans hc⟩
        have z2 : B + 2 ≤ v2.heap.size := Nat.le_trans z1 hc.size
        have o1_2 := o1_1.ch hc
        refine hK.out _ _ s2 (fun _ => ?_)
        clear hK K hc s1 o1_1
        try simp only [Act.put, List.setIfInBounds_toArray, List.set_cons_zero, List.set_cons_succ]
        refine wpAnyH_ready (rs := [4, 5]) (by kernel_rfl) (by simp) ?_
        refine AllReadyH.cons (o := ⟨some 5, _, _, _, _, none⟩) rfl (fun K hK => ?_) (AllReadyH.cons (o := ⟨some 6, _, _, _, _, none⟩) rfl (fun K hK => ?_) AllReadyH.nil)
        · go_simp
          have c3 : Ch [] v2 (v2.alloc (.cells (scC zeroSc) 26)) := (Ch.refl _ _).alloc _
          have s3 : (fun W' : World => W'.heap[B]? = some (.cells (scC a) 26 (0, 0)) ∧ W'.heap[B + 1]? = some (.cells (scC b) 26 (0, 0)) ∧ Ch [] w W') (v2.alloc (.cells (scC zeroSc) 26)) := ⟨bkeep c3 s2.1, bkeep c3 s2.2.1, s2.2.2.trans c3⟩
          have t5_3 : (v2.alloc (.cells (scC zeroSc) 26)).heap[v2.heap.size]? = some (.cells (scC zeroSc) 26 (0, 0)) := by rw [heap_alloc, if_pos rfl]
          have z3 : B + 2 ≤ (v2.alloc (.cells (scC zeroSc) 26)).heap.size := Nat.le_trans z2 c3.size
          have o1_3 := o1_2.ch c3
          have o2_3 := o2_2.ch c3
          refine hK.out _ _ s3 (fun _ => ?_)
          clear hK K c3 s2 o1_2 o2_2
          try simp only [Act.put, List.setIfInBounds_toArray, List.set_cons_zero, List.set_cons_succ]
          obtain ⟨v3, hv3⟩ : ∃ y, v2.alloc (.cells (scC zeroSc) 26) = y := ⟨_, rfl⟩
          rw [hv3] at s3 t5_3 z3 o1_3 o2_3 ⊢
          obtain ⟨T5, hT5⟩ : ∃ y, v2.heap.size = y := ⟨_, rfl⟩
          rw [hT5] at t5_3 z2  ⊢
          have l5 : B + 2 ≤ T5 := z2
          clear hv3 hT5
          refine wpAnyH_ready (rs := [5]) (by kernel_rfl) (by simp) ?_
          refine AllReadyH.cons (o := ⟨some 6, _, _, _, _, none⟩) rfl (fun K hK => ?_) AllReadyH.nil
          go_simp
          have c4 : Ch [] v3 (v3.alloc (.cells (scC zeroSc) 26)) := (Ch.refl _ _).alloc _
          have s4 : (fun W' : World => W'.heap[B]? = some (.cells (scC a) 26 (0, 0)) ∧ W'.heap[B + 1]? = some (.cells (scC b) 26 (0, 0)) ∧ Ch [] w W') (v3.alloc (.cells (scC zeroSc) 26)) := ⟨bkeep c4 s3.1, bkeep c4 s3.2.1, s3.2.2.trans c4⟩
          have t6_4 : (v3.alloc (.cells (scC zeroSc) 26)).heap[v3.heap.size]? = some (.cells (scC zeroSc) 26 (0, 0)) := by rw [heap_alloc, if_pos rfl]
          have z4 : B + 2 ≤ (v3.alloc (.cells (scC zeroSc) 26)).heap.size := Nat.le_trans z3 c4.size
          have o1_4 := o1_3.ch c4
          have o2_4 := o2_3.ch c4
          have t5_4 := bkeep c4 t5_3
          have hlt : T5 < v3.heap.size := (Array.getElem?_eq_some_iff.1 t5_3).1
          refine hK.out _ _ s4 (fun _ => ?_)
          clear hK K c4 s3 o1_3 o2_3 t5_3
          try simp only [Act.put, List.setIfInBounds_toArray, List.set_cons_zero, List.set_cons_succ]
          obtain ⟨v4, hv4⟩ : ∃ y, v3.alloc (.cells (scC zeroSc) 26) = y := ⟨_, rfl⟩
          rw [hv4] at s4 t6_4 z4 o1_4 o2_4 t5_4 ⊢
          obtain ⟨T6, hT6⟩ : ∃ y, v3.heap.size = y := ⟨_, rfl⟩
          rw [hT6] at t6_4 z3 hlt ⊢
          have l6 : B + 2 ≤ T6 := z3
          clear hv4 hT6
          have M : Mid w a b ps qs B T5 T6 s1 s2 v4 := ⟨l5, l6, by omega, s4.1, s4.2.1, s4.2.2, t5_4, t6_4, o1_4, o2_4⟩
          have E := Lib.hid (M.fin HBE.out)
          clear M o1_4 o2_4 t6_4
          refine wpAnyH_ready (rs := [6]) (by kernel_rfl) (by simp) ?_
          refine AllReadyH.cons rfl (fun K hK => ?_) AllReadyH.nil
          go_simp
          refine hK.out _ _ E.out.1 (fun _ => ?_)
          clear hK K s4 t5_4
          try simp only [Act.put, List.setIfInBounds_toArray, List.set_cons_zero, List.set_cons_succ]
          have y6 := E.out.2.1
          obtain ⟨y, hy⟩ : ∃ x, World.onObj v4 T5 (laidAt 0 (scC s1)) = x := ⟨_, rfl⟩
          rw [hy] at E y6 ⊢
          clear hy
          refine wpAnyH_ready (rs := [7]) (by kernel_rfl) (by simp) ?_
          refine AllReadyH.cons rfl (fun K hK => ?_) AllReadyH.nil
          go_simp
          refine hK.out _ _ ⟨E.out.2.2.hB, E.out.2.2.hD, E.out.2.2.c⟩ (fun _ => ?_)
          clear hK K y6
          refine wpAnyH_done (by kernel_rfl) ?_ _
          go_wp2_with fail
          go_meet
          case rel => exact ⟨T5, T6, s1, s2, rfl, rfl, E.out.2.2⟩
        · go_simp
          have c5 : Ch [] v2 (v2.alloc (.cells (scC zeroSc) 26)) := (Ch.refl _ _).alloc _
          have s5 : (fun W' : World => W'.heap[B]? = some (.cells (scC a) 26 (0, 0)) ∧ W'.heap[B + 1]? = some (.cells (scC b) 26 (0, 0)) ∧ Ch [] w W') (v2.alloc (.cells (scC zeroSc) 26)) := ⟨bkeep c5 s2.1, bkeep c5 s2.2.1, s2.2.2.trans c5⟩
          have t6_5 : (v2.alloc (.cells (scC zeroSc) 26)).heap[v2.heap.size]? = some (.cells (scC zeroSc) 26 (0, 0)) := by rw [heap_alloc, if_pos rfl]
          have z5 : B + 2 ≤ (v2.alloc (.cells (scC zeroSc) 26)).heap.size := Nat.le_trans z2 c5.size
          have o1_5 := o1_2.ch c5
          have o2_5 := o2_2.ch c5
          refine hK.out _ _ s5 (fun _ => ?_)
          clear hK K c5 s2 o1_2 o2_2
          try simp only [Act.put, List.setIfInBounds_toArray, List.set_cons_zero, List.set_cons_succ]
          obtain ⟨v5, hv5⟩ : ∃ y, v2.alloc (.cells (scC zeroSc) 26) = y := ⟨_, rfl⟩
          rw [hv5] at s5 t6_5 z5 o1_5 o2_5 ⊢
          obtain ⟨T6, hT6⟩ : ∃ y, v2.heap.size = y := ⟨_, rfl⟩
          rw [hT6] at t6_5 z2  ⊢
          have l6 : B + 2 ≤ T6 := z2
          clear hv5 hT6
          refine wpAnyH_ready (rs := [4]) (by kernel_rfl) (by simp) ?_
          refine AllReadyH.cons (o := ⟨some 5, _, _, _, _, none⟩) rfl (fun K hK => ?_) AllReadyH.nil
          go_simp
          have c6 : Ch [] v5 (v5.alloc (.cells (scC zeroSc) 26)) := (Ch.refl _ _).alloc _
          have s6 : (fun W' : World => W'.heap[B]? = some (.cells (scC a) 26 (0, 0)) ∧ W'.heap[B + 1]? = some (.cells (scC b) 26 (0, 0)) ∧ Ch [] w W') (v5.alloc (.cells (scC zeroSc) 26)) := ⟨bkeep c6 s5.1, bkeep c6 s5.2.1, s5.2.2.trans c6⟩
          have t5_6 : (v5.alloc (.cells (scC zeroSc) 26)).heap[v5.heap.size]? = some (.cells (scC zeroSc) 26 (0, 0)) := by rw [heap_alloc, if_pos rfl]
          have z6 : B + 2 ≤ (v5.alloc (.cells (scC zeroSc) 26)).heap.size := Nat.le_trans z5 c6.size
          have o1_6 := o1_5.ch c6
          have o2_6 := o2_5.ch c6
          have t6_6 := bkeep c6 t6_5
          have hlt : T6 < v5.heap.size := (Array.getElem?_eq_some_iff.1 t6_5).1
          refine hK.out _ _ s6 (fun _ => ?_)
          clear hK K c6 s5 o1_5 o2_5 t6_5
          try simp only [Act.put, List.setIfInBounds_toArray, List.set_cons_zero, List.set_cons_succ]
          obtain ⟨v6, hv6⟩ : ∃ y, v5.alloc (.cells (scC zeroSc) 26) = y := ⟨_, rfl⟩
          rw [hv6] at s6 t5_6 z6 o1_6 o2_6 t6_6 ⊢
          obtain ⟨T5, hT5⟩ : ∃ y, v5.heap.size = y := ⟨_, rfl⟩
          rw [hT5] at t5_6 z5 hlt ⊢
          have l5 : B + 2 ≤ T5 := z5
          clear hv6 hT5
          have M : Mid w a b ps qs B T5 T6 s1 s2 v6 := ⟨l5, l6, by omega, s6.1, s6.2.1, s6.2.2, t5_6, t6_6, o1_6, o2_6⟩
          have E := Lib.hid (M.fin HBE.out)
          clear M o1_6 o2_6 t6_6
          refine wpAnyH_ready (rs := [6]) (by kernel_rfl) (by simp) ?_
          refine AllReadyH.cons rfl (fun K hK => ?_) AllReadyH.nil
          go_simp
          refine hK.out _ _ E.out.1 (fun _ => ?_)
          clear hK K s6 t5_6
          try simp only [Act.put, List.setIfInBounds_toArray, List.set_cons_zero, List.set_cons_succ]
          have y6 := E.out.2.1
          obtain ⟨y, hy⟩ : ∃ x, World.onObj v6 T5 (laidAt 0 (scC s1)) = x := ⟨_, rfl⟩
          rw [hy] at E y6 ⊢
          clear hy
          refine wpAnyH_ready (rs := [7]) (by kernel_rfl) (by simp) ?_
          refine AllReadyH.cons rfl (fun K hK => ?_) AllReadyH.nil
          go_simp
          refine hK.out _ _ ⟨E.out.2.2.hB, E.out.2.2.hD, E.out.2.2.c⟩ (fun _ => ?_)
          clear hK K y6
          refine wpAnyH_done (by kernel_rfl) ?_ _
          go_wp2_with fail
          go_meet
          case rel => exact ⟨T5, T6, s1, s2, rfl, rfl, E.out.2.2⟩
      · go_simp
        have c7 : Ch [] v1 (v1.alloc (.cells (scC zeroSc) 26)) := (Ch.refl _ _).alloc _
        have s7 : (fun W' : World => W'.heap[B]? = some (.cells (scC a) 26 (0, 0)) ∧ W'.heap[B + 1]? = some (.cells (scC b) 26 (0, 0)) ∧ Ch [] w W') (v1.alloc (.cells (scC zeroSc) 26)) := ⟨bkeep c7 s1.1, bkeep c7 s1.2.1, s1.2.2.trans c7⟩
        have t5_7 : (v1.alloc (.cells (scC zeroSc) 26)).heap[v1.heap.size]? = some (.cells (scC zeroSc) 26 (0, 0)) := by rw [heap_alloc, if_pos rfl]
        have z7 : B + 2 ≤ (v1.alloc (.cells (scC zeroSc) 26)).heap.size := Nat.le_trans z1 c7.size
        have o1_7 := o1_1.ch c7
        refine hK.out _ _ s7 (fun _ => ?_)
        clear hK K c7 s1 o1_1
        try simp only [Act.put, List.setIfInBounds_toArray, List.set_cons_zero, List.set_cons_succ]
        obtain ⟨v7, hv7⟩ : ∃ y, v1.alloc (.cells (scC zeroSc) 26) = y := ⟨_, rfl⟩
        rw [hv7] at s7 t5_7 z7 o1_7 ⊢
        obtain ⟨T5, hT5⟩ : ∃ y, v1.heap.size = y := ⟨_, rfl⟩
        rw [hT5] at t5_7 z1  ⊢
        have l5 : B + 2 ≤ T5 := z1
        clear hv7 hT5
        refine wpAnyH_ready (rs := [3, 5]) (by kernel_rfl) (by simp) ?_
        refine AllReadyH.cons (o := ⟨some 21, _, _, _, _, none⟩) rfl (fun K hK => ?_) (AllReadyH.cons (o := ⟨some 6, _, _, _, _, none⟩) rfl (fun K hK => ?_) AllReadyH.nil)
        · go_simp
          refine (OB _ s7.2.2).mono ?_
          rintro e v8 ⟨s2, rfl, o2_8, hc⟩
          have s8 : (fun W' : World => W'.heap[B]? = some (.cells (scC a) 26 (0, 0)) ∧ W'.heap[B + 1]? = some (.cells (scC b) 26 (0, 0)) ∧ Ch [] w W') v8 := ⟨bkeep hc s7.1, bkeep hc s7.2.1, s7.2.2.trans hc⟩
          have z8 : B + 2 ≤ v8.heap.size := Nat.le_trans z7 hc.size
          have o1_8 := o1_7.ch hc
          have t5_8 := bkeep hc t5_7
          refine hK.out _ _ s8 (fun _ => ?_)
          clear hK K hc s7 o1_7 t5_7
          try simp only [Act.put, List.setIfInBounds_toArray, List.set_cons_zero, List.set_cons_succ]
          refine wpAnyH_ready (rs := [5]) (by kernel_rfl) (by simp) ?_
          refine AllReadyH.cons (o := ⟨some 6, _, _, _, _, none⟩) rfl (fun K hK => ?_) AllReadyH.nil
          go_simp
          have c9 : Ch [] v8 (v8.alloc (.cells (scC zeroSc) 26)) := (Ch.refl _ _).alloc _
          have s9 : (fun W' : World => W'.heap[B]? = some (.cells (scC a) 26 (0, 0)) ∧ W'.heap[B + 1]? = some (.cells (scC b) 26 (0, 0)) ∧ Ch [] w W') (v8.alloc (.cells (scC zeroSc) 26)) := ⟨bkeep c9 s8.1, bkeep c9 s8.2.1, s8.2.2.trans c9⟩
          have t6_9 : (v8.alloc (.cells (scC zeroSc) 26)).heap[v8.heap.size]? = some (.cells (scC zeroSc) 26 (0, 0)) := by rw [heap_alloc, if_pos rfl]
          have z9 : B + 2 ≤ (v8.alloc (.cells (scC zeroSc) 26)).heap.size := Nat.le_trans z8 c9.size
          have o1_9 := o1_8.ch c9
          have t5_9 := bkeep c9 t5_8
          have o2_9 := o2_8.ch c9
          have hlt : T5 < v8.heap.size := (Array.getElem?_eq_some_iff.1 t5_8).1
          refine hK.out _ _ s9 (fun _ => ?_)
          clear hK K c9 s8 o1_8 t5_8 o2_8
          try simp only [Act.put, List.setIfInBounds_toArray, List.set_cons_zero, List.set_cons_succ]
          obtain ⟨v9, hv9⟩ : ∃ y, v8.alloc (.cells (scC zeroSc) 26) = y := ⟨_, rfl⟩
          rw [hv9] at s9 t6_9 z9 o1_9 t5_9 o2_9 ⊢
          obtain ⟨T6, hT6⟩ : ∃ y, v8.heap.size = y := ⟨_, rfl⟩
          rw [hT6] at t6_9 z8 hlt ⊢
          have l6 : B + 2 ≤ T6 := z8
          clear hv9 hT6
          have M : Mid w a b ps qs B T5 T6 s1 s2 v9 := ⟨l5, l6, by omega, s9.1, s9.2.1, s9.2.2, t5_9, t6_9, o1_9, o2_9⟩
          have E := Lib.hid (M.fin HBE.out)
          clear M o1_9 o2_9 t6_9
          refine wpAnyH_ready (rs := [6]) (by kernel_rfl) (by simp) ?_
          refine AllReadyH.cons rfl (fun K hK => ?_) AllReadyH.nil
          go_simp
          refine hK.out _ _ E.out.1 (fun _ => ?_)
          clear hK K s9 t5_9
          try simp only [Act.put, List.setIfInBounds_toArray, List.set_cons_zero, List.set_cons_succ]
          have y6 := E.out.2.1
          obtain ⟨y, hy⟩ : ∃ x, World.onObj v9 T5 (laidAt 0 (scC s1)) = x := ⟨_, rfl⟩
          rw [hy] at E y6 ⊢
          clear hy
          refine wpAnyH_ready (rs := [7]) (by kernel_rfl) (by simp) ?_
          refine AllReadyH.cons rfl (fun K hK => ?_) AllReadyH.nil
          go_simp
          refine hK.out _ _ ⟨E.out.2.2.hB, E.out.2.2.hD, E.out.2.2.c⟩ (fun _ => ?_)
          clear hK K y6
          refine wpAnyH_done (by kernel_rfl) ?_ _
          go_wp2_with fail
          go_meet
          case rel => exact ⟨T5, T6, s1, s2, rfl, rfl, E.out.2.2⟩
        · go_simp
          have c10 : Ch [] v7 (v7.alloc (.cells (scC zeroSc) 26)) := (Ch.refl _ _).alloc _
          have s10 : (fun W' : World => W'.heap[B]? = some (.cells (scC a) 26 (0, 0)) ∧ W'.heap[B + 1]? = some (.cells (scC b) 26 (0, 0)) ∧ Ch [] w W') (v7.alloc (.cells (scC zeroSc) 26)) := ⟨bkeep c10 s7.1, bkeep c10 s7.2.1, s7.2.2.trans c10⟩
          have t6_10 : (v7.alloc (.cells (scC zeroSc) 26)).heap[v7.heap.size]? = some (.cells (scC zeroSc) 26 (0, 0)) := by rw [heap_alloc, if_pos rfl]
          have z10 : B + 2 ≤ (v7.alloc (.cells (scC zeroSc) 26)).heap.size := Nat.le_trans z7 c10.size
          have o1_10 := o1_7.ch c10
          have t5_10 := bkeep c10 t5_7
          have hlt : T5 < v7.heap.size := (Array.getElem?_eq_some_iff.1 t5_7).1
          refine hK.out _ _ s10 (fun _ => ?_)
          clear hK K c10 s7 o1_7 t5_7
          try simp only [Act.put, List.setIfInBounds_toArray, List.set_cons_zero, List.set_cons_succ]
          obtain ⟨v10, hv10⟩ : ∃ y, v7.alloc (.cells (scC zeroSc) 26) = y := ⟨_, rfl⟩
          rw [hv10] at s10 t6_10 z10 o1_10 t5_10 ⊢
          obtain ⟨T6, hT6⟩ : ∃ y, v7.heap.size = y := ⟨_, rfl⟩
          rw [hT6] at t6_10 z7 hlt ⊢
          have l6 : B + 2 ≤ T6 := z7
          clear hv10 hT6
          refine wpAnyH_ready (rs := [3]) (by kernel_rfl) (by simp) ?_
          refine AllReadyH.cons (o := ⟨some 21, _, _, _, _, none⟩) rfl (fun K hK => ?_) AllReadyH.nil
          go_simp
          refine (OB _ s10.2.2).mono ?_
          rintro e v11 ⟨s2, rfl, o2_11, hc⟩
          have s11 : (fun W' : World => W'.heap[B]? = some (.cells (scC a) 26 (0, 0)) ∧ W'.heap[B + 1]? = some (.cells (scC b) 26 (0, 0)) ∧ Ch [] w W') v11 := ⟨bkeep hc s10.1, bkeep hc s10.2.1, s10.2.2.trans hc⟩
          have z11 : B + 2 ≤ v11.heap.size := Nat.le_trans z10 hc.size
          have o1_11 := o1_10.ch hc
          have t5_11 := bkeep hc t5_10
          have t6_11 := bkeep hc t6_10
          refine hK.out _ _ s11 (fun _ => ?_)
          clear hK K hc s10 o1_10 t5_10 t6_10
          try simp only [Act.put, List.setIfInBounds_toArray, List.set_cons_zero, List.set_cons_succ]
          have M : Mid w a b ps qs B T5 T6 s1 s2 v11 := ⟨l5, l6, by omega, s11.1, s11.2.1, s11.2.2, t5_11, t6_11, o1_11, o2_11⟩
          have E := Lib.hid (M.fin HBE.out)
          clear M o1_11 o2_11 t6_11
          refine wpAnyH_ready (rs := [6]) (by kernel_rfl) (by simp) ?_
          refine AllReadyH.cons rfl (fun K hK => ?_) AllReadyH.nil
          go_simp
          refine hK.out _ _ E.out.1 (fun _ => ?_)
          clear hK K s11 t5_11
          try simp only [Act.put, List.setIfInBounds_toArray, List.set_cons_zero, List.set_cons_succ]
          have y6 := E.out.2.1
          obtain ⟨y, hy⟩ : ∃ x, World.onObj v11 T5 (laidAt 0 (scC s1)) = x := ⟨_, rfl⟩
          rw [hy] at E y6 ⊢
          clear hy
          refine wpAnyH_ready (rs := [7]) (by kernel_rfl) (by simp) ?_
          refine AllReadyH.cons rfl (fun K hK => ?_) AllReadyH.nil
          go_simp
          refine hK.out _ _ ⟨E.out.2.2.hB, E.out.2.2.hD, E.out.2.2.c⟩ (fun _ => ?_)
          clear hK K y6
          refine wpAnyH_done (by kernel_rfl) ?_ _
          go_wp2_with fail
          go_meet
          case rel => exact ⟨T5, T6, s1, s2, rfl, rfl, E.out.2.2⟩
      · go_simp
        have c12 : Ch [] v1 (v1.alloc (.cells (scC zeroSc) 26)) := (Ch.refl _ _).alloc _
        have s12 : (fun W' : World => W'.heap[B]? = some (.cells (scC a) 26 (0, 0)) ∧ W'.heap[B + 1]? = some (.cells (scC b) 26 (0, 0)) ∧ Ch [] w W') (v1.alloc (.cells (scC zeroSc) 26)) := ⟨bkeep c12 s1.1, bkeep c12 s1.2.1, s1.2.2.trans c12⟩
        have t6_12 : (v1.alloc (.cells (scC zeroSc) 26)).heap[v1.heap.size]? = some (.cells (scC zeroSc) 26 (0, 0)) := by rw [heap_alloc, if_pos rfl]
        have z12 : B + 2 ≤ (v1.alloc (.cells (scC zeroSc) 26)).heap.size := Nat.le_trans z1 c12.size
        have o1_12 := o1_1.ch c12
        refine hK.out _ _ s12 (fun _ => ?_)
        clear hK K c12 s1 o1_1
        try simp only [Act.put, List.setIfInBounds_toArray, List.set_cons_zero, List.set_cons_succ]
        obtain ⟨v12, hv12⟩ : ∃ y, v1.alloc (.cells (scC zeroSc) 26) = y := ⟨_, rfl⟩
        rw [hv12] at s12 t6_12 z12 o1_12 ⊢
        obtain ⟨T6, hT6⟩ : ∃ y, v1.heap.size = y := ⟨_, rfl⟩
        rw [hT6] at t6_12 z1  ⊢
        have l6 : B + 2 ≤ T6 := z1
        clear hv12 hT6
        refine wpAnyH_ready (rs := [3, 4]) (by kernel_rfl) (by simp) ?_
        refine AllReadyH.cons (o := ⟨some 21, _, _, _, _, none⟩) rfl (fun K hK => ?_) (AllReadyH.cons (o := ⟨some 5, _, _, _, _, none⟩) rfl (fun K hK => ?_) AllReadyH.nil)
        · go_simp
          refine (OB _ s12.2.2).mono ?_
          rintro e v13 ⟨s2, rfl, o2_13, hc⟩
          have s13 : (fun W' : World => W'.heap[B]? = some (.cells (scC a) 26 (0, 0)) ∧ W'.heap[B + 1]? = some (.cells (scC b) 26 (0, 0)) ∧ Ch [] w W') v13 := ⟨bkeep hc s12.1, bkeep hc s12.2.1, s12.2.2.trans hc⟩
          have z13 : B + 2 ≤ v13.heap.size := Nat.le_trans z12 hc.size
          have o1_13 := o1_12.ch hc
          have t6_13 := bkeep hc t6_12
          refine hK.out _ _ s13 (fun _ => ?_)
          clear hK K hc s12 o1_12 t6_12
          try simp only [Act.put, List.setIfInBounds_toArray, List.set_cons_zero, List.set_cons_succ]
          refine wpAnyH_ready (rs := [4]) (by kernel_rfl) (by simp) ?_
          refine AllReadyH.cons (o := ⟨some 5, _, _, _, _, none⟩) rfl (fun K hK => ?_) AllReadyH.nil
          go_simp
          have c14 : Ch [] v13 (v13.alloc (.cells (scC zeroSc) 26)) := (Ch.refl _ _).alloc _
          have s14 : (fun W' : World => W'.heap[B]? = some (.cells (scC a) 26 (0, 0)) ∧ W'.heap[B + 1]? = some (.cells (scC b) 26 (0, 0)) ∧ Ch [] w W') (v13.alloc (.cells (scC zeroSc) 26)) := ⟨bkeep c14 s13.1, bkeep c14 s13.2.1, s13.2.2.trans c14⟩
          have t5_14 : (v13.alloc (.cells (scC zeroSc) 26)).heap[v13.heap.size]? = some (.cells (scC zeroSc) 26 (0, 0)) := by rw [heap_alloc, if_pos rfl]
          have z14 : B + 2 ≤ (v13.alloc (.cells (scC zeroSc) 26)).heap.size := Nat.le_trans z13 c14.size
          have o1_14 := o1_13.ch c14
          have t6_14 := bkeep c14 t6_13
          have o2_14 := o2_13.ch c14
          have hlt : T6 < v13.heap.size := (Array.getElem?_eq_some_iff.1 t6_13).1
          refine hK.out _ _ s14 (fun _ => ?_)
          clear hK K c14 s13 o1_13 t6_13 o2_13
          try simp only [Act.put, List.setIfInBounds_toArray, List.set_cons_zero, List.set_cons_succ]
          obtain ⟨v14, hv14⟩ : ∃ y, v13.alloc (.cells (scC zeroSc) 26) = y := ⟨_, rfl⟩
          rw [hv14] at s14 t5_14 z14 o1_14 t6_14 o2_14 ⊢
          obtain ⟨T5, hT5⟩ : ∃ y, v13.heap.size = y := ⟨_, rfl⟩
          rw [hT5] at t5_14 z13 hlt ⊢
          have l5 : B + 2 ≤ T5 := z13
          clear hv14 hT5
          have M : Mid w a b ps qs B T5 T6 s1 s2 v14 := ⟨l5, l6, by omega, s14.1, s14.2.1, s14.2.2, t5_14, t6_14, o1_14, o2_14⟩
          have E := Lib.hid (M.fin HBE.out)
          clear M o1_14 o2_14 t6_14
          refine wpAnyH_ready (rs := [6]) (by kernel_rfl) (by simp) ?_
          refine AllReadyH.cons rfl (fun K hK => ?_) AllReadyH.nil
          go_simp
          refine hK.out _ _ E.out.1 (fun _ => ?_)
          clear hK K s14 t5_14
          try simp only [Act.put, List.setIfInBounds_toArray, List.set_cons_zero, List.set_cons_succ]
          have y6 := E.out.2.1
          obtain ⟨y, hy⟩ : ∃ x, World.onObj v14 T5 (laidAt 0 (scC s1)) = x := ⟨_, rfl⟩
          rw [hy] at E y6 ⊢
          clear hy
          refine wpAnyH_ready (rs := [7]) (by kernel_rfl) (by simp) ?_
          refine AllReadyH.cons rfl (fun K hK => ?_) AllReadyH.nil
          go_simp
          refine hK.out _ _ ⟨E.out.2.2.hB, E.out.2.2.hD, E.out.2.2.c⟩ (fun _ => ?_)
          clear hK K y6
          refine wpAnyH_done (by kernel_rfl) ?_ _
          go_wp2_with fail
          go_meet
          case rel => exact ⟨T5, T6, s1, s2, rfl, rfl, E.out.2.2⟩
        · go_simp
          have c15 : Ch [] v12 (v12.alloc (.cells (scC zeroSc) 26)) := (Ch.refl _ _).alloc _
          have s15 : (fun W' : World => W'.heap[B]? = some (.cells (scC a) 26 (0, 0)) ∧ W'.heap[B + 1]? = some (.cells (scC b) 26 (0, 0)) ∧ Ch [] w W') (v12.alloc (.cells (scC zeroSc) 26)) := ⟨bkeep c15 s12.1, bkeep c15 s12.2.1, s12.2.2.trans c15⟩
          have t5_15 : (v12.alloc (.cells (scC zeroSc) 26)).heap[v12.heap.size]? = some (.cells (scC zeroSc) 26 (0, 0)) := by rw [heap_alloc, if_pos rfl]
          have z15 : B + 2 ≤ (v12.alloc (.cells (scC zeroSc) 26)).heap.size := Nat.le_trans z12 c15.size
          have o1_15 := o1_12.ch c15
          have t6_15 := bkeep c15 t6_12
          have hlt : T6 < v12.heap.size := (Array.getElem?_eq_some_iff.1 t6_12).1
          refine hK.out _ _ s15 (fun _ => ?_)
          clear hK K c15 s12 o1_12 t6_12
          try simp only [Act.put, List.setIfInBounds_toArray, List.set_cons_zero, List.set_cons_succ]
          obtain ⟨v15, hv15⟩ : ∃ y, v12.alloc (.cells (scC zeroSc) 26) = y := ⟨_, rfl⟩
          rw [hv15] at s15 t5_15 z15 o1_15 t6_15 ⊢
          obtain ⟨T5, hT5⟩ : ∃ y, v12.heap.size = y := ⟨_, rfl⟩
          rw [hT5] at t5_15 z12 hlt ⊢
          have l5 : B + 2 ≤ T5 := z12
          clear hv15 hT5
          refine wpAnyH_ready (rs := [3]) (by kernel_rfl) (by simp) ?_
          refine AllReadyH.cons (o := ⟨some 21, _, _, _, _, none⟩) rfl (fun K hK => ?_) AllReadyH.nil
          go_simp
          refine (OB _ s15.2.2).mono ?_
          rintro e v16 ⟨s2, rfl, o2_16, hc⟩
          have s16 : (fun W' : World => W'.heap[B]? = some (.cells (scC a) 26 (0, 0)) ∧ W'.heap[B + 1]? = some (.cells (scC b) 26 (0, 0)) ∧ Ch [] w W') v16 := ⟨bkeep hc s15.1, bkeep hc s15.2.1, s15.2.2.trans hc⟩
          have z16 : B + 2 ≤ v16.heap.size := Nat.le_trans z15 hc.size
          have o1_16 := o1_15.ch hc
          have t6_16 := bkeep hc t6_15
          have t5_16 := bkeep hc t5_15
          refine hK.out _ _ s16 (fun _ => ?_)
          clear hK K hc s15 o1_15 t6_15 t5_15
          try simp only [Act.put, List.setIfInBounds_toArray, List.set_cons_zero, List.set_cons_succ]
          have M : Mid w a b ps qs B T5 T6 s1 s2 v16 := ⟨l5, l6, by omega, s16.1, s16.2.1, s16.2.2, t5_16, t6_16, o1_16, o2_16⟩
          have E := Lib.hid (M.fin HBE.out)
          clear M o1_16 o2_16 t6_16
          refine wpAnyH_ready (rs := [6]) (by kernel_rfl) (by simp) ?_
          refine AllReadyH.cons rfl (fun K hK => ?_) AllReadyH.nil
          go_simp
          refine hK.out _ _ E.out.1 (fun _ => ?_)
          clear hK K s16 t5_16
          try simp only [Act.put, List.setIfInBounds_toArray, List.set_cons_zero, List.set_cons_succ]
          have y6 := E.out.2.1
          obtain ⟨y, hy⟩ : ∃ x, World.onObj v16 T5 (laidAt 0 (scC s1)) = x := ⟨_, rfl⟩
          rw [hy] at E y6 ⊢
          clear hy
          refine wpAnyH_ready (rs := [7]) (by kernel_rfl) (by simp) ?_
          refine AllReadyH.cons rfl (fun K hK => ?_) AllReadyH.nil
          go_simp
          refine hK.out _ _ ⟨E.out.2.2.hB, E.out.2.2.hD, E.out.2.2.c⟩ (fun _ => ?_)
          clear hK K y6
          refine wpAnyH_done (by kernel_rfl) ?_ _
          go_wp2_with fail
          go_meet
          case rel => exact ⟨T5, T6, s1, s2, rfl, rfl, E.out.2.2⟩
    · go_simp
      have c17 : Ch [] v0 (v0.alloc (.cells (scC zeroSc) 26)) := (Ch.refl _ _).alloc _
      have s17 : (fun W' : World => W'.heap[B]? = some (.cells (scC a) 26 (0, 0)) ∧ W'.heap[B + 1]? = some (.cells (scC b) 26 (0, 0)) ∧ Ch [] w W') (v0.alloc (.cells (scC zeroSc) 26)) := ⟨bkeep c17 s0.1, bkeep c17 s0.2.1, s0.2.2.trans c17⟩
      have t5_17 : (v0.alloc (.cells (scC zeroSc) 26)).heap[v0.heap.size]? = some (.cells (scC zeroSc) 26 (0, 0)) := by rw [heap_alloc, if_pos rfl]
      have z17 : B + 2 ≤ (v0.alloc (.cells (scC zeroSc) 26)).heap.size := Nat.le_trans z0 c17.size
      refine hK.out _ _ s17 (fun _ => ?_)
      clear hK K c17 s0 
      try simp only [Act.put, List.setIfInBounds_toArray, List.set_cons_zero, List.set_cons_succ]
      obtain ⟨v17, hv17⟩ : ∃ y, v0.alloc (.cells (scC zeroSc) 26) = y := ⟨_, rfl⟩
      rw [hv17] at s17 t5_17 z17  ⊢
      obtain ⟨T5, hT5⟩ : ∃ y, v0.heap.size = y := ⟨_, rfl⟩
      rw [hT5] at t5_17 z0  ⊢
      have l5 : B + 2 ≤ T5 := z0
      clear hv17 hT5
      refine wpAnyH_ready (rs := [1, 5]) (by kernel_rfl) (by simp) ?_
      refine AllReadyH.cons (o := ⟨some 19, _, _, _, _, none⟩) rfl (fun K hK => ?_) (AllReadyH.cons (o := ⟨some 6, _, _, _, _, none⟩) rfl (fun K hK => ?_) AllReadyH.nil)
      · go_simp
        refine (OA _ s17.2.2).mono ?_
        rintro e v18 ⟨s1, rfl, o1_18, hc⟩
        have s18 : (fun W' : World => W'.heap[B]? = some (.cells (scC a) 26 (0, 0)) ∧ W'.heap[B + 1]? = some (.cells (scC b) 26 (0, 0)) ∧ Ch [] w W') v18 := ⟨bkeep hc s17.1, bkeep hc s17.2.1, s17.2.2.trans hc⟩
        have z18 : B + 2 ≤ v18.heap.size := Nat.le_trans z17 hc.size
        have t5_18 := bkeep hc t5_17
        refine hK.out _ _ s18 (fun _ => ?_)
        clear hK K hc s17 t5_17
        try simp only [Act.put, List.setIfInBounds_toArray, List.set_cons_zero, List.set_cons_succ]
        refine wpAnyH_ready (rs := [3, 5]) (by kernel_rfl) (by simp) ?_
        refine AllReadyH.cons (o := ⟨some 21, _, _, _, _, none⟩) rfl (fun K hK => ?_) (AllReadyH.cons (o := ⟨some 6, _, _, _, _, none⟩) rfl (fun K hK => ?_) AllReadyH.nil)
        · go_simp
          refine (OB _ s18.2.2).mono ?_
          rintro e v19 ⟨s2, rfl, o2_19, hc⟩
          have s19 : (fun W' : World => W'.heap[B]? = some (.cells (scC a) 26 (0, 0)) ∧ W'.heap[B + 1]? = some (.cells (scC b) 26 (0, 0)) ∧ Ch [] w W') v19 := ⟨bkeep hc s18.1, bkeep hc s18.2.1, s18.2.2.trans hc⟩
          have z19 : B + 2 ≤ v19.heap.size := Nat.le_trans z18 hc.size
          have t5_19 := bkeep hc t5_18
          have o1_19 := o1_18.ch hc
          refine hK.out _ _ s19 (fun _ => ?_)
          clear hK K hc s18 t5_18 o1_18
          try simp only [Act.put, List.setIfInBounds_toArray, List.set_cons_zero, List.set_cons_succ]
          refine wpAnyH_ready (rs := [5]) (by kernel_rfl) (by simp) ?_
          refine AllReadyH.cons (o := ⟨some 6, _, _, _, _, none⟩) rfl (fun K hK => ?_) AllReadyH.nil
          go_simp
          have c20 : Ch [] v19 (v19.alloc (.cells (scC zeroSc) 26)) := (Ch.refl _ _).alloc _
          have s20 : (fun W' : World => W'.heap[B]? = some (.cells (scC a) 26 (0, 0)) ∧ W'.heap[B + 1]? = some (.cells (scC b) 26 (0, 0)) ∧ Ch [] w W') (v19.alloc (.cells (scC zeroSc) 26)) := ⟨bkeep c20 s19.1, bkeep c20 s19.2.1, s19.2.2.trans c20⟩
          have t6_20 : (v19.alloc (.cells (scC zeroSc) 26)).heap[v19.heap.size]? = some (.cells (scC zeroSc) 26 (0, 0)) := by rw [heap_alloc, if_pos rfl]
          have z20 : B + 2 ≤ (v19.alloc (.cells (scC zeroSc) 26)).heap.size := Nat.le_trans z19 c20.size
          have t5_20 := bkeep c20 t5_19
          have o1_20 := o1_19.ch c20
          have o2_20 := o2_19.ch c20
          have hlt : T5 < v19.heap.size := (Array.getElem?_eq_some_iff.1 t5_19).1
          refine hK.out _ _ s20 (fun _ => ?_)
          clear hK K c20 s19 t5_19 o1_19 o2_19
          try simp only [Act.put, List.setIfInBounds_toArray, List.set_cons_zero, List.set_cons_succ]
          obtain ⟨v20, hv20⟩ : ∃ y, v19.alloc (.cells (scC zeroSc) 26) = y := ⟨_, rfl⟩
          rw [hv20] at s20 t6_20 z20 t5_20 o1_20 o2_20 ⊢
          obtain ⟨T6, hT6⟩ : ∃ y, v19.heap.size = y := ⟨_, rfl⟩
          rw [hT6] at t6_20 z19 hlt ⊢
          have l6 : B + 2 ≤ T6 := z19
          clear hv20 hT6
          have M : Mid w a b ps qs B T5 T6 s1 s2 v20 := ⟨l5, l6, by omega, s20.1, s20.2.1, s20.2.2, t5_20, t6_20, o1_20, o2_20⟩
          have E := Lib.hid (M.fin HBE.out)
          clear M o1_20 o2_20 t6_20
          refine wpAnyH_ready (rs := [6]) (by kernel_rfl) (by simp) ?_
          refine AllReadyH.cons rfl (fun K hK => ?_) AllReadyH.nil
          go_simp
          refine hK.out _ _ E.out.1 (fun _ => ?_)
          clear hK K s20 t5_20
          try simp only [Act.put, List.setIfInBounds_toArray, List.set_cons_zero, List.set_cons_succ]
          have y6 := E.out.2.1
          obtain ⟨y, hy⟩ : ∃ x, World.onObj v20 T5 (laidAt 0 (scC s1)) = x := ⟨_, rfl⟩
          rw [hy] at E y6 ⊢
          clear hy
          refine wpAnyH_ready (rs := [7]) (by kernel_rfl) (by simp) ?_
          refine AllReadyH.cons rfl (fun K hK => ?_) AllReadyH.nil
          go_simp
          refine hK.out _ _ ⟨E.out.2.2.hB, E.out.2.2.hD, E.out.2.2.c⟩ (fun _ => ?_)
          clear hK K y6
          refine wpAnyH_done (by kernel_rfl) ?_ _
          go_wp2_with fail
          go_meet
          case rel => exact ⟨T5, T6, s1, s2, rfl, rfl, E.out.2.2⟩
        · go_simp
          have c21 : Ch [] v18 (v18.alloc (.cells (scC zeroSc) 26)) := (Ch.refl _ _).alloc _
          have s21 : (fun W' : World => W'.heap[B]? = some (.cells (scC a) 26 (0, 0)) ∧ W'.heap[B + 1]? = some (.cells (scC b) 26 (0, 0)) ∧ Ch [] w W') (v18.alloc (.cells (scC zeroSc) 26)) := ⟨bkeep c21 s18.1, bkeep c21 s18.2.1, s18.2.2.trans c21⟩
          have t6_21 : (v18.alloc (.cells (scC zeroSc) 26)).heap[v18.heap.size]? = some (.cells (scC zeroSc) 26 (0, 0)) := by rw [heap_alloc, if_pos rfl]
          have z21 : B + 2 ≤ (v18.alloc (.cells (scC zeroSc) 26)).heap.size := Nat.le_trans z18 c21.size
          have t5_21 := bkeep c21 t5_18
          have o1_21 := o1_18.ch c21
          have hlt : T5 < v18.heap.size := (Array.getElem?_eq_some_iff.1 t5_18).1
          refine hK.out _ _ s21 (fun _ => ?_)
          clear hK K c21 s18 t5_18 o1_18
          try simp only [Act.put, List.setIfInBounds_toArray, List.set_cons_zero, List.set_cons_succ]
          obtain ⟨v21, hv21⟩ : ∃ y, v18.alloc (.cells (scC zeroSc) 26) = y := ⟨_, rfl⟩
          rw [hv21] at s21 t6_21 z21 t5_21 o1_21 ⊢
          obtain ⟨T6, hT6⟩ : ∃ y, v18.heap.size = y := ⟨_, rfl⟩
          rw [hT6] at t6_21 z18 hlt ⊢
          have l6 : B + 2 ≤ T6 := z18
          clear hv21 hT6
          refine wpAnyH_ready (rs := [3]) (by kernel_rfl) (by simp) ?_
          refine AllReadyH.cons (o := ⟨some 21, _, _, _, _, none⟩) rfl (fun K hK => ?_) AllReadyH.nil
          go_simp
          refine (OB _ s21.2.2).mono ?_
          rintro e v22 ⟨s2, rfl, o2_22, hc⟩
          have s22 : (fun W' : World => W'.heap[B]? = some (.cells (scC a) 26 (0, 0)) ∧ W'.heap[B + 1]? = some (.cells (scC b) 26 (0, 0)) ∧ Ch [] w W') v22 := ⟨bkeep hc s21.1, bkeep hc s21.2.1, s21.2.2.trans hc⟩
          have z22 : B + 2 ≤ v22.heap.size := Nat.le_trans z21 hc.size
          have t5_22 := bkeep hc t5_21
          have o1_22 := o1_21.ch hc
          have t6_22 := bkeep hc t6_21
          refine hK.out _ _ s22 (fun _ => ?_)
          clear hK K hc s21 t5_21 o1_21 t6_21
          try simp only [Act.put, List.setIfInBounds_toArray, List.set_cons_zero, List.set_cons_succ]
          have M : Mid w a b ps qs B T5 T6 s1 s2 v22 := ⟨l5, l6, by omega, s22.1, s22.2.1, s22.2.2, t5_22, t6_22, o1_22, o2_22⟩
          have E := Lib.hid (M.fin HBE.out)
          clear M o1_22 o2_22 t6_22
          refine wpAnyH_ready (rs := [6]) (by kernel_rfl) (by simp) ?_
          refine AllReadyH.cons rfl (fun K hK => ?_) AllReadyH.nil
          go_simp
          refine hK.out _ _ E.out.1 (fun _ => ?_)
          clear hK K s22 t5_22
          try simp only [Act.put, List.setIfInBounds_toArray, List.set_cons_zero, List.set_cons_succ]
          have y6 := E.out.2.1
          obtain ⟨y, hy⟩ : ∃ x, World.onObj v22 T5 (laidAt 0 (scC s1)) = x := ⟨_, rfl⟩
          rw [hy] at E y6 ⊢
          clear hy
          refine wpAnyH_ready (rs := [7]) (by kernel_rfl) (by simp) ?_
          refine AllReadyH.cons rfl (fun K hK => ?_) AllReadyH.nil
          go_simp
          refine hK.out _ _ ⟨E.out.2.2.hB, E.out.2.2.hD, E.out.2.2.c⟩ (fun _ => ?_)
          clear hK K y6
          refine wpAnyH_done (by kernel_rfl) ?_ _
          go_wp2_with fail
          go_meet
          case rel => exact ⟨T5, T6, s1, s2, rfl, rfl, E.out.2.2⟩
      · go_simp
        have c23 : Ch [] v17 (v17.alloc (.cells (scC zeroSc) 26)) := (Ch.refl _ _).alloc _
        have s23 : (fun W' : World => W'.heap[B]? = some (.cells (scC a) 26 (0, 0)) ∧ W'.heap[B + 1]? = some (.cells (scC b) 26 (0, 0)) ∧ Ch [] w W') (v17.alloc (.cells (scC zeroSc) 26)) := ⟨bkeep c23 s17.1, bkeep c23 s17.2.1, s17.2.2.trans c23⟩
        have t6_23 : (v17.alloc (.cells (scC zeroSc) 26)).heap[v17.heap.size]? = some (.cells (scC zeroSc) 26 (0, 0)) := by rw [heap_alloc, if_pos rfl]
        have z23 : B + 2 ≤ (v17.alloc (.cells (scC zeroSc) 26)).heap.size := Nat.le_trans z17 c23.size
        have t5_23 := bkeep c23 t5_17
        have hlt : T5 < v17.heap.size := (Array.getElem?_eq_some_iff.1 t5_17).1
        refine hK.out _ _ s23 (fun _ => ?_)
        clear hK K c23 s17 t5_17
        try simp only [Act.put, List.setIfInBounds_toArray, List.set_cons_zero, List.set_cons_succ]
        obtain ⟨v23, hv23⟩ : ∃ y, v17.alloc (.cells (scC zeroSc) 26) = y := ⟨_, rfl⟩
        rw [hv23] at s23 t6_23 z23 t5_23 ⊢
        obtain ⟨T6, hT6⟩ : ∃ y, v17.heap.size = y := ⟨_, rfl⟩
        rw [hT6] at t6_23 z17 hlt ⊢
        have l6 : B + 2 ≤ T6 := z17
        clear hv23 hT6
        refine wpAnyH_ready (rs := [1]) (by kernel_rfl) (by simp) ?_
        refine AllReadyH.cons (o := ⟨some 19, _, _, _, _, none⟩) rfl (fun K hK => ?_) AllReadyH.nil
        go_simp
        refine (OA _ s23.2.2).mono ?_
        rintro e v24 ⟨s1, rfl, o1_24, hc⟩
        have s24 : (fun W' : World => W'.heap[B]? = some (.cells (scC a) 26 (0, 0)) ∧ W'.heap[B + 1]? = some (.cells (scC b) 26 (0, 0)) ∧ Ch [] w W') v24 := ⟨bkeep hc s23.1, bkeep hc s23.2.1, s23.2.2.trans hc⟩
        have z24 : B + 2 ≤ v24.heap.size := Nat.le_trans z23 hc.size
        have t5_24 := bkeep hc t5_23
        have t6_24 := bkeep hc t6_23
        refine hK.out _ _ s24 (fun _ => ?_)
        clear hK K hc s23 t5_23 t6_23
        try simp only [Act.put, List.setIfInBounds_toArray, List.set_cons_zero, List.set_cons_succ]
        refine wpAnyH_ready (rs := [3]) (by kernel_rfl) (by simp) ?_
        refine AllReadyH.cons (o := ⟨some 21, _, _, _, _, none⟩) rfl (fun K hK => ?_) AllReadyH.nil
        go_simp
        refine (OB _ s24.2.2).mono ?_
        rintro e v25 ⟨s2, rfl, o2_25, hc⟩
        have s25 : (fun W' : World => W'.heap[B]? = some (.cells (scC a) 26 (0, 0)) ∧ W'.heap[B + 1]? = some (.cells (scC b) 26 (0, 0)) ∧ Ch [] w W') v25 := ⟨bkeep hc s24.1, bkeep hc s24.2.1, s24.2.2.trans hc⟩
        have z25 : B + 2 ≤ v25.heap.size := Nat.le_trans z24 hc.size
        have t5_25 := bkeep hc t5_24
        have t6_25 := bkeep hc t6_24
        have o1_25 := o1_24.ch hc
        refine hK.out _ _ s25 (fun _ => ?_)
        clear hK K hc s24 t5_24 t6_24 o1_24
        try simp only [Act.put, List.setIfInBounds_toArray, List.set_cons_zero, List.set_cons_succ]
        have M : Mid w a b ps qs B T5 T6 s1 s2 v25 := ⟨l5, l6, by omega, s25.1, s25.2.1, s25.2.2, t5_25, t6_25, o1_25, o2_25⟩
        have E := Lib.hid (M.fin HBE.out)
        clear M o1_25 o2_25 t6_25
        refine wpAnyH_ready (rs := [6]) (by kernel_rfl) (by simp) ?_
        refine AllReadyH.cons rfl (fun K hK => ?_) AllReadyH.nil
        go_simp
        refine hK.out _ _ E.out.1 (fun _ => ?_)
        clear hK K s25 t5_25
        try simp only [Act.put, List.setIfInBounds_toArray, List.set_cons_zero, List.set_cons_succ]
        have y6 := E.out.2.1
        obtain ⟨y, hy⟩ : ∃ x, World.onObj v25 T5 (laidAt 0 (scC s1)) = x := ⟨_, rfl⟩
        rw [hy] at E y6 ⊢
        clear hy
        refine wpAnyH_ready (rs := [7]) (by kernel_rfl) (by simp) ?_
        refine AllReadyH.cons rfl (fun K hK => ?_) AllReadyH.nil
        go_simp
        refine hK.out _ _ ⟨E.out.2.2.hB, E.out.2.2.hD, E.out.2.2.c⟩ (fun _ => ?_)
        clear hK K y6
        refine wpAnyH_done (by kernel_rfl) ?_ _
        go_wp2_with fail
        go_meet
        case rel => exact ⟨T5, T6, s1, s2, rfl, rfl, E.out.2.2⟩
    · go_simp
      have c26 : Ch [] v0 (v0.alloc (.cells (scC zeroSc) 26)) := (Ch.refl _ _).alloc _
      have s26 : (fun W' : World => W'.heap[B]? = some (.cells (scC a) 26 (0, 0)) ∧ W'.heap[B + 1]? = some (.cells (scC b) 26 (0, 0)) ∧ Ch [] w W') (v0.alloc (.cells (scC zeroSc) 26)) := ⟨bkeep c26 s0.1, bkeep c26 s0.2.1, s0.2.2.trans c26⟩
      have t6_26 : (v0.alloc (.cells (scC zeroSc) 26)).heap[v0.heap.size]? = some (.cells (scC zeroSc) 26 (0, 0)) := by rw [heap_alloc, if_pos rfl]
      have z26 : B + 2 ≤ (v0.alloc (.cells (scC zeroSc) 26)).heap.size := Nat.le_trans z0 c26.size
      refine hK.out _ _ s26 (fun _ => ?_)
      clear hK K c26 s0 
      try simp only [Act.put, List.setIfInBounds_toArray, List.set_cons_zero, List.set_cons_succ]
      obtain ⟨v26, hv26⟩ : ∃ y, v0.alloc (.cells (scC zeroSc) 26) = y := ⟨_, rfl⟩
      rw [hv26] at s26 t6_26 z26  ⊢
      obtain ⟨T6, hT6⟩ : ∃ y, v0.heap.size = y := ⟨_, rfl⟩
      rw [hT6] at t6_26 z0  ⊢
      have l6 : B + 2 ≤ T6 := z0
      clear hv26 hT6
      refine wpAnyH_ready (rs := [1, 4]) (by kernel_rfl) (by simp) ?_
      refine AllReadyH.cons (o := ⟨some 19, _, _, _, _, none⟩) rfl (fun K hK => ?_) (AllReadyH.cons (o := ⟨some 5, _, _, _, _, none⟩) rfl (fun K hK => ?_) AllReadyH.nil)
      · go_simp
        refine (OA _ s26.2.2).mono ?_
        rintro e v27 ⟨s1, rfl, o1_27, hc⟩
        have s27 : (fun W' : World => W'.heap[B]? = some (.cells (scC a) 26 (0, 0)) ∧ W'.heap[B + 1]? = some (.cells (scC b) 26 (0, 0)) ∧ Ch [] w W') v27 := ⟨bkeep hc s26.1, bkeep hc s26.2.1, s26.2.2.trans hc⟩
        have z27 : B + 2 ≤ v27.heap.size := Nat.le_trans z26 hc.size
        have t6_27 := bkeep hc t6_26
        refine hK.out _ _ s27 (fun _ => ?_)
        clear hK K hc s26 t6_26
        try simp only [Act.put, List.setIfInBounds_toArray, List.set_cons_zero, List.set_cons_succ]
        refine wpAnyH_ready (rs := [3, 4]) (by kernel_rfl) (by simp) ?_
        refine AllReadyH.cons (o := ⟨some 21, _, _, _, _, none⟩) rfl (fun K hK => ?_) (AllReadyH.cons (o := ⟨some 5, _, _, _, _, none⟩) rfl (fun K hK => ?_) AllReadyH.nil)
        · go_simp
          refine (OB _ s27.2.2).mono ?_
          rintro e v28 ⟨s2, rfl, o2_28, hc⟩
          have s28 : (fun W' : World => W'.heap[B]? = some (.cells (scC a) 26 (0, 0)) ∧ W'.heap[B + 1]? = some (.cells (scC b) 26 (0, 0)) ∧ Ch [] w W') v28 := ⟨bkeep hc s27.1, bkeep hc s27.2.1, s27.2.2.trans hc⟩
          have z28 : B + 2 ≤ v28.heap.size := Nat.le_trans z27 hc.size
          have t6_28 := bkeep hc t6_27
          have o1_28 := o1_27.ch hc
          refine hK.out _ _ s28 (fun _ => ?_)
          clear hK K hc s27 t6_27 o1_27
          try simp only [Act.put, List.setIfInBounds_toArray, List.set_cons_zero, List.set_cons_succ]
          refine wpAnyH_ready (rs := [4]) (by kernel_rfl) (by simp) ?_
          refine AllReadyH.cons (o := ⟨some 5, _, _, _, _, none⟩) rfl (fun K hK => ?_) AllReadyH.nil
          go_simp
          have c29 : Ch [] v28 (v28.alloc (.cells (scC zeroSc) 26)) := (Ch.refl _ _).alloc _
          have s29 : (fun W' : World => W'.heap[B]? = some (.cells (scC a) 26 (0, 0)) ∧ W'.heap[B + 1]? = some (.cells (scC b) 26 (0, 0)) ∧ Ch [] w W') (v28.alloc (.cells (scC zeroSc) 26)) := ⟨bkeep c29 s28.1, bkeep c29 s28.2.1, s28.2.2.trans c29⟩
          have t5_29 : (v28.alloc (.cells (scC zeroSc) 26)).heap[v28.heap.size]? = some (.cells (scC zeroSc) 26 (0, 0)) := by rw [heap_alloc, if_pos rfl]
          have z29 : B + 2 ≤ (v28.alloc (.cells (scC zeroSc) 26)).heap.size := Nat.le_trans z28 c29.size
          have t6_29 := bkeep c29 t6_28
          have o1_29 := o1_28.ch c29
          have o2_29 := o2_28.ch c29
          have hlt : T6 < v28.heap.size := (Array.getElem?_eq_some_iff.1 t6_28).1
          refine hK.out _ _ s29 (fun _ => ?_)
          clear hK K c29 s28 t6_28 o1_28 o2_28
          try simp only [Act.put, List.setIfInBounds_toArray, List.set_cons_zero, List.set_cons_succ]
          obtain ⟨v29, hv29⟩ : ∃ y, v28.alloc (.cells (scC zeroSc) 26) = y := ⟨_, rfl⟩
          rw [hv29] at s29 t5_29 z29 t6_29 o1_29 o2_29 ⊢
          obtain ⟨T5, hT5⟩ : ∃ y, v28.heap.size = y := ⟨_, rfl⟩
          rw [hT5] at t5_29 z28 hlt ⊢
          have l5 : B + 2 ≤ T5 := z28
          clear hv29 hT5
          have M : Mid w a b ps qs B T5 T6 s1 s2 v29 := ⟨l5, l6, by omega, s29.1, s29.2.1, s29.2.2, t5_29, t6_29, o1_29, o2_29⟩
          have E := Lib.hid (M.fin HBE.out)
          clear M o1_29 o2_29 t6_29
          refine wpAnyH_ready (rs := [6]) (by kernel_rfl) (by simp) ?_
          refine AllReadyH.cons rfl (fun K hK => ?_) AllReadyH.nil
          go_simp
          refine hK.out _ _ E.out.1 (fun _ => ?_)
          clear hK K s29 t5_29
          try simp only [Act.put, List.setIfInBounds_toArray, List.set_cons_zero, List.set_cons_succ]
          have y6 := E.out.2.1
          obtain ⟨y, hy⟩ : ∃ x, World.onObj v29 T5 (laidAt 0 (scC s1)) = x := ⟨_, rfl⟩
          rw [hy] at E y6 ⊢
          clear hy
          refine wpAnyH_ready (rs := [7]) (by kernel_rfl) (by simp) ?_
          refine AllReadyH.cons rfl (fun K hK => ?_) AllReadyH.nil
          go_simp
          refine hK.out _ _ ⟨E.out.2.2.hB, E.out.2.2.hD, E.out.2.2.c⟩ (fun _ => ?_)
          clear hK K y6
          refine wpAnyH_done (by kernel_rfl) ?_ _
          go_wp2_with fail
          go_meet
          case rel => exact ⟨T5, T6, s1, s2, rfl, rfl, E.out.2.2⟩
        · go_simp
          have c30 : Ch [] v27 (v27.alloc (.cells (scC zeroSc) 26)) := (Ch.refl _ _).alloc _
          have s30 : (fun W' : World => W'.heap[B]? = some (.cells (scC a) 26 (0, 0)) ∧ W'.heap[B + 1]? = some (.cells (scC b) 26 (0, 0)) ∧ Ch [] w W') (v27.alloc (.cells (scC zeroSc) 26)) := ⟨bkeep c30 s27.1, bkeep c30 s27.2.1, s27.2.2.trans c30⟩
          have t5_30 : (v27.alloc (.cells (scC zeroSc) 26)).heap[v27.heap.size]? = some (.cells (scC zeroSc) 26 (0, 0)) := by rw [heap_alloc, if_pos rfl]
          have z30 : B + 2 ≤ (v27.alloc (.cells (scC zeroSc) 26)).heap.size := Nat.le_trans z27 c30.size
          have t6_30 := bkeep c30 t6_27
          have o1_30 := o1_27.ch c30
          have hlt : T6 < v27.heap.size := (Array.getElem?_eq_some_iff.1 t6_27).1
          refine hK.out _ _ s30 (fun _ => ?_)
          clear hK K c30 s27 t6_27 o1_27
          try simp only [Act.put, List.setIfInBounds_toArray, List.set_cons_zero, List.set_cons_succ]
          obtain ⟨v30, hv30⟩ : ∃ y, v27.alloc (.cells (scC zeroSc) 26) = y := ⟨_, rfl⟩
          rw [hv30] at s30 t5_30 z30 t6_30 o1_30 ⊢
          obtain ⟨T5, hT5⟩ : ∃ y, v27.heap.size = y := ⟨_, rfl⟩
          rw [hT5] at t5_30 z27 hlt ⊢
          have l5 : B + 2 ≤ T5 := z27
          clear hv30 hT5
          refine wpAnyH_ready (rs := [3]) (by kernel_rfl) (by simp) ?_
          refine AllReadyH.cons (o := ⟨some 21, _, _, _, _, none⟩) rfl (fun K hK => ?_) AllReadyH.nil
          go_simp
          refine (OB _ s30.2.2).mono ?_
          rintro e v31 ⟨s2, rfl, o2_31, hc⟩
          have s31 : (fun W' : World => W'.heap[B]? = some (.cells (scC a) 26 (0, 0)) ∧ W'.heap[B + 1]? = some (.cells (scC b) 26 (0, 0)) ∧ Ch [] w W') v31 := ⟨bkeep hc s30.1, bkeep hc s30.2.1, s30.2.2.trans hc⟩
          have z31 : B + 2 ≤ v31.heap.size := Nat.le_trans z30 hc.size
          have t6_31 := bkeep hc t6_30
          have o1_31 := o1_30.ch hc
          have t5_31 := bkeep hc t5_30
          refine hK.out _ _ s31 (fun _ => ?_)
          clear hK K hc s30 t6_30 o1_30 t5_30
          try simp only [Act.put, List.setIfInBounds_toArray, List.set_cons_zero, List.set_cons_succ]
          have M : Mid w a b ps qs B T5 T6 s1 s2 v31 := ⟨l5, l6, by omega, s31.1, s31.2.1, s31.2.2, t5_31, t6_31, o1_31, o2_31⟩
          have E := Lib.hid (M.fin HBE.out)
          clear M o1_31 o2_31 t6_31
          refine wpAnyH_ready (rs := [6]) (by kernel_rfl) (by simp) ?_
          refine AllReadyH.cons rfl (fun K hK => ?_) AllReadyH.nil
          go_simp
          refine hK.out _ _ E.out.1 (fun _ => ?_)
          clear hK K s31 t5_31
          try simp only [Act.put, List.setIfInBounds_toArray, List.set_cons_zero, List.set_cons_succ]
          have y6 := E.out.2.1
          obtain ⟨y, hy⟩ : ∃ x, World.onObj v31 T5 (laidAt 0 (scC s1)) = x := ⟨_, rfl⟩
          rw [hy] at E y6 ⊢
          clear hy
          refine wpAnyH_ready (rs := [7]) (by kernel_rfl) (by simp) ?_
          refine AllReadyH.cons rfl (fun K hK => ?_) AllReadyH.nil
          go_simp
          refine hK.out _ _ ⟨E.out.2.2.hB, E.out.2.2.hD, E.out.2.2.c⟩ (fun _ => ?_)
          clear hK K y6
          refine wpAnyH_done (by kernel_rfl) ?_ _
          go_wp2_with fail
          go_meet
          case rel => exact ⟨T5, T6, s1, s2, rfl, rfl, E.out.2.2⟩
      · go_simp
        have c32 : Ch [] v26 (v26.alloc (.cells (scC zeroSc) 26)) := (Ch.refl _ _).alloc _
        have s32 : (fun W' : World => W'.heap[B]? = some (.cells (scC a) 26 (0, 0)) ∧ W'.heap[B + 1]? = some (.cells (scC b) 26 (0, 0)) ∧ Ch [] w W') (v26.alloc (.cells (scC zeroSc) 26)) := ⟨bkeep c32 s26.1, bkeep c32 s26.2.1, s26.2.2.trans c32⟩
        have t5_32 : (v26.alloc (.cells (scC zeroSc) 26)).heap[v26.heap.size]? = some (.cells (scC zeroSc) 26 (0, 0)) := by rw [heap_alloc, if_pos rfl]
        have z32 : B + 2 ≤ (v26.alloc (.cells (scC zeroSc) 26)).heap.size := Nat.le_trans z26 c32.size
        have t6_32 := bkeep c32 t6_26
        have hlt : T6 < v26.heap.size := (Array.getElem?_eq_some_iff.1 t6_26).1
        refine hK.out _ _ s32 (fun _ => ?_)
        clear hK K c32 s26 t6_26
        try simp only [Act.put, List.setIfInBounds_toArray, List.set_cons_zero, List.set_cons_succ]
        obtain ⟨v32, hv32⟩ : ∃ y, v26.alloc (.cells (scC zeroSc) 26) = y := ⟨_, rfl⟩
        rw [hv32] at s32 t5_32 z32 t6_32 ⊢
        obtain ⟨T5, hT5⟩ : ∃ y, v26.heap.size = y := ⟨_, rfl⟩
        rw [hT5] at t5_32 z26 hlt ⊢
        have l5 : B + 2 ≤ T5 := z26
        clear hv32 hT5
        refine wpAnyH_ready (rs := [1]) (by kernel_rfl) (by simp) ?_
        refine AllReadyH.cons (o := ⟨some 19, _, _, _, _, none⟩) rfl (fun K hK => ?_) AllReadyH.nil
        go_simp
        refine (OA _ s32.2.2).mono ?_
        rintro e v33 ⟨s1, rfl, o1_33, hc⟩
        have s33 : (fun W' : World => W'.heap[B]? = some (.cells (scC a) 26 (0, 0)) ∧ W'.heap[B + 1]? = some (.cells (scC b) 26 (0, 0)) ∧ Ch [] w W') v33 := ⟨bkeep hc s32.1, bkeep hc s32.2.1, s32.2.2.trans hc⟩
        have z33 : B + 2 ≤ v33.heap.size := Nat.le_trans z32 hc.size
        have t6_33 := bkeep hc t6_32
        have t5_33 := bkeep hc t5_32
        refine hK.out _ _ s33 (fun _ => ?_)
        clear hK K hc s32 t6_32 t5_32
        try simp only [Act.put, List.setIfInBounds_toArray, List.set_cons_zero, List.set_cons_succ]
        refine wpAnyH_ready (rs := [3]) (by kernel_rfl) (by simp) ?_
        refine AllReadyH.cons (o := ⟨some 21, _, _, _, _, none⟩) rfl (fun K hK => ?_) AllReadyH.nil
        go_simp
        refine (OB _ s33.2.2).mono ?_
        rintro e v34 ⟨s2, rfl, o2_34, hc⟩
        have s34 : (fun W' : World => W'.heap[B]? = some (.cells (scC a) 26 (0, 0)) ∧ W'.heap[B + 1]? = some (.cells (scC b) 26 (0, 0)) ∧ Ch [] w W') v34 := ⟨bkeep hc s33.1, bkeep hc s33.2.1, s33.2.2.trans hc⟩
        have z34 : B + 2 ≤ v34.heap.size := Nat.le_trans z33 hc.size
        have t6_34 := bkeep hc t6_33
        have t5_34 := bkeep hc t5_33
        have o1_34 := o1_33.ch hc
        refine hK.out _ _ s34 (fun _ => ?_)
        clear hK K hc s33 t6_33 t5_33 o1_33
        try simp only [Act.put, List.setIfInBounds_toArray, List.set_cons_zero, List.set_cons_succ]
        have M : Mid w a b ps qs B T5 T6 s1 s2 v34 := ⟨l5, l6, by omega, s34.1, s34.2.1, s34.2.2, t5_34, t6_34, o1_34, o2_34⟩
        have E := Lib.hid (M.fin HBE.out)
        clear M o1_34 o2_34 t6_34
        refine wpAnyH_ready (rs := [6]) (by kernel_rfl) (by simp) ?_
        refine AllReadyH.cons rfl (fun K hK => ?_) AllReadyH.nil
        go_simp
        refine hK.out _ _ E.out.1 (fun _ => ?_)
        clear hK K s34 t5_34
        try simp only [Act.put, List.setIfInBounds_toArray, List.set_cons_zero, List.set_cons_succ]
        have y6 := E.out.2.1
        obtain ⟨y, hy⟩ : ∃ x, World.onObj v34 T5 (laidAt 0 (scC s1)) = x := ⟨_, rfl⟩
        rw [hy] at E y6 ⊢
        clear hy
        refine wpAnyH_ready (rs := [7]) (by kernel_rfl) (by simp) ?_
        refine AllReadyH.cons rfl (fun K hK => ?_) AllReadyH.nil
        go_simp
        refine hK.out _ _ ⟨E.out.2.2.hB, E.out.2.2.hD, E.out.2.2.c⟩ (fun _ => ?_)
        clear hK K y6
        refine wpAnyH_done (by kernel_rfl) ?_ _
        go_wp2_with fail
        go_meet
        case rel => exact ⟨T5, T6, s1, s2, rfl, rfl, E.out.2.2⟩
  case rest =>
    obtain ⟨T5, T6, s1, s2, rfl, rfl, F0⟩ := hcut
    clear C0 hB0 hD0 hsz
    have HF := Lib.hid F0
    have HZ5 := Lib.hid (fun (w2 : World) (c : Ch [] wc w2) => bkeep c F0.z5)
    have HZ6 := Lib.hid (fun (w2 : World) (c : Ch [] wc w2) => bkeep c F0.z6)
    have HR1 := Lib.hid (fun (w2 : World) (c : Ch [] wc w2) => F0.o1.any.ch c)
    have HR2 := Lib.hid (fun (w2 : World) (c : Ch [] wc w2) => F0.o2.any.ch c)
    have HTT := Lib.hid (fun (w2 : World) (c : Ch [] wc w2) => HT.out.ch (F0.c.trans c))
    have PP := partsP_any s1
    have EE := enoughP_any s1
    have QQ := rRight3_any s1
    clear F0
    rcases (show checkB s1 = false ∨ checkB s1 = true by cases checkB s1 <;> simp) with hck | hck
    · have M1 := comesP_no s1 wc (HR1.out _ (Ch.refl _ _)) (HTT.out _ (Ch.refl _ _)) hck
      have hpe : partsE s1 = (0, 130) := by unfold partsE; rw [hck]; rfl
      have hen : enoughB s1 = false := by unfold enoughB; rw [hck]; rfl
      rw [hpe] at PP
      rw [hen] at EE
      rw [hck] at QQ
      have HCK := Lib.hid hck
      clear hpe hen hck
      dsimp only at PP
      have hz := HZ5.out wc (Ch.refl _ _)
      go_wp2_with fail
      refine M1.mono ?_
      rintro e w1 ⟨rfl, hc1⟩
      have hz1 := HZ5.out _ hc1
      have P1 := PP w1 (HR1.out _ hc1) (HTT.out _ hc1)
      clear M1 hz PP
      go_wp2_with fail
      refine P1.mono ?_
      rintro e w2 ⟨rfl, hc2⟩
      have c2 := hc1.trans hc2
      have hz2 := HZ5.out _ c2
      have Q1 := QQ w2 (HR1.out _ c2)
      clear P1 hz1 QQ hc1 hc2
      go_wp2_with fail
      refine Q1.mono ?_
      rintro e w3 ⟨rfl, hc3⟩
      have c3 := c2.trans hc3
      have hz3 := HZ5.out _ c3
      have E1 := EE w3 (HR1.out _ c3) (HTT.out _ c3)
      clear Q1 hz2 EE c2 hc3
      go_upto_region 8 with (fail)
      go_wp2_with (go_at_call 9; refine E1.mono ?_; rintro e w4 ⟨rfl, hc4⟩; have c4 := c3.trans hc4; have hz4 := HZ5.out _ c4; have hz6 := HZ6.out _ c4; clear E1 hz3 c3 hc4)
      obtain ⟨w5, hw5, hc5, hQ⟩ := rows_two s1 s2 w4
      have c5 := c4.trans hc5
      have L1 := leastP_any [s1, s2] w4.heap.size 2 w5 (by simp) (fun s hs => by
        rcases (show s = s1 ∨ s = s2 by simpa using hs) with rfl | rfl
        · exact HR1.out _ c5
        · exact HR2.out _ c5) (HTT.out _ c5) hQ
      rw [show leastE [s1, s2] = (0, 130) by unfold leastE; simp [HCK.out], show [s1, s2].length = 2 from rfl] at L1
      dsimp only at L1
      clear hQ hc5
      rw [hw5]
      clear hw5 hz4 hz6 c4
      refine L1.mono ?_
      rintro e w6 ⟨rfl, hc6⟩
      have c6 := c5.trans hc6
      clear L1 c5 hc6
      have hz := HZ5.out _ c6
      have hB := bkeep c6 HF.out.hB
      have OA := fun (w2 : World) (h : Ch [] wc w2) => own_any a ps w2 (HRA.out.ch (HF.out.c.trans h))
      have SS := fun (w2 : World) (s3 : ScT) (h : Ch [] wc w2) (o3 : OwnSc w2 a s3 ps) => rSame_any s1 s3 (ps.take 4100) w2 (o3.g.trans HF.out.o1.g.symm) (o3.sl.trans HF.out.o1.sl.symm) (o3.sd.trans HF.out.o1.sd.symm) (o3.ls.trans HF.out.o1.ls.symm) (HF.out.o1.ch h).owned o3.owned
      have FC := Lib.hid (fun (w2 : World) (h : Ch [] wc w2) => HF.out.c.trans h)
      go_upto_region 18 with (fail)
      have e0 : (fun W' : World => W'.heap[T5]? = some (.cells (scC s1) 26 (0, 0)) ∧ W'.heap[B]? = some (.cells (scC a) 26 (0, 0)) ∧ Ch [] wc W') w6.drew := ⟨hz, hB, c6.drew⟩
      refine wp_region_held_drew (S := fun W' : World => W'.heap[T5]? = some (.cells (scC s1) 26 (0, 0)) ∧ W'.heap[B]? = some (.cells (scC a) 26 (0, 0)) ∧ Ch [] wc W') (by kernel_rfl) e0 ?_
      intro _
      simp only [List.size_toArray, List.length_cons, List.length_nil, Nat.reduceAdd]
      clear hz hB c6
      generalize w6.drew = x0 at *
      refine wpAnyH_take (i := 0) (oi := ⟨some 110, _, _, _, _, none⟩) (v := ?_) rfl (by kernel_rfl) (by kernel_rfl) (by kernel_rfl) (fun _ _ _ h => h) (Or.inl ⟨by rfl, ?_⟩) e0 ?_
      rotate_left
      · intro wq hSq
        obtain ⟨z1, z2, z3⟩ := hSq
        first | (go_simp; done) | (go_simp; with_reducible rfl)
      try simp only [Act.put, List.setIfInBounds_toArray, List.set_cons_zero, List.set_cons_succ]
      refine wpAnyH_take (i := 1) (oi := ⟨some 111, _, _, _, _, none⟩) (v := ?_) rfl (by kernel_rfl) (by kernel_rfl) (by kernel_rfl) (fun _ _ _ h => h) (Or.inl ⟨by rfl, ?_⟩) e0 ?_
      rotate_left
      · intro wq hSq
        obtain ⟨z1, z2, z3⟩ := hSq
        first | (go_simp; done) | (go_simp; with_reducible rfl)
      try simp only [Act.put, List.setIfInBounds_toArray, List.set_cons_zero, List.set_cons_succ]
      refine wpAnyH_take (i := 2) (oi := ⟨some 112, _, _, _, _, none⟩) (v := ?_) rfl (by kernel_rfl) (by kernel_rfl) (by kernel_rfl) (fun _ _ _ h => h) (Or.inl ⟨by rfl, ?_⟩) e0 ?_
      rotate_left
      · intro wq hSq
        obtain ⟨z1, z2, z3⟩ := hSq
        first | (go_simp; done) | (go_simp; with_reducible rfl)
      try simp only [Act.put, List.setIfInBounds_toArray, List.set_cons_zero, List.set_cons_succ]
      refine wpAnyH_take (i := 3) (oi := ⟨some 113, _, _, _, _, none⟩) (v := ?_) rfl (by kernel_rfl) (by kernel_rfl) (by kernel_rfl) (fun _ _ _ h => h) (Or.inl ⟨by rfl, ?_⟩) e0 ?_
      rotate_left
      · intro wq hSq
        obtain ⟨z1, z2, z3⟩ := hSq
        first | (go_simp; done) | (go_simp; with_reducible rfl)
      try simp only [Act.put, List.setIfInBounds_toArray, List.set_cons_zero, List.set_cons_succ]
      refine wpAnyH_take (i := 4) (oi := ⟨some 114, _, _, _, _, _⟩) (v := ?_) rfl (by kernel_rfl) (by kernel_rfl) (by kernel_rfl) (fun _ _ _ h => h) (Or.inl ⟨by rfl, ?_⟩) e0 ?_
      rotate_left
      · intro wq hSq
        obtain ⟨z1, z2, z3⟩ := hSq
        first | (go_simp; done) | (go_simp; with_reducible rfl)
      try simp only [Act.put, List.setIfInBounds_toArray, List.set_cons_zero, List.set_cons_succ]
      refine wpAnyH_take (i := 5) (oi := ⟨some 115, _, _, _, _, _⟩) (v := ?_) rfl (by kernel_rfl) (by kernel_rfl) (by kernel_rfl) (fun _ _ _ h => h) (Or.inl ⟨by rfl, ?_⟩) e0 ?_
      rotate_left
      · intro wq hSq
        obtain ⟨z1, z2, z3⟩ := hSq
        first | (go_simp; done) | (go_simp; with_reducible rfl)
      try simp only [Act.put, List.setIfInBounds_toArray, List.set_cons_zero, List.set_cons_succ]
      refine wpAnyH_take (i := 6) (oi := ⟨some 116, _, _, _, _, _⟩) (v := ?_) rfl (by kernel_rfl) (by kernel_rfl) (by kernel_rfl) (fun _ _ _ h => h) (Or.inl ⟨by rfl, ?_⟩) e0 ?_
      rotate_left
      · intro wq hSq
        obtain ⟨z1, z2, z3⟩ := hSq
        first | (go_simp; done) | (go_simp; with_reducible rfl)
      try simp only [Act.put, List.setIfInBounds_toArray, List.set_cons_zero, List.set_cons_succ]
      refine wpAnyH_take (i := 7) (oi := ⟨some 117, _, _, _, _, none⟩) (v := ?_) rfl (by kernel_rfl) (by kernel_rfl) (by kernel_rfl) (fun _ _ _ h => h) (Or.inl ⟨by rfl, ?_⟩) e0 ?_
      rotate_left
      · intro wq hSq
        obtain ⟨z1, z2, z3⟩ := hSq
        first | (go_simp; done) | (go_simp; with_reducible rfl)
      try simp only [Act.put, List.setIfInBounds_toArray, List.set_cons_zero, List.set_cons_succ]
      refine wpAnyH_take (i := 8) (oi := ⟨some 118, _, _, _, _, none⟩) (v := ?_) rfl (by kernel_rfl) (by kernel_rfl) (by kernel_rfl) (fun _ _ _ h => h) (Or.inl ⟨by rfl, ?_⟩) e0 ?_
      rotate_left
      · intro wq hSq
        obtain ⟨z1, z2, z3⟩ := hSq
        first | (go_simp; done) | (go_simp; with_reducible rfl)
      try simp only [Act.put, List.setIfInBounds_toArray, List.set_cons_zero, List.set_cons_succ]
      refine wpAnyH_take (i := 9) (oi := ⟨some 119, _, _, _, _, _⟩) (v := ?_) rfl (by kernel_rfl) (by kernel_rfl) (by kernel_rfl) (fun _ _ _ h => h) (Or.inl ⟨by rfl, ?_⟩) e0 ?_
      rotate_left
      · intro wq hSq
        obtain ⟨z1, z2, z3⟩ := hSq
        first | (go_simp; done) | (go_simp; with_reducible rfl)
      try simp only [Act.put, List.setIfInBounds_toArray, List.set_cons_zero, List.set_cons_succ]
      refine wpAnyH_take (i := 10) (oi := ⟨some 120, _, _, _, _, _⟩) (v := ?_) rfl (by kernel_rfl) (by kernel_rfl) (by kernel_rfl) (fun _ _ _ h => h) (Or.inl ⟨by rfl, ?_⟩) e0 ?_
      rotate_left
      · intro wq hSq
        obtain ⟨z1, z2, z3⟩ := hSq
        first | (go_simp; done) | (go_simp; with_reducible rfl)
      try simp only [Act.put, List.setIfInBounds_toArray, List.set_cons_zero, List.set_cons_succ]
      refine wpAnyH_ready (rs := [11]) (by kernel_rfl) (by simp) ?_
      refine AllReadyH.cons rfl (fun K hK => ?_) AllReadyH.nil
      go_simp
      refine (OA _ e0.2.2).mono ?_
      rintro e x1 ⟨s3, rfl, o3, hd1⟩
      have e1 : (fun W' : World => W'.heap[T5]? = some (.cells (scC s1) 26 (0, 0)) ∧ W'.heap[B]? = some (.cells (scC a) 26 (0, 0)) ∧ Ch [] wc W') x1 := ⟨bkeep hd1 e0.1, bkeep hd1 e0.2.1, e0.2.2.trans hd1⟩
      refine hK.out _ _ e1 (fun _ => ?_)
      clear hK K hd1 OA e0
      try simp only [Act.put, List.setIfInBounds_toArray, List.set_cons_zero, List.set_cons_succ]
      refine wpAnyH_ready (rs := [12]) (by kernel_rfl) (by simp) ?_
      refine AllReadyH.cons rfl (fun K hK => ?_) AllReadyH.nil
      go_simp
      refine (SS _ s3 e1.2.2 o3).mono ?_
      rintro e x2 ⟨rfl, hd2⟩
      have e2 : (fun W' : World => W'.heap[T5]? = some (.cells (scC s1) 26 (0, 0)) ∧ W'.heap[B]? = some (.cells (scC a) 26 (0, 0)) ∧ Ch [] wc W') x2 := ⟨bkeep hd2 e1.1, bkeep hd2 e1.2.1, e1.2.2.trans hd2⟩
      refine hK.out _ _ e2 (fun _ => ?_)
      clear hK K hd2 SS e1 o3
      try simp only [Act.put, List.setIfInBounds_toArray, List.set_cons_zero, List.set_cons_succ]
      refine wpAnyH_take (i := 13) (oi := ⟨some 123, _, _, _, _, none⟩) (v := ?_) rfl (by kernel_rfl) (by kernel_rfl) (by kernel_rfl) (fun _ _ _ h => h) (Or.inl ⟨by rfl, ?_⟩) e2 ?_
      rotate_left
      · intro wq hSq
        obtain ⟨z1, z2, z3⟩ := hSq
        first | (go_simp; done) | (go_simp; with_reducible rfl)
      try simp only [Act.put, List.setIfInBounds_toArray, List.set_cons_zero, List.set_cons_succ]
      refine wpAnyH_take (i := 14) (oi := ⟨some 4, _, _, _, _, none⟩) (v := ?_) rfl (by kernel_rfl) (by kernel_rfl) (by kernel_rfl) (fun _ _ _ h => h) (Or.inl ⟨by rfl, ?_⟩) e2 ?_
      rotate_left
      · intro wq hSq
        obtain ⟨z1, z2, z3⟩ := hSq
        first | (go_simp; done) | (go_simp; with_reducible rfl)
      try simp only [Act.put, List.setIfInBounds_toArray, List.set_cons_zero, List.set_cons_succ]
      refine wpAnyH_done (by kernel_rfl) ?_ _
      go_wp2_with fail
      go_ret
      exact ⟨rfl, FC.out _ e2.2.2⟩
    · have HCK := Lib.hid hck
      have HI := Lib.hid (fun (w2 : World) (c : Ch [] wc w2) => (HR1.out w2 c).right hck)
      have M1 := comesP_of s1 wc (HI.out _ (Ch.refl _ _)) (HTT.out _ (Ch.refl _ _))
      have hpe : partsE s1 = ((ptsS s1 : Int), 0) := by unfold partsE; rw [hck]; rfl
      rw [hpe] at PP
      rw [hck] at QQ
      dsimp only at PP
      have hen : enoughB s1 = (decide (ptsS s1 ≤ 5) && decide (lstS s1 ≤ s1.sl)) := by unfold enoughB ptsB; rw [hck]; rfl
      have RC := fun w2 R => rComes_any s1 w2 R
      rw [comesR_eq] at RC
      have RP := rParts_any s1
      have RE := rEnough_any s1
      rw [← hen] at RE
      obtain ⟨en, hee⟩ : ∃ x, enoughB s1 = x := ⟨_, rfl⟩
      rw [hee] at EE RE
      have hkl : (keysL (catL s1.ls)).length ≤ 64 := by
        have h1 := keys_len (catL s1.ls)
        have h2 := (HI.out _ (Ch.refl _ _)).calls
        omega
      obtain ⟨ks, hks⟩ : ∃ x, keysL (catL s1.ls) = x := ⟨_, rfl⟩
      have HKS := Lib.hid hks
      rw [hks] at M1 RC hkl
      have EQ := fun (a2 b2 : Option Addr) (ca cb : Nat) (w2 : World) (h1 : KW w2 a2 ks) (h2 : KW w2 b2 ks) => equalW_any ks ks a2 b2 ca cb w2 h1 h2 (by omega)
      simp only [decide_true] at EQ
      obtain ⟨kn, hkn⟩ : ∃ x, ks.length = x := ⟨_, rfl⟩
      have HKN := Lib.hid hkn
      rw [hkn] at M1 RC hkl EQ
      obtain ⟨pt, hpt⟩ : ∃ x, ptsS s1 = x := ⟨_, rfl⟩
      have HPT := Lib.hid hpt
      rw [hpt] at PP RP
      clear hpe hen hck hee hks hkn hpt
      have hz := HZ5.out wc (Ch.refl _ _)
      go_wp2_with fail
      refine M1.mono ?_
      rintro e w1 ⟨v, rfl, hown, hc1⟩
      obtain ⟨av, cv, rfl, _, hkv⟩ := own_kw hown
      have HKV := Lib.hid (fun (w2 : World) (c : Ch [] w1 w2) => hkv.ch c)
      have hz1 := HZ5.out _ hc1
      have P1 := PP w1 (HR1.out _ hc1) (HTT.out _ hc1)
      clear M1 hz PP hown hkv
      go_wp2_with fail
      refine P1.mono ?_
      rintro e w2 ⟨rfl, hc2⟩
      have c2 := hc1.trans hc2
      have hz2 := HZ5.out _ c2
      have Q1 := QQ w2 (HR1.out _ c2)
      clear P1 hz1 QQ
      go_wp2_with fail
      refine Q1.mono ?_
      rintro e w3 ⟨rfl, hc3⟩
      have c3 := hc2.trans hc3
      have hz3 := HZ5.out _ (hc1.trans c3)
      clear Q1 hz2 c2 hc3 hc2
      go_upto_region 10 with (fail)
      have e0 : (fun W' : World => W'.heap[T5]? = some (.cells (scC s1) 26 (0, 0)) ∧ Ch [] w1 W') w3.drew := ⟨hz3, c3.drew⟩
      refine wp_region_held_drew (S := fun W' : World => W'.heap[T5]? = some (.cells (scC s1) 26 (0, 0)) ∧ Ch [] w1 W') (by kernel_rfl) e0 ?_
      intro _
      simp only [List.size_toArray, List.length_cons, List.length_nil, Nat.reduceAdd]
      clear hz3 c3
      generalize w3.drew = x0 at *
      refine wpAnyH_take (i := 0) (oi := ⟨some 55, _, _, _, _, none⟩) (v := ?_) rfl (by kernel_rfl) (by kernel_rfl) (by kernel_rfl) (fun _ _ _ h => h) (Or.inl ⟨by rfl, ?_⟩) e0 ?_
      rotate_left
      · intro wq hSq
        obtain ⟨z1, z2⟩ := hSq
        first | (go_simp; done) | (go_simp; with_reducible rfl)
      try simp only [Act.put, List.setIfInBounds_toArray, List.set_cons_zero, List.set_cons_succ]
      refine wpAnyH_take (i := 1) (oi := ⟨some 56, _, _, _, _, none⟩) (v := ?_) rfl (by kernel_rfl) (by kernel_rfl) (by kernel_rfl) (fun _ _ _ h => h) (Or.inl ⟨by rfl, ?_⟩) e0 ?_
      rotate_left
      · intro wq hSq
        obtain ⟨z1, z2⟩ := hSq
        first | (go_simp; done) | (go_simp; with_reducible rfl)
      try simp only [Act.put, List.setIfInBounds_toArray, List.set_cons_zero, List.set_cons_succ]
      refine wpAnyH_take (i := 2) (oi := ⟨some 57, _, _, _, _, none⟩) (v := ?_) rfl (by kernel_rfl) (by kernel_rfl) (by kernel_rfl) (fun _ _ _ h => h) (Or.inl ⟨by rfl, ?_⟩) e0 ?_
      rotate_left
      · intro wq hSq
        obtain ⟨z1, z2⟩ := hSq
        first | (go_simp; done) | (go_simp; with_reducible rfl)
      try simp only [Act.put, List.setIfInBounds_toArray, List.set_cons_zero, List.set_cons_succ]
      refine wpAnyH_take (i := 3) (oi := ⟨some 58, _, _, _, _, _⟩) (v := ?_) rfl (by kernel_rfl) (by kernel_rfl) (by kernel_rfl) (fun _ _ _ h => h) (Or.inl ⟨by rfl, ?_⟩) e0 ?_
      rotate_left
      · intro wq hSq
        obtain ⟨z1, z2⟩ := hSq
        first | (go_simp; done) | (go_simp; with_reducible rfl)
      try simp only [Act.put, List.setIfInBounds_toArray, List.set_cons_zero, List.set_cons_succ]
      refine wpAnyH_take (i := 4) (oi := ⟨some 59, _, _, _, _, _⟩) (v := ?_) rfl (by kernel_rfl) (by kernel_rfl) (by kernel_rfl) (fun _ _ _ h => h) (Or.inl ⟨by rfl, ?_⟩) e0 ?_
      rotate_left
      · intro wq hSq
        obtain ⟨z1, z2⟩ := hSq
        first | (go_simp; done) | (go_simp; with_reducible rfl)
      try simp only [Act.put, List.setIfInBounds_toArray, List.set_cons_zero, List.set_cons_succ]
      refine wpAnyH_take (i := 5) (oi := ⟨some 60, _, _, _, _, none⟩) (v := ?_) rfl (by kernel_rfl) (by kernel_rfl) (by kernel_rfl) (fun _ _ _ h => h) (Or.inl ⟨by rfl, ?_⟩) e0 ?_
      rotate_left
      · intro wq hSq
        obtain ⟨z1, z2⟩ := hSq
        first | (go_simp; done) | (go_simp; with_reducible rfl)
      try simp only [Act.put, List.setIfInBounds_toArray, List.set_cons_zero, List.set_cons_succ]
      refine wpAnyH_take (i := 6) (oi := ⟨some 61, _, _, _, _, none⟩) (v := ?_) rfl (by kernel_rfl) (by kernel_rfl) (by kernel_rfl) (fun _ _ _ h => h) (Or.inl ⟨by rfl, ?_⟩) e0 ?_
      rotate_left
      · intro wq hSq
        obtain ⟨z1, z2⟩ := hSq
        first | (go_simp; done) | (go_simp; with_reducible rfl)
      try simp only [Act.put, List.setIfInBounds_toArray, List.set_cons_zero, List.set_cons_succ]
      refine wpAnyH_take (i := 7) (oi := ⟨some 62, _, _, _, _, _⟩) (v := ?_) rfl (by kernel_rfl) (by kernel_rfl) (by kernel_rfl) (fun _ _ _ h => h) (Or.inl ⟨by rfl, ?_⟩) e0 ?_
      rotate_left
      · intro wq hSq
        obtain ⟨z1, z2⟩ := hSq
        first | (go_simp; done) | (go_simp; with_reducible rfl)
      try simp only [Act.put, List.setIfInBounds_toArray, List.set_cons_zero, List.set_cons_succ]
      refine wpAnyH_take (i := 8) (oi := ⟨some 63, _, _, _, _, _⟩) (v := ?_) rfl (by kernel_rfl) (by kernel_rfl) (by kernel_rfl) (fun _ _ _ h => h) (Or.inl ⟨by rfl, ?_⟩) e0 ?_
      rotate_left
      · intro wq hSq
        obtain ⟨z1, z2⟩ := hSq
        first | (go_simp; done) | (go_simp; with_reducible rfl)
      try simp only [Act.put, List.setIfInBounds_toArray, List.set_cons_zero, List.set_cons_succ]
      refine wpAnyH_ready (rs := [9]) (by kernel_rfl) (by simp) ?_
      refine AllReadyH.cons rfl (fun K hK => ?_) AllReadyH.nil
      go_simp
      refine (RC _ (HI.out _ (hc1.trans e0.2))).mono ?_
      rintro e x1 ⟨v2, rfl, hown2, hd⟩
      have e1 : (fun W' : World => W'.heap[T5]? = some (.cells (scC s1) 26 (0, 0)) ∧ Ch [] w1 W') x1 := ⟨bkeep hd e0.1, e0.2.trans hd⟩
      refine hK.out _ _ e1 (fun _ => ?_)
      clear hK K e0 RC
      try simp only [Act.put, List.setIfInBounds_toArray, List.set_cons_zero, List.set_cons_succ]
      obtain ⟨a2, c2, rfl, _, hk2⟩ := own_kw hown2
      refine wpAnyH_ready (rs := [10]) (by kernel_rfl) (by simp) ?_
      refine AllReadyH.cons rfl (fun K hK => ?_) AllReadyH.nil
      go_simp
      refine (EQ av a2 cv c2 _ (HKV.out _ e1.2) hk2).mono ?_
      rintro e x2 ⟨rfl, hd⟩
      have e2 : (fun W' : World => W'.heap[T5]? = some (.cells (scC s1) 26 (0, 0)) ∧ Ch [] w1 W') x2 := ⟨bkeep hd e1.1, e1.2.trans hd⟩
      refine hK.out _ _ e2 (fun _ => ?_)
      clear hK K e1 EQ hk2 hown2
      try simp only [Act.put, List.setIfInBounds_toArray, List.set_cons_zero, List.set_cons_succ]
      refine wpAnyH_take (i := 11) (oi := ⟨some 66, _, _, _, _, _⟩) (v := ?_) rfl (by kernel_rfl) (by kernel_rfl) (by kernel_rfl) (fun _ _ _ h => h) (Or.inl ⟨by rfl, ?_⟩) e2 ?_
      rotate_left
      · intro wq hSq
        obtain ⟨z1, z2⟩ := hSq
        first | (go_simp; done) | (go_simp; with_reducible rfl)
      try simp only [Act.put, List.setIfInBounds_toArray, List.set_cons_zero, List.set_cons_succ]
      refine wpAnyH_take (i := 12) (oi := ⟨some 67, _, _, _, _, none⟩) (v := ?_) rfl (by kernel_rfl) (by kernel_rfl) (by kernel_rfl) (fun _ _ _ h => h) (Or.inl ⟨by rfl, ?_⟩) e2 ?_
      rotate_left
      · intro wq hSq
        obtain ⟨z1, z2⟩ := hSq
        first | (go_simp; done) | (go_simp; with_reducible rfl)
      try simp only [Act.put, List.setIfInBounds_toArray, List.set_cons_zero, List.set_cons_succ]
      refine wpAnyH_take (i := 13) (oi := ⟨some 68, _, _, _, _, none⟩) (v := ?_) rfl (by kernel_rfl) (by kernel_rfl) (by kernel_rfl) (fun _ _ _ h => h) (Or.inl ⟨by rfl, ?_⟩) e2 ?_
      rotate_left
      · intro wq hSq
        obtain ⟨z1, z2⟩ := hSq
        first | (go_simp; done) | (go_simp; with_reducible rfl)
      try simp only [Act.put, List.setIfInBounds_toArray, List.set_cons_zero, List.set_cons_succ]
      refine wpAnyH_take (i := 14) (oi := ⟨some 69, _, _, _, _, _⟩) (v := ?_) rfl (by kernel_rfl) (by kernel_rfl) (by kernel_rfl) (fun _ _ _ h => h) (Or.inl ⟨by rfl, ?_⟩) e2 ?_
      rotate_left
      · intro wq hSq
        obtain ⟨z1, z2⟩ := hSq
        first | (go_simp; done) | (go_simp; with_reducible rfl)
      try simp only [Act.put, List.setIfInBounds_toArray, List.set_cons_zero, List.set_cons_succ]
      refine wpAnyH_take (i := 15) (oi := ⟨some 70, _, _, _, _, _⟩) (v := ?_) rfl (by kernel_rfl) (by kernel_rfl) (by kernel_rfl) (fun _ _ _ h => h) (Or.inl ⟨by rfl, ?_⟩) e2 ?_
      rotate_left
      · intro wq hSq
        obtain ⟨z1, z2⟩ := hSq
        first | (go_simp; done) | (go_simp; with_reducible rfl)
      try simp only [Act.put, List.setIfInBounds_toArray, List.set_cons_zero, List.set_cons_succ]
      refine wpAnyH_ready (rs := [16]) (by kernel_rfl) (by simp) ?_
      refine AllReadyH.cons rfl (fun K hK => ?_) AllReadyH.nil
      go_simp
      refine (RP _ (HI.out _ (hc1.trans e2.2))).mono ?_
      rintro e x3 ⟨rfl, hd⟩
      have e3 : (fun W' : World => W'.heap[T5]? = some (.cells (scC s1) 26 (0, 0)) ∧ Ch [] w1 W') x3 := ⟨bkeep hd e2.1, e2.2.trans hd⟩
      refine hK.out _ _ e3 (fun _ => ?_)
      clear hK K e2 RP
      try simp only [Act.put, List.setIfInBounds_toArray, List.set_cons_zero, List.set_cons_succ]
      refine wpAnyH_take (i := 17) (oi := ⟨some 72, _, _, _, _, _⟩) (v := ?_) rfl (by kernel_rfl) (by kernel_rfl) (by kernel_rfl) (fun _ _ _ h => h) (Or.inl ⟨by rfl, ?_⟩) e3 ?_
      rotate_left
      · intro wq hSq
        obtain ⟨z1, z2⟩ := hSq
        first | (go_simp; done) | (go_simp; with_reducible rfl)
      try simp only [Act.put, List.setIfInBounds_toArray, List.set_cons_zero, List.set_cons_succ]
      refine wpAnyH_take (i := 18) (oi := ⟨some 73, _, _, _, _, none⟩) (v := ?_) rfl (by kernel_rfl) (by kernel_rfl) (by kernel_rfl) (fun _ _ _ h => h) (Or.inl ⟨by rfl, ?_⟩) e3 ?_
      rotate_left
      · intro wq hSq
        obtain ⟨z1, z2⟩ := hSq
        first | (go_simp; done) | (go_simp; with_reducible rfl)
      try simp only [Act.put, List.setIfInBounds_toArray, List.set_cons_zero, List.set_cons_succ]
      refine wpAnyH_take (i := 19) (oi := ⟨some 74, _, _, _, _, none⟩) (v := ?_) rfl (by kernel_rfl) (by kernel_rfl) (by kernel_rfl) (fun _ _ _ h => h) (Or.inl ⟨by rfl, ?_⟩) e3 ?_
      rotate_left
      · intro wq hSq
        obtain ⟨z1, z2⟩ := hSq
        first | (go_simp; done) | (go_simp; with_reducible rfl)
      try simp only [Act.put, List.setIfInBounds_toArray, List.set_cons_zero, List.set_cons_succ]
      refine wpAnyH_take (i := 20) (oi := ⟨some 75, _, _, _, _, _⟩) (v := ?_) rfl (by kernel_rfl) (by kernel_rfl) (by kernel_rfl) (fun _ _ _ h => h) (Or.inl ⟨by rfl, ?_⟩) e3 ?_
      rotate_left
      · intro wq hSq
        obtain ⟨z1, z2⟩ := hSq
        first | (go_simp; done) | (go_simp; with_reducible rfl)
      try simp only [Act.put, List.setIfInBounds_toArray, List.set_cons_zero, List.set_cons_succ]
      refine wpAnyH_take (i := 22) (oi := ⟨some 77, _, _, _, _, _⟩) (v := ?_) rfl (by kernel_rfl) (by kernel_rfl) (by kernel_rfl) (fun _ _ _ h => h) (Or.inl ⟨by rfl, ?_⟩) e3 ?_
      rotate_left
      · intro wq hSq
        obtain ⟨z1, z2⟩ := hSq
        first | (go_simp; done) | (go_simp; with_reducible rfl)
      try simp only [Act.put, List.setIfInBounds_toArray, List.set_cons_zero, List.set_cons_succ]
      refine wpAnyH_ready (rs := [21]) (by kernel_rfl) (by simp) ?_
      refine AllReadyH.cons rfl (fun K hK => ?_) AllReadyH.nil
      go_simp
      refine (EE _ (HR1.out _ (hc1.trans e3.2)) (HTT.out _ (hc1.trans e3.2))).mono ?_
      rintro e x4 ⟨rfl, hd⟩
      have e4 : (fun W' : World => W'.heap[T5]? = some (.cells (scC s1) 26 (0, 0)) ∧ Ch [] w1 W') x4 := ⟨bkeep hd e3.1, e3.2.trans hd⟩
      refine hK.out _ _ e4 (fun _ => ?_)
      clear hK K e3 EE
      try simp only [Act.put, List.setIfInBounds_toArray, List.set_cons_zero, List.set_cons_succ]
      refine wpAnyH_ready (rs := [23]) (by kernel_rfl) (by simp) ?_
      refine AllReadyH.cons rfl (fun K hK => ?_) AllReadyH.nil
      go_simp
      refine (RE _ (HI.out _ (hc1.trans e4.2))).mono ?_
      rintro e x5 ⟨rfl, hd⟩
      have e5 : (fun W' : World => W'.heap[T5]? = some (.cells (scC s1) 26 (0, 0)) ∧ Ch [] w1 W') x5 := ⟨bkeep hd e4.1, e4.2.trans hd⟩
      refine hK.out _ _ e5 (fun _ => ?_)
      clear hK K e4 RE
      try simp only [Act.put, List.setIfInBounds_toArray, List.set_cons_zero, List.set_cons_succ]
      refine wpAnyH_take (i := 24) (oi := ⟨some 79, _, _, _, _, _⟩) (v := ?_) rfl (by kernel_rfl) (by kernel_rfl) (by kernel_rfl) (fun _ _ _ h => h) (Or.inl ⟨by rfl, ?_⟩) e5 ?_
      rotate_left
      · intro wq hSq
        obtain ⟨z1, z2⟩ := hSq
        first | (go_simp; done) | (go_simp; with_reducible rfl)
      try simp only [Act.put, List.setIfInBounds_toArray, List.set_cons_zero, List.set_cons_succ]
      refine wpAnyH_take (i := 25) (oi := ⟨some 80, _, _, _, _, none⟩) (v := ?_) rfl (by kernel_rfl) (by kernel_rfl) (by kernel_rfl) (fun _ _ _ h => h) (Or.inl ⟨by rfl, ?_⟩) e5 ?_
      rotate_left
      · intro wq hSq
        obtain ⟨z1, z2⟩ := hSq
        first | (go_simp; done) | (go_simp; with_reducible rfl)
      try simp only [Act.put, List.setIfInBounds_toArray, List.set_cons_zero, List.set_cons_succ]
      refine wpAnyH_done (by kernel_rfl) ?_ _
      have c4 := hc1.trans e5.2
      have hz4 := HZ5.out _ c4
      have hz6 := HZ6.out _ c4
      obtain ⟨x6, hx6⟩ : ∃ y, x5 = y := ⟨_, rfl⟩
      rw [hx6] at c4 hz4 hz6 ⊢
      clear e5 hx6
      rcases (show checkB s2 = false ∨ checkB s2 = true by cases checkB s2 <;> simp) with hc2 | hc2
      · have HC2 := Lib.hid hc2
        have QQ := rRight3_any s2
        rw [hc2] at QQ
        clear hc2
        obtain ⟨w5, hw5, hc5, hQ⟩ := rows_two s1 s2 x6
        have c5 := c4.trans hc5
        have L1 := leastP_any [s1, s2] x6.heap.size 2 w5 (by simp) (fun s hs => by
          rcases (show s = s1 ∨ s = s2 by simpa using hs) with rfl | rfl
          · exact HR1.out _ c5
          · exact HR2.out _ c5) (HTT.out _ c5) hQ
        rw [show leastE [s1, s2] = (0, 130) by unfold leastE; simp [HC2.out], show [s1, s2].length = 2 from rfl] at L1
        dsimp only at L1
        clear hQ hc5
        go_wp2_with fail
        try rw [hw5]
        clear hw5 hz4 hz6 c4
        refine L1.mono ?_
        rintro e w6 ⟨rfl, hc6⟩
        have c6 := c5.trans hc6
        have hz := HZ5.out _ c6
        have hz2 := HZ6.out _ c6
        clear L1 c5 hc6
        have Q1 := QQ w6 (HR2.out _ c6)
        clear QQ
        clear hz
        go_wp2_with fail
        refine Q1.mono ?_
        rintro e w7 ⟨rfl, hc7⟩
        have c7 := c6.trans hc7
        clear Q1 c6 hc7 hz2
        have hz := HZ5.out _ c7
        have hB := bkeep c7 HF.out.hB
        have OA := fun (w2 : World) (h : Ch [] wc w2) => own_any a ps w2 (HRA.out.ch (HF.out.c.trans h))
        have SS := fun (w2 : World) (s3 : ScT) (h : Ch [] wc w2) (o3 : OwnSc w2 a s3 ps) => rSame_any s1 s3 (ps.take 4100) w2 (o3.g.trans HF.out.o1.g.symm) (o3.sl.trans HF.out.o1.sl.symm) (o3.sd.trans HF.out.o1.sd.symm) (o3.ls.trans HF.out.o1.ls.symm) (HF.out.o1.ch h).owned o3.owned
        have FC := Lib.hid (fun (w2 : World) (h : Ch [] wc w2) => HF.out.c.trans h)
        go_upto_region 18 with (fail)
        have e0 : (fun W' : World => W'.heap[T5]? = some (.cells (scC s1) 26 (0, 0)) ∧ W'.heap[B]? = some (.cells (scC a) 26 (0, 0)) ∧ Ch [] wc W') w7.drew := ⟨hz, hB, c7.drew⟩
        refine wp_region_held_drew (S := fun W' : World => W'.heap[T5]? = some (.cells (scC s1) 26 (0, 0)) ∧ W'.heap[B]? = some (.cells (scC a) 26 (0, 0)) ∧ Ch [] wc W') (by kernel_rfl) e0 ?_
        intro _
        simp only [List.size_toArray, List.length_cons, List.length_nil, Nat.reduceAdd]
        clear hz hB c7
        generalize w7.drew = x0 at *
        refine wpAnyH_take (i := 0) (oi := ⟨some 110, _, _, _, _, none⟩) (v := ?_) rfl (by kernel_rfl) (by kernel_rfl) (by kernel_rfl) (fun _ _ _ h => h) (Or.inl ⟨by rfl, ?_⟩) e0 ?_
        rotate_left
        · intro wq hSq
          obtain ⟨z1, z2, z3⟩ := hSq
          first | (go_simp; done) | (go_simp; with_reducible rfl)
        try simp only [Act.put, List.setIfInBounds_toArray, List.set_cons_zero, List.set_cons_succ]
        refine wpAnyH_take (i := 1) (oi := ⟨some 111, _, _, _, _, none⟩) (v := ?_) rfl (by kernel_rfl) (by kernel_rfl) (by kernel_rfl) (fun _ _ _ h => h) (Or.inl ⟨by rfl, ?_⟩) e0 ?_
        rotate_left
        · intro wq hSq
          obtain ⟨z1, z2, z3⟩ := hSq
          first | (go_simp; done) | (go_simp; with_reducible rfl)
        try simp only [Act.put, List.setIfInBounds_toArray, List.set_cons_zero, List.set_cons_succ]
        refine wpAnyH_take (i := 2) (oi := ⟨some 112, _, _, _, _, none⟩) (v := ?_) rfl (by kernel_rfl) (by kernel_rfl) (by kernel_rfl) (fun _ _ _ h => h) (Or.inl ⟨by rfl, ?_⟩) e0 ?_
        rotate_left
        · intro wq hSq
          obtain ⟨z1, z2, z3⟩ := hSq
          first | (go_simp; done) | (go_simp; with_reducible rfl)
        try simp only [Act.put, List.setIfInBounds_toArray, List.set_cons_zero, List.set_cons_succ]
        refine wpAnyH_take (i := 3) (oi := ⟨some 113, _, _, _, _, none⟩) (v := ?_) rfl (by kernel_rfl) (by kernel_rfl) (by kernel_rfl) (fun _ _ _ h => h) (Or.inl ⟨by rfl, ?_⟩) e0 ?_
        rotate_left
        · intro wq hSq
          obtain ⟨z1, z2, z3⟩ := hSq
          first | (go_simp; done) | (go_simp; with_reducible rfl)
        try simp only [Act.put, List.setIfInBounds_toArray, List.set_cons_zero, List.set_cons_succ]
        refine wpAnyH_take (i := 4) (oi := ⟨some 114, _, _, _, _, _⟩) (v := ?_) rfl (by kernel_rfl) (by kernel_rfl) (by kernel_rfl) (fun _ _ _ h => h) (Or.inl ⟨by rfl, ?_⟩) e0 ?_
        rotate_left
        · intro wq hSq
          obtain ⟨z1, z2, z3⟩ := hSq
          first | (go_simp; done) | (go_simp; with_reducible rfl)
        try simp only [Act.put, List.setIfInBounds_toArray, List.set_cons_zero, List.set_cons_succ]
        refine wpAnyH_take (i := 5) (oi := ⟨some 115, _, _, _, _, _⟩) (v := ?_) rfl (by kernel_rfl) (by kernel_rfl) (by kernel_rfl) (fun _ _ _ h => h) (Or.inl ⟨by rfl, ?_⟩) e0 ?_
        rotate_left
        · intro wq hSq
          obtain ⟨z1, z2, z3⟩ := hSq
          first | (go_simp; done) | (go_simp; with_reducible rfl)
        try simp only [Act.put, List.setIfInBounds_toArray, List.set_cons_zero, List.set_cons_succ]
        refine wpAnyH_take (i := 6) (oi := ⟨some 116, _, _, _, _, _⟩) (v := ?_) rfl (by kernel_rfl) (by kernel_rfl) (by kernel_rfl) (fun _ _ _ h => h) (Or.inl ⟨by rfl, ?_⟩) e0 ?_
        rotate_left
        · intro wq hSq
          obtain ⟨z1, z2, z3⟩ := hSq
          first | (go_simp; done) | (go_simp; with_reducible rfl)
        try simp only [Act.put, List.setIfInBounds_toArray, List.set_cons_zero, List.set_cons_succ]
        refine wpAnyH_take (i := 7) (oi := ⟨some 117, _, _, _, _, none⟩) (v := ?_) rfl (by kernel_rfl) (by kernel_rfl) (by kernel_rfl) (fun _ _ _ h => h) (Or.inl ⟨by rfl, ?_⟩) e0 ?_
        rotate_left
        · intro wq hSq
          obtain ⟨z1, z2, z3⟩ := hSq
          first | (go_simp; done) | (go_simp; with_reducible rfl)
        try simp only [Act.put, List.setIfInBounds_toArray, List.set_cons_zero, List.set_cons_succ]
        refine wpAnyH_take (i := 8) (oi := ⟨some 118, _, _, _, _, none⟩) (v := ?_) rfl (by kernel_rfl) (by kernel_rfl) (by kernel_rfl) (fun _ _ _ h => h) (Or.inl ⟨by rfl, ?_⟩) e0 ?_
        rotate_left
        · intro wq hSq
          obtain ⟨z1, z2, z3⟩ := hSq
          first | (go_simp; done) | (go_simp; with_reducible rfl)
        try simp only [Act.put, List.setIfInBounds_toArray, List.set_cons_zero, List.set_cons_succ]
        refine wpAnyH_take (i := 9) (oi := ⟨some 119, _, _, _, _, _⟩) (v := ?_) rfl (by kernel_rfl) (by kernel_rfl) (by kernel_rfl) (fun _ _ _ h => h) (Or.inl ⟨by rfl, ?_⟩) e0 ?_
        rotate_left
        · intro wq hSq
          obtain ⟨z1, z2, z3⟩ := hSq
          first | (go_simp; done) | (go_simp; with_reducible rfl)
        try simp only [Act.put, List.setIfInBounds_toArray, List.set_cons_zero, List.set_cons_succ]
        refine wpAnyH_take (i := 10) (oi := ⟨some 120, _, _, _, _, _⟩) (v := ?_) rfl (by kernel_rfl) (by kernel_rfl) (by kernel_rfl) (fun _ _ _ h => h) (Or.inl ⟨by rfl, ?_⟩) e0 ?_
        rotate_left
        · intro wq hSq
          obtain ⟨z1, z2, z3⟩ := hSq
          first | (go_simp; done) | (go_simp; with_reducible rfl)
        try simp only [Act.put, List.setIfInBounds_toArray, List.set_cons_zero, List.set_cons_succ]
        refine wpAnyH_ready (rs := [11]) (by kernel_rfl) (by simp) ?_
        refine AllReadyH.cons rfl (fun K hK => ?_) AllReadyH.nil
        go_simp
        refine (OA _ e0.2.2).mono ?_
        rintro e x1 ⟨s3, rfl, o3, hd1⟩
        have e1 : (fun W' : World => W'.heap[T5]? = some (.cells (scC s1) 26 (0, 0)) ∧ W'.heap[B]? = some (.cells (scC a) 26 (0, 0)) ∧ Ch [] wc W') x1 := ⟨bkeep hd1 e0.1, bkeep hd1 e0.2.1, e0.2.2.trans hd1⟩
        refine hK.out _ _ e1 (fun _ => ?_)
        clear hK K hd1 OA e0
        try simp only [Act.put, List.setIfInBounds_toArray, List.set_cons_zero, List.set_cons_succ]
        refine wpAnyH_ready (rs := [12]) (by kernel_rfl) (by simp) ?_
        refine AllReadyH.cons rfl (fun K hK => ?_) AllReadyH.nil
        go_simp
        refine (SS _ s3 e1.2.2 o3).mono ?_
        rintro e x2 ⟨rfl, hd2⟩
        have e2 : (fun W' : World => W'.heap[T5]? = some (.cells (scC s1) 26 (0, 0)) ∧ W'.heap[B]? = some (.cells (scC a) 26 (0, 0)) ∧ Ch [] wc W') x2 := ⟨bkeep hd2 e1.1, bkeep hd2 e1.2.1, e1.2.2.trans hd2⟩
        refine hK.out _ _ e2 (fun _ => ?_)
        clear hK K hd2 SS e1 o3
        try simp only [Act.put, List.setIfInBounds_toArray, List.set_cons_zero, List.set_cons_succ]
        refine wpAnyH_take (i := 13) (oi := ⟨some 123, _, _, _, _, none⟩) (v := ?_) rfl (by kernel_rfl) (by kernel_rfl) (by kernel_rfl) (fun _ _ _ h => h) (Or.inl ⟨by rfl, ?_⟩) e2 ?_
        rotate_left
        · intro wq hSq
          obtain ⟨z1, z2, z3⟩ := hSq
          first | (go_simp; done) | (go_simp; with_reducible rfl)
        try simp only [Act.put, List.setIfInBounds_toArray, List.set_cons_zero, List.set_cons_succ]
        refine wpAnyH_take (i := 14) (oi := ⟨some 4, _, _, _, _, none⟩) (v := ?_) rfl (by kernel_rfl) (by kernel_rfl) (by kernel_rfl) (fun _ _ _ h => h) (Or.inl ⟨by rfl, ?_⟩) e2 ?_
        rotate_left
        · intro wq hSq
          obtain ⟨z1, z2, z3⟩ := hSq
          first | (go_simp; done) | (go_simp; with_reducible rfl)
        try simp only [Act.put, List.setIfInBounds_toArray, List.set_cons_zero, List.set_cons_succ]
        refine wpAnyH_done (by kernel_rfl) ?_ _
        go_wp2_with fail
        go_ret
        exact ⟨rfl, FC.out _ e2.2.2⟩
      · have HC2 := Lib.hid hc2
        have HI2 := Lib.hid (fun (w2 : World) (c : Ch [] wc w2) => (HR2.out w2 c).right hc2)
        have QQ := rRight3_any s2
        rw [hc2] at QQ
        have RP1 := rParts_any s1
        rw [HPT.out] at RP1
        have RP2 := rParts_any s2
        obtain ⟨p2, hp2⟩ : ∃ x, ptsS s2 = x := ⟨_, rfl⟩
        have HP2 := Lib.hid hp2
        rw [hp2] at RP2
        clear hc2 hp2
        rcases (show ¬ pt ≤ 5 ∨ (pt ≤ 5 ∧ ¬ p2 ≤ 5) ∨ (pt ≤ 5 ∧ p2 ≤ 5) by omega) with h5 | ⟨h5, h6⟩ | ⟨h5, h6⟩
        · have HL := Lib.hid (show leastE [s1, s2] = (0, 2) by unfold leastE ptsB; simp [HCK.out, HC2.out, HPT.out, h5])
          have k5 : ¬ (pt : Int) ≤ 5 := by omega
          clear RP2 h5
          obtain ⟨w5, hw5, hc5, hQ⟩ := rows_two s1 s2 x6
          have c5 := c4.trans hc5
          have L1 := leastP_any [s1, s2] x6.heap.size 2 w5 (by simp) (fun s hs => by
            rcases (show s = s1 ∨ s = s2 by simpa using hs) with rfl | rfl
            · exact HR1.out _ c5
            · exact HR2.out _ c5) (HTT.out _ c5) hQ
          rw [show leastE [s1, s2] = (0, 2) by exact HL.out, show [s1, s2].length = 2 from rfl] at L1
          dsimp only at L1
          clear hQ hc5
          go_wp2_with fail
          try rw [hw5]
          clear hw5 hz4 hz6 c4
          refine L1.mono ?_
          rintro e w6 ⟨rfl, hc6⟩
          have c6 := c5.trans hc6
          have hz := HZ5.out _ c6
          have hz2 := HZ6.out _ c6
          clear L1 c5 hc6
          have Q1 := QQ w6 (HR2.out _ c6)
          clear QQ
          go_wp2_with fail
          refine Q1.mono ?_
          rintro e w7 ⟨rfl, hc7⟩
          have c7 := c6.trans hc7
          have hz7 := HZ5.out _ c7
          have Q2 := RP1 w7 (HI.out _ c7)
          clear Q1 c6 hc7 hz2 hz RP1
          go_wp2_with fail
          refine Q2.mono ?_
          rintro e w8 ⟨rfl, hc8⟩
          have c8 := c7.trans hc8
          clear Q2 c7 hc8 hz7
          have hz := HZ5.out _ c8
          have hB := bkeep c8 HF.out.hB
          have OA := fun (w2 : World) (h : Ch [] wc w2) => own_any a ps w2 (HRA.out.ch (HF.out.c.trans h))
          have SS := fun (w2 : World) (s3 : ScT) (h : Ch [] wc w2) (o3 : OwnSc w2 a s3 ps) => rSame_any s1 s3 (ps.take 4100) w2 (o3.g.trans HF.out.o1.g.symm) (o3.sl.trans HF.out.o1.sl.symm) (o3.sd.trans HF.out.o1.sd.symm) (o3.ls.trans HF.out.o1.ls.symm) (HF.out.o1.ch h).owned o3.owned
          have FC := Lib.hid (fun (w2 : World) (h : Ch [] wc w2) => HF.out.c.trans h)
          go_upto_region 18 with (fail)
          have e0 : (fun W' : World => W'.heap[T5]? = some (.cells (scC s1) 26 (0, 0)) ∧ W'.heap[B]? = some (.cells (scC a) 26 (0, 0)) ∧ Ch [] wc W') w8.drew := ⟨hz, hB, c8.drew⟩
          refine wp_region_held_drew (S := fun W' : World => W'.heap[T5]? = some (.cells (scC s1) 26 (0, 0)) ∧ W'.heap[B]? = some (.cells (scC a) 26 (0, 0)) ∧ Ch [] wc W') (by kernel_rfl) e0 ?_
          intro _
          simp only [List.size_toArray, List.length_cons, List.length_nil, Nat.reduceAdd]
          clear hz hB c8
          generalize w8.drew = x0 at *
          refine wpAnyH_take (i := 0) (oi := ⟨some 110, _, _, _, _, none⟩) (v := ?_) rfl (by kernel_rfl) (by kernel_rfl) (by kernel_rfl) (fun _ _ _ h => h) (Or.inl ⟨by rfl, ?_⟩) e0 ?_
          rotate_left
          · intro wq hSq
            obtain ⟨z1, z2, z3⟩ := hSq
            first | (go_simp; done) | (go_simp; with_reducible rfl)
          try simp only [Act.put, List.setIfInBounds_toArray, List.set_cons_zero, List.set_cons_succ]
          refine wpAnyH_take (i := 1) (oi := ⟨some 111, _, _, _, _, none⟩) (v := ?_) rfl (by kernel_rfl) (by kernel_rfl) (by kernel_rfl) (fun _ _ _ h => h) (Or.inl ⟨by rfl, ?_⟩) e0 ?_
          rotate_left
          · intro wq hSq
            obtain ⟨z1, z2, z3⟩ := hSq
            first | (go_simp; done) | (go_simp; with_reducible rfl)
          try simp only [Act.put, List.setIfInBounds_toArray, List.set_cons_zero, List.set_cons_succ]
          refine wpAnyH_take (i := 2) (oi := ⟨some 112, _, _, _, _, none⟩) (v := ?_) rfl (by kernel_rfl) (by kernel_rfl) (by kernel_rfl) (fun _ _ _ h => h) (Or.inl ⟨by rfl, ?_⟩) e0 ?_
          rotate_left
          · intro wq hSq
            obtain ⟨z1, z2, z3⟩ := hSq
            first | (go_simp; done) | (go_simp; with_reducible rfl)
          try simp only [Act.put, List.setIfInBounds_toArray, List.set_cons_zero, List.set_cons_succ]
          refine wpAnyH_take (i := 3) (oi := ⟨some 113, _, _, _, _, none⟩) (v := ?_) rfl (by kernel_rfl) (by kernel_rfl) (by kernel_rfl) (fun _ _ _ h => h) (Or.inl ⟨by rfl, ?_⟩) e0 ?_
          rotate_left
          · intro wq hSq
            obtain ⟨z1, z2, z3⟩ := hSq
            first | (go_simp; done) | (go_simp; with_reducible rfl)
          try simp only [Act.put, List.setIfInBounds_toArray, List.set_cons_zero, List.set_cons_succ]
          refine wpAnyH_take (i := 4) (oi := ⟨some 114, _, _, _, _, _⟩) (v := ?_) rfl (by kernel_rfl) (by kernel_rfl) (by kernel_rfl) (fun _ _ _ h => h) (Or.inl ⟨by rfl, ?_⟩) e0 ?_
          rotate_left
          · intro wq hSq
            obtain ⟨z1, z2, z3⟩ := hSq
            first | (go_simp; done) | (go_simp; with_reducible rfl)
          try simp only [Act.put, List.setIfInBounds_toArray, List.set_cons_zero, List.set_cons_succ]
          refine wpAnyH_take (i := 5) (oi := ⟨some 115, _, _, _, _, _⟩) (v := ?_) rfl (by kernel_rfl) (by kernel_rfl) (by kernel_rfl) (fun _ _ _ h => h) (Or.inl ⟨by rfl, ?_⟩) e0 ?_
          rotate_left
          · intro wq hSq
            obtain ⟨z1, z2, z3⟩ := hSq
            first | (go_simp; done) | (go_simp; with_reducible rfl)
          try simp only [Act.put, List.setIfInBounds_toArray, List.set_cons_zero, List.set_cons_succ]
          refine wpAnyH_take (i := 6) (oi := ⟨some 116, _, _, _, _, _⟩) (v := ?_) rfl (by kernel_rfl) (by kernel_rfl) (by kernel_rfl) (fun _ _ _ h => h) (Or.inl ⟨by rfl, ?_⟩) e0 ?_
          rotate_left
          · intro wq hSq
            obtain ⟨z1, z2, z3⟩ := hSq
            first | (go_simp; done) | (go_simp; with_reducible rfl)
          try simp only [Act.put, List.setIfInBounds_toArray, List.set_cons_zero, List.set_cons_succ]
          refine wpAnyH_take (i := 7) (oi := ⟨some 117, _, _, _, _, none⟩) (v := ?_) rfl (by kernel_rfl) (by kernel_rfl) (by kernel_rfl) (fun _ _ _ h => h) (Or.inl ⟨by rfl, ?_⟩) e0 ?_
          rotate_left
          · intro wq hSq
            obtain ⟨z1, z2, z3⟩ := hSq
            first | (go_simp; done) | (go_simp; with_reducible rfl)
          try simp only [Act.put, List.setIfInBounds_toArray, List.set_cons_zero, List.set_cons_succ]
          refine wpAnyH_take (i := 8) (oi := ⟨some 118, _, _, _, _, none⟩) (v := ?_) rfl (by kernel_rfl) (by kernel_rfl) (by kernel_rfl) (fun _ _ _ h => h) (Or.inl ⟨by rfl, ?_⟩) e0 ?_
          rotate_left
          · intro wq hSq
            obtain ⟨z1, z2, z3⟩ := hSq
            first | (go_simp; done) | (go_simp; with_reducible rfl)
          try simp only [Act.put, List.setIfInBounds_toArray, List.set_cons_zero, List.set_cons_succ]
          refine wpAnyH_take (i := 9) (oi := ⟨some 119, _, _, _, _, _⟩) (v := ?_) rfl (by kernel_rfl) (by kernel_rfl) (by kernel_rfl) (fun _ _ _ h => h) (Or.inl ⟨by rfl, ?_⟩) e0 ?_
          rotate_left
          · intro wq hSq
            obtain ⟨z1, z2, z3⟩ := hSq
            first | (go_simp; done) | (go_simp; with_reducible rfl)
          try simp only [Act.put, List.setIfInBounds_toArray, List.set_cons_zero, List.set_cons_succ]
          refine wpAnyH_take (i := 10) (oi := ⟨some 120, _, _, _, _, _⟩) (v := ?_) rfl (by kernel_rfl) (by kernel_rfl) (by kernel_rfl) (fun _ _ _ h => h) (Or.inl ⟨by rfl, ?_⟩) e0 ?_
          rotate_left
          · intro wq hSq
            obtain ⟨z1, z2, z3⟩ := hSq
            first | (go_simp; done) | (go_simp; with_reducible rfl)
          try simp only [Act.put, List.setIfInBounds_toArray, List.set_cons_zero, List.set_cons_succ]
          refine wpAnyH_ready (rs := [11]) (by kernel_rfl) (by simp) ?_
          refine AllReadyH.cons rfl (fun K hK => ?_) AllReadyH.nil
          go_simp
          refine (OA _ e0.2.2).mono ?_
          rintro e x1 ⟨s3, rfl, o3, hd1⟩
          have e1 : (fun W' : World => W'.heap[T5]? = some (.cells (scC s1) 26 (0, 0)) ∧ W'.heap[B]? = some (.cells (scC a) 26 (0, 0)) ∧ Ch [] wc W') x1 := ⟨bkeep hd1 e0.1, bkeep hd1 e0.2.1, e0.2.2.trans hd1⟩
          refine hK.out _ _ e1 (fun _ => ?_)
          clear hK K hd1 OA e0
          try simp only [Act.put, List.setIfInBounds_toArray, List.set_cons_zero, List.set_cons_succ]
          refine wpAnyH_ready (rs := [12]) (by kernel_rfl) (by simp) ?_
          refine AllReadyH.cons rfl (fun K hK => ?_) AllReadyH.nil
          go_simp
          refine (SS _ s3 e1.2.2 o3).mono ?_
          rintro e x2 ⟨rfl, hd2⟩
          have e2 : (fun W' : World => W'.heap[T5]? = some (.cells (scC s1) 26 (0, 0)) ∧ W'.heap[B]? = some (.cells (scC a) 26 (0, 0)) ∧ Ch [] wc W') x2 := ⟨bkeep hd2 e1.1, bkeep hd2 e1.2.1, e1.2.2.trans hd2⟩
          refine hK.out _ _ e2 (fun _ => ?_)
          clear hK K hd2 SS e1 o3
          try simp only [Act.put, List.setIfInBounds_toArray, List.set_cons_zero, List.set_cons_succ]
          refine wpAnyH_take (i := 13) (oi := ⟨some 123, _, _, _, _, none⟩) (v := ?_) rfl (by kernel_rfl) (by kernel_rfl) (by kernel_rfl) (fun _ _ _ h => h) (Or.inl ⟨by rfl, ?_⟩) e2 ?_
          rotate_left
          · intro wq hSq
            obtain ⟨z1, z2, z3⟩ := hSq
            first | (go_simp; done) | (go_simp; with_reducible rfl)
          try simp only [Act.put, List.setIfInBounds_toArray, List.set_cons_zero, List.set_cons_succ]
          refine wpAnyH_take (i := 14) (oi := ⟨some 4, _, _, _, _, none⟩) (v := ?_) rfl (by kernel_rfl) (by kernel_rfl) (by kernel_rfl) (fun _ _ _ h => h) (Or.inl ⟨by rfl, ?_⟩) e2 ?_
          rotate_left
          · intro wq hSq
            obtain ⟨z1, z2, z3⟩ := hSq
            first | (go_simp; done) | (go_simp; with_reducible rfl)
          try simp only [Act.put, List.setIfInBounds_toArray, List.set_cons_zero, List.set_cons_succ]
          refine wpAnyH_done (by kernel_rfl) ?_ _
          go_wp2_with fail
          go_ret
          exact ⟨rfl, FC.out _ e2.2.2⟩
        · have HL := Lib.hid (show leastE [s1, s2] = (0, 2) by unfold leastE ptsB; simp [HCK.out, HC2.out, HPT.out, HP2.out, h5, h6])
          have k5 : (pt : Int) ≤ 5 := by omega
          have k6 : ¬ (p2 : Int) ≤ 5 := by omega
          clear h5 h6
          obtain ⟨w5, hw5, hc5, hQ⟩ := rows_two s1 s2 x6
          have c5 := c4.trans hc5
          have L1 := leastP_any [s1, s2] x6.heap.size 2 w5 (by simp) (fun s hs => by
            rcases (show s = s1 ∨ s = s2 by simpa using hs) with rfl | rfl
            · exact HR1.out _ c5
            · exact HR2.out _ c5) (HTT.out _ c5) hQ
          rw [show leastE [s1, s2] = (0, 2) by exact HL.out, show [s1, s2].length = 2 from rfl] at L1
          dsimp only at L1
          clear hQ hc5
          go_wp2_with fail
          try rw [hw5]
          clear hw5 hz4 hz6 c4
          refine L1.mono ?_
          rintro e w6 ⟨rfl, hc6⟩
          have c6 := c5.trans hc6
          have hz := HZ5.out _ c6
          have hz2 := HZ6.out _ c6
          clear L1 c5 hc6
          have Q1 := QQ w6 (HR2.out _ c6)
          clear QQ
          go_wp2_with fail
          refine Q1.mono ?_
          rintro e w7 ⟨rfl, hc7⟩
          have c7 := c6.trans hc7
          have hz7 := HZ5.out _ c7
          have Q2 := RP1 w7 (HI.out _ c7)
          clear Q1 c6 hc7 hz2 hz RP1
          go_wp2_with fail
          refine Q2.mono ?_
          rintro e w8 ⟨rfl, hc8⟩
          have c8 := c7.trans hc8
          have hz8 := HZ6.out _ c8
          have Q3 := RP2 w8 (HI2.out _ c8)
          clear Q2 c7 hc8 hz7 RP2
          go_wp2_with fail
          refine Q3.mono ?_
          rintro e w9 ⟨rfl, hc9⟩
          have c9 := c8.trans hc9
          clear Q3 c8 hc9 hz8
          have hz := HZ5.out _ c9
          have hB := bkeep c9 HF.out.hB
          have OA := fun (w2 : World) (h : Ch [] wc w2) => own_any a ps w2 (HRA.out.ch (HF.out.c.trans h))
          have SS := fun (w2 : World) (s3 : ScT) (h : Ch [] wc w2) (o3 : OwnSc w2 a s3 ps) => rSame_any s1 s3 (ps.take 4100) w2 (o3.g.trans HF.out.o1.g.symm) (o3.sl.trans HF.out.o1.sl.symm) (o3.sd.trans HF.out.o1.sd.symm) (o3.ls.trans HF.out.o1.ls.symm) (HF.out.o1.ch h).owned o3.owned
          have FC := Lib.hid (fun (w2 : World) (h : Ch [] wc w2) => HF.out.c.trans h)
          go_upto_region 18 with (fail)
          have e0 : (fun W' : World => W'.heap[T5]? = some (.cells (scC s1) 26 (0, 0)) ∧ W'.heap[B]? = some (.cells (scC a) 26 (0, 0)) ∧ Ch [] wc W') w9.drew := ⟨hz, hB, c9.drew⟩
          refine wp_region_held_drew (S := fun W' : World => W'.heap[T5]? = some (.cells (scC s1) 26 (0, 0)) ∧ W'.heap[B]? = some (.cells (scC a) 26 (0, 0)) ∧ Ch [] wc W') (by kernel_rfl) e0 ?_
          intro _
          simp only [List.size_toArray, List.length_cons, List.length_nil, Nat.reduceAdd]
          clear hz hB c9
          generalize w9.drew = x0 at *
          refine wpAnyH_take (i := 0) (oi := ⟨some 110, _, _, _, _, none⟩) (v := ?_) rfl (by kernel_rfl) (by kernel_rfl) (by kernel_rfl) (fun _ _ _ h => h) (Or.inl ⟨by rfl, ?_⟩) e0 ?_
          rotate_left
          · intro wq hSq
            obtain ⟨z1, z2, z3⟩ := hSq
            first | (go_simp; done) | (go_simp; with_reducible rfl)
          try simp only [Act.put, List.setIfInBounds_toArray, List.set_cons_zero, List.set_cons_succ]
          refine wpAnyH_take (i := 1) (oi := ⟨some 111, _, _, _, _, none⟩) (v := ?_) rfl (by kernel_rfl) (by kernel_rfl) (by kernel_rfl) (fun _ _ _ h => h) (Or.inl ⟨by rfl, ?_⟩) e0 ?_
          rotate_left
          · intro wq hSq
            obtain ⟨z1, z2, z3⟩ := hSq
            first | (go_simp; done) | (go_simp; with_reducible rfl)
          try simp only [Act.put, List.setIfInBounds_toArray, List.set_cons_zero, List.set_cons_succ]
          refine wpAnyH_take (i := 2) (oi := ⟨some 112, _, _, _, _, none⟩) (v := ?_) rfl (by kernel_rfl) (by kernel_rfl) (by kernel_rfl) (fun _ _ _ h => h) (Or.inl ⟨by rfl, ?_⟩) e0 ?_
          rotate_left
          · intro wq hSq
            obtain ⟨z1, z2, z3⟩ := hSq
            first | (go_simp; done) | (go_simp; with_reducible rfl)
          try simp only [Act.put, List.setIfInBounds_toArray, List.set_cons_zero, List.set_cons_succ]
          refine wpAnyH_take (i := 3) (oi := ⟨some 113, _, _, _, _, none⟩) (v := ?_) rfl (by kernel_rfl) (by kernel_rfl) (by kernel_rfl) (fun _ _ _ h => h) (Or.inl ⟨by rfl, ?_⟩) e0 ?_
          rotate_left
          · intro wq hSq
            obtain ⟨z1, z2, z3⟩ := hSq
            first | (go_simp; done) | (go_simp; with_reducible rfl)
          try simp only [Act.put, List.setIfInBounds_toArray, List.set_cons_zero, List.set_cons_succ]
          refine wpAnyH_take (i := 4) (oi := ⟨some 114, _, _, _, _, _⟩) (v := ?_) rfl (by kernel_rfl) (by kernel_rfl) (by kernel_rfl) (fun _ _ _ h => h) (Or.inl ⟨by rfl, ?_⟩) e0 ?_
          rotate_left
          · intro wq hSq
            obtain ⟨z1, z2, z3⟩ := hSq
            first | (go_simp; done) | (go_simp; with_reducible rfl)
          try simp only [Act.put, List.setIfInBounds_toArray, List.set_cons_zero, List.set_cons_succ]
          refine wpAnyH_take (i := 5) (oi := ⟨some 115, _, _, _, _, _⟩) (v := ?_) rfl (by kernel_rfl) (by kernel_rfl) (by kernel_rfl) (fun _ _ _ h => h) (Or.inl ⟨by rfl, ?_⟩) e0 ?_
          rotate_left
          · intro wq hSq
            obtain ⟨z1, z2, z3⟩ := hSq
            first | (go_simp; done) | (go_simp; with_reducible rfl)
          try simp only [Act.put, List.setIfInBounds_toArray, List.set_cons_zero, List.set_cons_succ]
          refine wpAnyH_take (i := 6) (oi := ⟨some 116, _, _, _, _, _⟩) (v := ?_) rfl (by kernel_rfl) (by kernel_rfl) (by kernel_rfl) (fun _ _ _ h => h) (Or.inl ⟨by rfl, ?_⟩) e0 ?_
          rotate_left
          · intro wq hSq
            obtain ⟨z1, z2, z3⟩ := hSq
            first | (go_simp; done) | (go_simp; with_reducible rfl)
          try simp only [Act.put, List.setIfInBounds_toArray, List.set_cons_zero, List.set_cons_succ]
          refine wpAnyH_take (i := 7) (oi := ⟨some 117, _, _, _, _, none⟩) (v := ?_) rfl (by kernel_rfl) (by kernel_rfl) (by kernel_rfl) (fun _ _ _ h => h) (Or.inl ⟨by rfl, ?_⟩) e0 ?_
          rotate_left
          · intro wq hSq
            obtain ⟨z1, z2, z3⟩ := hSq
            first | (go_simp; done) | (go_simp; with_reducible rfl)
          try simp only [Act.put, List.setIfInBounds_toArray, List.set_cons_zero, List.set_cons_succ]
          refine wpAnyH_take (i := 8) (oi := ⟨some 118, _, _, _, _, none⟩) (v := ?_) rfl (by kernel_rfl) (by kernel_rfl) (by kernel_rfl) (fun _ _ _ h => h) (Or.inl ⟨by rfl, ?_⟩) e0 ?_
          rotate_left
          · intro wq hSq
            obtain ⟨z1, z2, z3⟩ := hSq
            first | (go_simp; done) | (go_simp; with_reducible rfl)
          try simp only [Act.put, List.setIfInBounds_toArray, List.set_cons_zero, List.set_cons_succ]
          refine wpAnyH_take (i := 9) (oi := ⟨some 119, _, _, _, _, _⟩) (v := ?_) rfl (by kernel_rfl) (by kernel_rfl) (by kernel_rfl) (fun _ _ _ h => h) (Or.inl ⟨by rfl, ?_⟩) e0 ?_
          rotate_left
          · intro wq hSq
            obtain ⟨z1, z2, z3⟩ := hSq
            first | (go_simp; done) | (go_simp; with_reducible rfl)
          try simp only [Act.put, List.setIfInBounds_toArray, List.set_cons_zero, List.set_cons_succ]
          refine wpAnyH_take (i := 10) (oi := ⟨some 120, _, _, _, _, _⟩) (v := ?_) rfl (by kernel_rfl) (by kernel_rfl) (by kernel_rfl) (fun _ _ _ h => h) (Or.inl ⟨by rfl, ?_⟩) e0 ?_
          rotate_left
          · intro wq hSq
            obtain ⟨z1, z2, z3⟩ := hSq
            first | (go_simp; done) | (go_simp; with_reducible rfl)
          try simp only [Act.put, List.setIfInBounds_toArray, List.set_cons_zero, List.set_cons_succ]
          refine wpAnyH_ready (rs := [11]) (by kernel_rfl) (by simp) ?_
          refine AllReadyH.cons rfl (fun K hK => ?_) AllReadyH.nil
          go_simp
          refine (OA _ e0.2.2).mono ?_
          rintro e x1 ⟨s3, rfl, o3, hd1⟩
          have e1 : (fun W' : World => W'.heap[T5]? = some (.cells (scC s1) 26 (0, 0)) ∧ W'.heap[B]? = some (.cells (scC a) 26 (0, 0)) ∧ Ch [] wc W') x1 := ⟨bkeep hd1 e0.1, bkeep hd1 e0.2.1, e0.2.2.trans hd1⟩
          refine hK.out _ _ e1 (fun _ => ?_)
          clear hK K hd1 OA e0
          try simp only [Act.put, List.setIfInBounds_toArray, List.set_cons_zero, List.set_cons_succ]
          refine wpAnyH_ready (rs := [12]) (by kernel_rfl) (by simp) ?_
          refine AllReadyH.cons rfl (fun K hK => ?_) AllReadyH.nil
          go_simp
          refine (SS _ s3 e1.2.2 o3).mono ?_
          rintro e x2 ⟨rfl, hd2⟩
          have e2 : (fun W' : World => W'.heap[T5]? = some (.cells (scC s1) 26 (0, 0)) ∧ W'.heap[B]? = some (.cells (scC a) 26 (0, 0)) ∧ Ch [] wc W') x2 := ⟨bkeep hd2 e1.1, bkeep hd2 e1.2.1, e1.2.2.trans hd2⟩
          refine hK.out _ _ e2 (fun _ => ?_)
          clear hK K hd2 SS e1 o3
          try simp only [Act.put, List.setIfInBounds_toArray, List.set_cons_zero, List.set_cons_succ]
          refine wpAnyH_take (i := 13) (oi := ⟨some 123, _, _, _, _, none⟩) (v := ?_) rfl (by kernel_rfl) (by kernel_rfl) (by kernel_rfl) (fun _ _ _ h => h) (Or.inl ⟨by rfl, ?_⟩) e2 ?_
          rotate_left
          · intro wq hSq
            obtain ⟨z1, z2, z3⟩ := hSq
            first | (go_simp; done) | (go_simp; with_reducible rfl)
          try simp only [Act.put, List.setIfInBounds_toArray, List.set_cons_zero, List.set_cons_succ]
          refine wpAnyH_take (i := 14) (oi := ⟨some 4, _, _, _, _, none⟩) (v := ?_) rfl (by kernel_rfl) (by kernel_rfl) (by kernel_rfl) (fun _ _ _ h => h) (Or.inl ⟨by rfl, ?_⟩) e2 ?_
          rotate_left
          · intro wq hSq
            obtain ⟨z1, z2, z3⟩ := hSq
            first | (go_simp; done) | (go_simp; with_reducible rfl)
          try simp only [Act.put, List.setIfInBounds_toArray, List.set_cons_zero, List.set_cons_succ]
          refine wpAnyH_done (by kernel_rfl) ?_ _
          go_wp2_with fail
          go_ret
          exact ⟨rfl, FC.out _ e2.2.2⟩
        · obtain ⟨mx, hmx⟩ : ∃ x, max (max 2 (lstS s1)) (lstS s2) = x := ⟨_, rfl⟩
          have HL := Lib.hid (show leastE [s1, s2] = (mx, 0) by
            have : mostS [s1, s2] = max (max 2 (lstS s1)) (lstS s2) := rfl
            unfold leastE ptsB; simp [HCK.out, HC2.out, HPT.out, HP2.out, h5, h6, this, hmx])
          have k5 : (pt : Int) ≤ 5 := by omega
          have k6 : (p2 : Int) ≤ 5 := by omega
          have hkl2 : (keysL (catL s2.ls)).length ≤ 64 := by
            have h1 := keys_len (catL s2.ls)
            have h2 := (HI2.out _ (Ch.refl _ _)).calls
            omega
          have SL1 := fun w2 => rslabs_any kn (by omega) (by omega) w2
          rw [show slabsB (kn : Int) = lstS s1 by unfold lstS; rw [HKS.out, HKN.out]] at SL1
          have SL2 := fun w2 => rslabs_any (keysL (catL s2.ls)).length (by omega) (by omega) w2
          rw [show slabsB ((keysL (catL s2.ls)).length : Int) = lstS s2 from rfl] at SL2
          have RC1 := fun w2 R => rComes_any s1 w2 R
          rw [comesR_eq, HKS.out, HKN.out] at RC1
          have RC2 := fun w2 R => rComes_any s2 w2 R
          rw [comesR_eq] at RC2
          obtain ⟨kn2, hkn2⟩ : ∃ x, (keysL (catL s2.ls)).length = x := ⟨_, rfl⟩
          rw [hkn2] at SL2 RC2
          obtain ⟨l1, hl1⟩ : ∃ x, lstS s1 = x := ⟨_, rfl⟩
          obtain ⟨l2, hl2⟩ : ∃ x, lstS s2 = x := ⟨_, rfl⟩
          rw [hl1] at SL1 hmx
          rw [hl2] at SL2 hmx
          have HMX := Lib.hid hmx
          clear h5 h6 hkn2 hl1 hl2 hkl2 hmx
          obtain ⟨w5, hw5, hc5, hQ⟩ := rows_two s1 s2 x6
          have c5 := c4.trans hc5
          have L1 := leastP_any [s1, s2] x6.heap.size 2 w5 (by simp) (fun s hs => by
            rcases (show s = s1 ∨ s = s2 by simpa using hs) with rfl | rfl
            · exact HR1.out _ c5
            · exact HR2.out _ c5) (HTT.out _ c5) hQ
          rw [show leastE [s1, s2] = (mx, 0) by exact HL.out, show [s1, s2].length = 2 from rfl] at L1
          dsimp only at L1
          clear hQ hc5
          go_wp2_with fail
          try rw [hw5]
          clear hw5 hz4 hz6 c4
          refine L1.mono ?_
          rintro e w6 ⟨rfl, hc6⟩
          have c6 := c5.trans hc6
          have hz := HZ5.out _ c6
          have hz2 := HZ6.out _ c6
          clear L1 c5 hc6
          have Q1 := QQ w6 (HR2.out _ c6)
          clear QQ
          go_wp2_with fail
          refine Q1.mono ?_
          rintro e w7 ⟨rfl, hc7⟩
          have c7 := c6.trans hc7
          have hz7 := HZ5.out _ c7
          have Q2 := RP1 w7 (HI.out _ c7)
          clear Q1 c6 hc7 hz2 hz RP1
          go_wp2_with fail
          refine Q2.mono ?_
          rintro e w8 ⟨rfl, hc8⟩
          have c8 := c7.trans hc8
          have hz8 := HZ6.out _ c8
          have Q3 := RP2 w8 (HI2.out _ c8)
          clear Q2 c7 hc8 hz7 RP2
          go_wp2_with fail
          refine Q3.mono ?_
          rintro e w9 ⟨rfl, hc9⟩
          have c9 := c8.trans hc9
          clear Q3 c8 hc9 hz8
          go_upto_region 17 with (fail)
          have e0 : (fun W' : World => W'.heap[T5]? = some (.cells (scC s1) 26 (0, 0)) ∧ W'.heap[T6]? = some (.cells (scC s2) 26 (0, 0)) ∧ Ch [] wc W') w9.drew := ⟨HZ5.out _ c9.drew, HZ6.out _ c9.drew, c9.drew⟩
          refine wp_region_held_drew (S := fun W' : World => W'.heap[T5]? = some (.cells (scC s1) 26 (0, 0)) ∧ W'.heap[T6]? = some (.cells (scC s2) 26 (0, 0)) ∧ Ch [] wc W') (by kernel_rfl) e0 ?_
          intro _
          simp only [List.size_toArray, List.length_cons, List.length_nil, Nat.reduceAdd]
          clear c9
          generalize w9.drew = y0 at *
          refine wpAnyH_take (i := 0) (oi := ⟨some 101, _, _, _, _, none⟩) (v := ?_) rfl (by kernel_rfl) (by kernel_rfl) (by kernel_rfl) (fun _ _ _ h => h) (Or.inl ⟨by rfl, ?_⟩) e0 ?_
          rotate_left
          · intro wq hSq
            obtain ⟨z1, z2, z3⟩ := hSq
            first | (go_simp; done) | (go_simp; with_reducible rfl)
          try simp only [Act.put, List.setIfInBounds_toArray, List.set_cons_zero, List.set_cons_succ]
          refine wpAnyH_take (i := 4) (oi := ⟨some 105, _, _, _, _, none⟩) (v := ?_) rfl (by kernel_rfl) (by kernel_rfl) (by kernel_rfl) (fun _ _ _ h => h) (Or.inl ⟨by rfl, ?_⟩) e0 ?_
          rotate_left
          · intro wq hSq
            obtain ⟨z1, z2, z3⟩ := hSq
            first | (go_simp; done) | (go_simp; with_reducible rfl)
          try simp only [Act.put, List.setIfInBounds_toArray, List.set_cons_zero, List.set_cons_succ]
          refine wpAnyH_ready (rs := [1]) (by kernel_rfl) (by simp) ?_
          refine AllReadyH.cons rfl (fun K hK => ?_) AllReadyH.nil
          go_simp
          refine (RC1 _ (HI.out _ e0.2.2)).mono ?_
          rintro e y1 ⟨v2, rfl, hown2, hd⟩
          have e1 : (fun W' : World => W'.heap[T5]? = some (.cells (scC s1) 26 (0, 0)) ∧ W'.heap[T6]? = some (.cells (scC s2) 26 (0, 0)) ∧ Ch [] wc W') y1 := ⟨bkeep hd e0.1, bkeep hd e0.2.1, e0.2.2.trans hd⟩
          refine hK.out _ _ e1 (fun _ => ?_)
          clear hK K e0 hd RC1
          try simp only [Act.put, List.setIfInBounds_toArray, List.set_cons_zero, List.set_cons_succ]
          obtain ⟨a2, c2, rfl⟩ := own_val hown2
          clear hown2
          refine wpAnyH_ready (rs := [2]) (by kernel_rfl) (by simp) ?_
          refine AllReadyH.cons rfl (fun K hK => ?_) AllReadyH.nil
          go_simp
          refine hK.out _ _ e1 (fun _ => ?_)
          clear hK K
          try simp only [Act.put, List.setIfInBounds_toArray, List.set_cons_zero, List.set_cons_succ]
          refine wpAnyH_ready (rs := [3]) (by kernel_rfl) (by simp) ?_
          refine AllReadyH.cons rfl (fun K hK => ?_) AllReadyH.nil
          go_simp
          refine (SL1 _).mono ?_
          rintro e y2 ⟨rfl, hd⟩
          have e2 : (fun W' : World => W'.heap[T5]? = some (.cells (scC s1) 26 (0, 0)) ∧ W'.heap[T6]? = some (.cells (scC s2) 26 (0, 0)) ∧ Ch [] wc W') y2 := ⟨bkeep hd e1.1, bkeep hd e1.2.1, e1.2.2.trans hd⟩
          refine hK.out _ _ e2 (fun _ => ?_)
          clear hK K e1 hd SL1
          try simp only [Act.put, List.setIfInBounds_toArray, List.set_cons_zero, List.set_cons_succ]
          refine wpAnyH_ready (rs := [5]) (by kernel_rfl) (by simp) ?_
          refine AllReadyH.cons rfl (fun K hK => ?_) AllReadyH.nil
          go_simp
          refine (RC2 _ (HI2.out _ e2.2.2)).mono ?_
          rintro e y3 ⟨v3, rfl, hown3, hd⟩
          have e3 : (fun W' : World => W'.heap[T5]? = some (.cells (scC s1) 26 (0, 0)) ∧ W'.heap[T6]? = some (.cells (scC s2) 26 (0, 0)) ∧ Ch [] wc W') y3 := ⟨bkeep hd e2.1, bkeep hd e2.2.1, e2.2.2.trans hd⟩
          refine hK.out _ _ e3 (fun _ => ?_)
          clear hK K e2 hd RC2
          try simp only [Act.put, List.setIfInBounds_toArray, List.set_cons_zero, List.set_cons_succ]
          obtain ⟨a3, c3, rfl⟩ := own_val hown3
          clear hown3
          refine wpAnyH_ready (rs := [6]) (by kernel_rfl) (by simp) ?_
          refine AllReadyH.cons rfl (fun K hK => ?_) AllReadyH.nil
          go_simp
          refine hK.out _ _ e3 (fun _ => ?_)
          clear hK K
          try simp only [Act.put, List.setIfInBounds_toArray, List.set_cons_zero, List.set_cons_succ]
          refine wpAnyH_ready (rs := [7]) (by kernel_rfl) (by simp) ?_
          refine AllReadyH.cons rfl (fun K hK => ?_) AllReadyH.nil
          go_simp
          refine (SL2 _).mono ?_
          rintro e y5 ⟨rfl, hd⟩
          have e5 : (fun W' : World => W'.heap[T5]? = some (.cells (scC s1) 26 (0, 0)) ∧ W'.heap[T6]? = some (.cells (scC s2) 26 (0, 0)) ∧ Ch [] wc W') y5 := ⟨bkeep hd e3.1, bkeep hd e3.2.1, e3.2.2.trans hd⟩
          refine hK.out _ _ e5 (fun _ => ?_)
          clear hK K e3 hd SL2
          try simp only [Act.put, List.setIfInBounds_toArray, List.set_cons_zero, List.set_cons_succ]
          refine wpAnyH_ready (rs := [8]) (by kernel_rfl) (by simp) ?_
          refine AllReadyH.cons rfl (fun K hK => ?_) AllReadyH.nil
          go_simp
          rw [show (if (if 2 < l1 then l1 else 2) < l2 then l2 else if 2 < l1 then l1 else 2) = mx by (have := HMX.out; (repeat' split) <;> omega)]
          refine hK.out _ _ e5 (fun _ => ?_)
          clear hK K
          try simp only [Act.put, List.setIfInBounds_toArray, List.set_cons_zero, List.set_cons_succ]
          refine wpAnyH_take (i := 9) (oi := ⟨some 14, _, _, _, _, none⟩) (v := ?_) rfl (by kernel_rfl) (by kernel_rfl) (by kernel_rfl) (fun _ _ _ h => h) (Or.inl ⟨by rfl, ?_⟩) e5 ?_
          rotate_left
          · intro wq hSq
            obtain ⟨z1, z2, z3⟩ := hSq
            first | (go_simp; done) | (go_simp; with_reducible rfl)
          try simp only [Act.put, List.setIfInBounds_toArray, List.set_cons_zero, List.set_cons_succ]
          refine wpAnyH_take (i := 10) (oi := ⟨some 15, _, _, _, _, none⟩) (v := ?_) rfl (by kernel_rfl) (by kernel_rfl) (by kernel_rfl) (fun _ _ _ h => h) (Or.inl ⟨by rfl, ?_⟩) e5 ?_
          rotate_left
          · intro wq hSq
            obtain ⟨z1, z2, z3⟩ := hSq
            first | (go_simp; done) | (go_simp; with_reducible rfl)
          try simp only [Act.put, List.setIfInBounds_toArray, List.set_cons_zero, List.set_cons_succ]
          refine wpAnyH_done (by kernel_rfl) ?_ _
          have cA := e5.2.2
          clear e5
          have hz := HZ5.out _ cA
          have hB := bkeep cA HF.out.hB
          have OA := fun (w2 : World) (h : Ch [] wc w2) => own_any a ps w2 (HRA.out.ch (HF.out.c.trans h))
          have SS := fun (w2 : World) (s3 : ScT) (h : Ch [] wc w2) (o3 : OwnSc w2 a s3 ps) => rSame_any s1 s3 (ps.take 4100) w2 (o3.g.trans HF.out.o1.g.symm) (o3.sl.trans HF.out.o1.sl.symm) (o3.sd.trans HF.out.o1.sd.symm) (o3.ls.trans HF.out.o1.ls.symm) (HF.out.o1.ch h).owned o3.owned
          have FC := Lib.hid (fun (w2 : World) (h : Ch [] wc w2) => HF.out.c.trans h)
          go_upto_region 18 with (fail)
          have e0 : (fun W' : World => W'.heap[T5]? = some (.cells (scC s1) 26 (0, 0)) ∧ W'.heap[B]? = some (.cells (scC a) 26 (0, 0)) ∧ Ch [] wc W') y5.drew := ⟨hz, hB, cA.drew⟩
          refine wp_region_held_drew (S := fun W' : World => W'.heap[T5]? = some (.cells (scC s1) 26 (0, 0)) ∧ W'.heap[B]? = some (.cells (scC a) 26 (0, 0)) ∧ Ch [] wc W') (by kernel_rfl) e0 ?_
          intro _
          simp only [List.size_toArray, List.length_cons, List.length_nil, Nat.reduceAdd]
          clear hz hB cA
          generalize y5.drew = x0 at *
          refine wpAnyH_take (i := 0) (oi := ⟨some 110, _, _, _, _, none⟩) (v := ?_) rfl (by kernel_rfl) (by kernel_rfl) (by kernel_rfl) (fun _ _ _ h => h) (Or.inl ⟨by rfl, ?_⟩) e0 ?_
          rotate_left
          · intro wq hSq
            obtain ⟨z1, z2, z3⟩ := hSq
            first | (go_simp; done) | (go_simp; with_reducible rfl)
          try simp only [Act.put, List.setIfInBounds_toArray, List.set_cons_zero, List.set_cons_succ]
          refine wpAnyH_take (i := 1) (oi := ⟨some 111, _, _, _, _, none⟩) (v := ?_) rfl (by kernel_rfl) (by kernel_rfl) (by kernel_rfl) (fun _ _ _ h => h) (Or.inl ⟨by rfl, ?_⟩) e0 ?_
          rotate_left
          · intro wq hSq
            obtain ⟨z1, z2, z3⟩ := hSq
            first | (go_simp; done) | (go_simp; with_reducible rfl)
          try simp only [Act.put, List.setIfInBounds_toArray, List.set_cons_zero, List.set_cons_succ]
          refine wpAnyH_take (i := 2) (oi := ⟨some 112, _, _, _, _, none⟩) (v := ?_) rfl (by kernel_rfl) (by kernel_rfl) (by kernel_rfl) (fun _ _ _ h => h) (Or.inl ⟨by rfl, ?_⟩) e0 ?_
          rotate_left
          · intro wq hSq
            obtain ⟨z1, z2, z3⟩ := hSq
            first | (go_simp; done) | (go_simp; with_reducible rfl)
          try simp only [Act.put, List.setIfInBounds_toArray, List.set_cons_zero, List.set_cons_succ]
          refine wpAnyH_take (i := 3) (oi := ⟨some 113, _, _, _, _, none⟩) (v := ?_) rfl (by kernel_rfl) (by kernel_rfl) (by kernel_rfl) (fun _ _ _ h => h) (Or.inl ⟨by rfl, ?_⟩) e0 ?_
          rotate_left
          · intro wq hSq
            obtain ⟨z1, z2, z3⟩ := hSq
            first | (go_simp; done) | (go_simp; with_reducible rfl)
          try simp only [Act.put, List.setIfInBounds_toArray, List.set_cons_zero, List.set_cons_succ]
          refine wpAnyH_take (i := 4) (oi := ⟨some 114, _, _, _, _, _⟩) (v := ?_) rfl (by kernel_rfl) (by kernel_rfl) (by kernel_rfl) (fun _ _ _ h => h) (Or.inl ⟨by rfl, ?_⟩) e0 ?_
          rotate_left
          · intro wq hSq
            obtain ⟨z1, z2, z3⟩ := hSq
            first | (go_simp; done) | (go_simp; with_reducible rfl)
          try simp only [Act.put, List.setIfInBounds_toArray, List.set_cons_zero, List.set_cons_succ]
          refine wpAnyH_take (i := 5) (oi := ⟨some 115, _, _, _, _, _⟩) (v := ?_) rfl (by kernel_rfl) (by kernel_rfl) (by kernel_rfl) (fun _ _ _ h => h) (Or.inl ⟨by rfl, ?_⟩) e0 ?_
          rotate_left
          · intro wq hSq
            obtain ⟨z1, z2, z3⟩ := hSq
            first | (go_simp; done) | (go_simp; with_reducible rfl)
          try simp only [Act.put, List.setIfInBounds_toArray, List.set_cons_zero, List.set_cons_succ]
          refine wpAnyH_take (i := 6) (oi := ⟨some 116, _, _, _, _, _⟩) (v := ?_) rfl (by kernel_rfl) (by kernel_rfl) (by kernel_rfl) (fun _ _ _ h => h) (Or.inl ⟨by rfl, ?_⟩) e0 ?_
          rotate_left
          · intro wq hSq
            obtain ⟨z1, z2, z3⟩ := hSq
            first | (go_simp; done) | (go_simp; with_reducible rfl)
          try simp only [Act.put, List.setIfInBounds_toArray, List.set_cons_zero, List.set_cons_succ]
          refine wpAnyH_take (i := 7) (oi := ⟨some 117, _, _, _, _, none⟩) (v := ?_) rfl (by kernel_rfl) (by kernel_rfl) (by kernel_rfl) (fun _ _ _ h => h) (Or.inl ⟨by rfl, ?_⟩) e0 ?_
          rotate_left
          · intro wq hSq
            obtain ⟨z1, z2, z3⟩ := hSq
            first | (go_simp; done) | (go_simp; with_reducible rfl)
          try simp only [Act.put, List.setIfInBounds_toArray, List.set_cons_zero, List.set_cons_succ]
          refine wpAnyH_take (i := 8) (oi := ⟨some 118, _, _, _, _, none⟩) (v := ?_) rfl (by kernel_rfl) (by kernel_rfl) (by kernel_rfl) (fun _ _ _ h => h) (Or.inl ⟨by rfl, ?_⟩) e0 ?_
          rotate_left
          · intro wq hSq
            obtain ⟨z1, z2, z3⟩ := hSq
            first | (go_simp; done) | (go_simp; with_reducible rfl)
          try simp only [Act.put, List.setIfInBounds_toArray, List.set_cons_zero, List.set_cons_succ]
          refine wpAnyH_take (i := 9) (oi := ⟨some 119, _, _, _, _, _⟩) (v := ?_) rfl (by kernel_rfl) (by kernel_rfl) (by kernel_rfl) (fun _ _ _ h => h) (Or.inl ⟨by rfl, ?_⟩) e0 ?_
          rotate_left
          · intro wq hSq
            obtain ⟨z1, z2, z3⟩ := hSq
            first | (go_simp; done) | (go_simp; with_reducible rfl)
          try simp only [Act.put, List.setIfInBounds_toArray, List.set_cons_zero, List.set_cons_succ]
          refine wpAnyH_take (i := 10) (oi := ⟨some 120, _, _, _, _, _⟩) (v := ?_) rfl (by kernel_rfl) (by kernel_rfl) (by kernel_rfl) (fun _ _ _ h => h) (Or.inl ⟨by rfl, ?_⟩) e0 ?_
          rotate_left
          · intro wq hSq
            obtain ⟨z1, z2, z3⟩ := hSq
            first | (go_simp; done) | (go_simp; with_reducible rfl)
          try simp only [Act.put, List.setIfInBounds_toArray, List.set_cons_zero, List.set_cons_succ]
          refine wpAnyH_ready (rs := [11]) (by kernel_rfl) (by simp) ?_
          refine AllReadyH.cons rfl (fun K hK => ?_) AllReadyH.nil
          go_simp
          refine (OA _ e0.2.2).mono ?_
          rintro e x1 ⟨s3, rfl, o3, hd1⟩
          have e1 : (fun W' : World => W'.heap[T5]? = some (.cells (scC s1) 26 (0, 0)) ∧ W'.heap[B]? = some (.cells (scC a) 26 (0, 0)) ∧ Ch [] wc W') x1 := ⟨bkeep hd1 e0.1, bkeep hd1 e0.2.1, e0.2.2.trans hd1⟩
          refine hK.out _ _ e1 (fun _ => ?_)
          clear hK K hd1 OA e0
          try simp only [Act.put, List.setIfInBounds_toArray, List.set_cons_zero, List.set_cons_succ]
          refine wpAnyH_ready (rs := [12]) (by kernel_rfl) (by simp) ?_
          refine AllReadyH.cons rfl (fun K hK => ?_) AllReadyH.nil
          go_simp
          refine (SS _ s3 e1.2.2 o3).mono ?_
          rintro e x2 ⟨rfl, hd2⟩
          have e2 : (fun W' : World => W'.heap[T5]? = some (.cells (scC s1) 26 (0, 0)) ∧ W'.heap[B]? = some (.cells (scC a) 26 (0, 0)) ∧ Ch [] wc W') x2 := ⟨bkeep hd2 e1.1, bkeep hd2 e1.2.1, e1.2.2.trans hd2⟩
          refine hK.out _ _ e2 (fun _ => ?_)
          clear hK K hd2 SS e1 o3
          try simp only [Act.put, List.setIfInBounds_toArray, List.set_cons_zero, List.set_cons_succ]
          refine wpAnyH_take (i := 13) (oi := ⟨some 123, _, _, _, _, none⟩) (v := ?_) rfl (by kernel_rfl) (by kernel_rfl) (by kernel_rfl) (fun _ _ _ h => h) (Or.inl ⟨by rfl, ?_⟩) e2 ?_
          rotate_left
          · intro wq hSq
            obtain ⟨z1, z2, z3⟩ := hSq
            first | (go_simp; done) | (go_simp; with_reducible rfl)
          try simp only [Act.put, List.setIfInBounds_toArray, List.set_cons_zero, List.set_cons_succ]
          refine wpAnyH_take (i := 14) (oi := ⟨some 4, _, _, _, _, none⟩) (v := ?_) rfl (by kernel_rfl) (by kernel_rfl) (by kernel_rfl) (fun _ _ _ h => h) (Or.inl ⟨by rfl, ?_⟩) e2 ?_
          rotate_left
          · intro wq hSq
            obtain ⟨z1, z2, z3⟩ := hSq
            first | (go_simp; done) | (go_simp; with_reducible rfl)
          try simp only [Act.put, List.setIfInBounds_toArray, List.set_cons_zero, List.set_cons_succ]
          refine wpAnyH_done (by kernel_rfl) ?_ _
          go_wp2_with fail
          go_ret
          exact ⟨rfl, FC.out _ e2.2.2⟩
end Go.Proofs.Hc
