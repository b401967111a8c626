/- Law 19: WriteSteps, the walk (printed by gen_steps19.py). -/
import Derived.Test.YtmfajobocpaimaaGreatKHdh
import Derived.Test.YtmfajobocpaimaaGreatKHcg
import Derived.Test.YtmfajobocpaimaaGreatKHci
import Derived.Test.YtmfajobocpaimaaGreatKHcy
import Derived.Test.YtmfajobocpaimaaGreatKHde
import Derived.Test.YtmfajobocpaimaaGreatKHdi
import Derived.Test.YtmfajobocpaimaaGreatKHdk
import Derived.Test.YtmfajobocpaimaaGreatKHdo
import Derived.Test.YtmfajobocpaimaaGreatKHdv
import Derived.Test.YtmfajobocpaimaaGreatKHm
import Derived.Test.YtmfajobocpaimaaGreatKHxg
import Derived.Test.YtmfajobocpaimaaGreatKHnac
import Derived.Test.YtmfajobocpaimaaGreatKHnf
import Derived.Test.YtmfajobocpaimaaGreatKHnw
import Derived.Test.YtmfajobocpaimaaGreatKHq
import Derived.Test.YtmfajobocpaimaaGreatKHop2
import Derived.Test.YtmfajobocpaimaaGreatKHye
import Derived.Below
import Derived.BigQuiet
import Derived.ChangeKeysEq
import Derived.Deep.Draws
import Derived.Deep.Light
import Derived.Deep.OwnRows
import Derived.Deep.QuietTactic
import Derived.Deep.RegionHeld
import Derived.Deep.Slices
import Derived.IntWalk
import Derived.Laws.CopyOwn
import Derived.Laws.CopyRow
import Derived.Laws.StructEq
import Derived.Laws.Tables
import Derived.Lib.AppendZerosOnto
import Derived.Lib.Hide
import Derived.Lib.Tables
import Derived.Lib.Walk
import Derived.LoopIn
import Derived.LoopN
import Derived.LoopNIn
import Derived.Maps.AppendAt
import Derived.Maps.Views
import Derived.OpenShut
import Derived.OwnWalkIn
import Derived.ProofKit
import Derived.RangeFuncBox
import Derived.RangeFuncCalls
import Derived.RangeFuncRecord
import Derived.RangeFuncSeq
import Derived.Recover
import Derived.RegionTactic
import Derived.ScopeJumps
import Derived.Shelf.Slices.Clone
import Derived.StillTail
import Derived.StillTailTactics
import Derived.TacticsInMore
import Derived.Test.YtmfajobocpaimaaGreatProg
import Derived.WalkKit
import Derived.WalkLawsBesides
import Derived.WalkMore
import Derived.WalkSpells
set_option linter.unusedSimpArgs false
set_option linter.unusedVariables false
namespace Go.Proofs.Hc
open Go.RowKit
attribute [local go_sem] wrap_u64 wrap_u8 bits_xor64 bits_and64 bits_or64 bits_not64 bits_xor8 bits_and8 bits_or8 signed64 signed8 ofInt_N BitVec.ofInt_add BitVec.ofInt_mul ofInt_sub' ofInt8_N64 ofInt64_N8 wide8 eqN neN shr_pow shr1 shr7 shr56
attribute [local go_sem high] bits_com64 shl_wrap
attribute [local go_sem] cell_heap ice_heap cellAt_cells iceAt_cells setAt_cells rowAt_cells canLay_cells laidAt_cells size_onObj size_setCell rowRes_some layRes_true
attribute [local go_sem] load26 load73 load23 store26 build73
attribute [local go_sem ↓] lrow26 lrow73 lrow23 srow26 zero26 brow73 heap_alloc heap_drew heap_drewN heap_setCell heap_onObj
attribute [local go_sem] tcells_size hcells_size tcells_get hcells_get tcells_one hcells_one hcells_table tcells_table hcells_all hcells_ctrl tcells_ctrl
attribute [local go_sem] nn2 nm2 nn3 nm3 nn4 nm4 nn5 nm5 nn6 nm6 nn7 nm7 nn8 nm8
attribute [local go_sem] nn2 nm2 nn3 nm3 nn4 nm4 nn5 nm5 nn6 nm6 nn7 nm7 nn8 nm8
attribute [local go_sem] ofInt_N ofInt_pow8
attribute [local go_sem] Oper.semAt_some make_func1
attribute [local go_sem] pen_g0 pen_g1 pen_g2 pen_g3 pen_g4 pen_g5 pen_g6 pen_g7 pen_g8 pen_g9 pen_g10 pen_g11 pen_g12 pen_g13 pen_g14 pen_g15 pen_g16 pen_g17 penC_size penC_one penC_all
attribute [local irreducible] penC
attribute [local go_sem] pen_s0 pen_s1 pen_s2 pen_s3 pen_s4 pen_s5 pen_s6 pen_s7 pen_s8 pen_s9 pen_s10 pen_s11 pen_s12 pen_s13 pen_s14 pen_s15 pen_s16 pen_s17
attribute [local go_sem] boxPen loadPen storePen buildPen0
attribute [local go_sem ↓] lrowPen srowPen wzeroPen_run browPen
attribute [local go_sem high] wlaidAt_pen
theorem eqin_pen (p : PenT) (w : World) : (Op.equalIn 10000 71 (.agg (penC p)) (.agg (penC p))).run Tryz.prog w = .ok true w := self_pen 9997 p w
attribute [local go_sem] guardPen
attribute [local go_sem ↓] eqin_pen eql_pen neq_pen
theorem wStep_is {l : List (BitVec 64)} {p : PenT} {n : Nat} {z : List (BitVec 64) × PenT} (h1 : 1 ≤ n) (hn : n ≤ 8192) (hl : l.length = n) (hr : rightP p = true) (hz : stepP l p = some z) (r c : Nat) (cur : Array Value) (hw : WordsAt cur l) (w : World) (hb : w.heap[r]? = some (.cells cur 22 (0, 0))) :
    Calls Tryz.prog 43 #[.slice (some ⟨r, 0, none⟩) n c, .agg (penC p)] w fun e w' => ∃ R, e = .returned (.tuple #[.slice (some ⟨R, 0, none⟩) n n, .agg (penC z.2), I 0]) ∧ z.1.length = n ∧ w.heap.size ≤ R ∧ w'.heap[R]? = some (.cells (wcells z.1) 22 (0, 0)) ∧ Ch [] w w' := by
  subst hl
  refine (wStep_any l r c cur p w h1 hn hb hw hr).mono ?_
  intro e w' h
  unfold StepPost at h
  rw [hz] at h
  obtain ⟨R, rfl, hrow, hyl, hC⟩ := h
  exact ⟨R, by rw [hyl], hyl, hrow.1, hrow.2, hC⟩
theorem wStep_isnt {l : List (BitVec 64)} {p : PenT} {n : Nat} (h1 : 1 ≤ n) (hn : n ≤ 8192) (hl : l.length = n) (hr : rightP p = true) (hz : stepP l p = none) (r c : Nat) (cur : Array Value) (hw : WordsAt cur l) (w : World) (hb : w.heap[r]? = some (.cells cur 22 (0, 0))) :
    Calls Tryz.prog 43 #[.slice (some ⟨r, 0, none⟩) n c, .agg (penC p)] w fun e w' => e = .returned (.tuple #[.slice none 0 0, .agg (penC zeroPen), I 2]) ∧ Ch [] w w' := by
  subst hl
  refine (wStep_any l r c cur p w h1 hn hb hw hr).mono ?_
  intro e w' h
  unfold StepPost at h
  rw [hz] at h
  exact h
theorem rStep_is {l : List (BitVec 64)} {p : PenT} {n : Nat} {z : List (BitVec 64) × PenT} (h1 : 1 ≤ n) (hn : n ≤ 8192) (hl : l.length = n) (hz : stepP l p = some z) (r c : Nat) (cur : Array Value) (hw : WordsAt cur l) (w : World) (hb : w.heap[r]? = some (.cells cur 22 (0, 0))) :
    Calls Tryz.prog 45 #[.slice (some ⟨r, 0, none⟩) n c, .agg (penC p)] w fun e w' => ∃ R c2 cur2, e = .returned (.tuple #[.slice (some ⟨R, 0, none⟩) n c2, .agg (penC z.2), .bool true]) ∧ WordsAt cur2 z.1 ∧ w'.heap[R]? = some (.cells cur2 22 (0, 0)) ∧ Ch [] w w' := by
  subst hl
  refine (r19Step_any l r c cur p w hn hb hw).mono ?_
  intro e w' h
  unfold StepR at h
  unfold stepP at hz
  cases ha : needP p with
  | none =>
    rw [ha] at h hz
    dsimp only at h hz
    have hz := Option.some.inj hz
    subst hz
    obtain ⟨rfl, hC⟩ := h
    exact ⟨r, c, cur, rfl, hw, hkeep hC hb, hC⟩
  | some a =>
    rw [ha] at h hz
    dsimp only at h hz
    cases hd : doP l a with
    | none => rw [hd] at hz; cases hz
    | some y =>
      rw [hd] at h hz
      dsimp only at h
      have hz : (y.1, takeP p y.2) = z := Option.some.inj hz
      subst hz
      obtain ⟨R, c2, base, rfl, _, ho, hC⟩ := h
      obtain ⟨r', c', cur', hv, hl', hW, hA⟩ := RowIn.own ho h1
      have hv := hv
      simp only [Value.slice.injEq] at hv
      obtain ⟨rfl, _, rfl⟩ := hv
      exact ⟨r', c2, cur', rfl, hA, hW, hC⟩
theorem rStep_isnt {l : List (BitVec 64)} {p : PenT} {n : Nat} (hn : n ≤ 8192) (hl : l.length = n) (hz : stepP l p = none) (r c : Nat) (cur : Array Value) (hw : WordsAt cur l) (w : World) (hb : w.heap[r]? = some (.cells cur 22 (0, 0))) :
    Calls Tryz.prog 45 #[.slice (some ⟨r, 0, none⟩) n c, .agg (penC p)] w fun e w' => e = .returned (.tuple #[.slice none 0 0, .agg (penC zeroPen), .bool false]) ∧ Ch [] w w' := by
  subst hl
  refine (r19Step_any l r c cur p w hn hb hw).mono ?_
  intro e w' h
  unfold StepR at h
  unfold stepP at hz
  cases ha : needP p with
  | none => rw [ha] at hz; cases hz
  | some a =>
    rw [ha] at h hz
    dsimp only at h hz
    cases hd : doP l a with
    | none => rw [hd] at h; exact h
    | some y => rw [hd] at hz; cases hz
theorem own_row {w : World} {base n : Nat} {v : Value} {l : List (BitVec 64)} (h : w.ownsRow base 22 1 v n (l.map fun x => U x)) (h1 : 1 ≤ n) : ∃ r c cur, v = .slice (some ⟨r, 0, none⟩) n c ∧ base ≤ r ∧ l.length = n ∧ WordsAt cur l ∧ w.heap[r]? = some (.cells cur 22 (0, 0)) := by
  obtain ⟨r0, c0, cur0, hv0, hl0, hW0, hA0⟩ := RowIn.own h h1
  obtain ⟨hlen, ⟨_, h0⟩ | ⟨r, c, cur, rfl, hb, hW, _⟩⟩ := h
  · omega
  · simp only [Value.slice.injEq, Option.some.injEq, Addr.mk.injEq] at hv0
    obtain ⟨⟨rfl, _⟩, _, rfl⟩ := hv0
    rw [hW0] at hW
    have := Option.some.inj hW
    injection this with e1
    subst e1
    exact ⟨r, c, cur0, rfl, hb, hl0, hA0, hW0⟩
theorem eq_nil (w : World) : Calls Tryz.prog 46 #[.slice none 0 0, .slice none 0 0] w fun e w' => e = .returned (.bool true) ∧ Ch [] w w' :=
  eqWords_any [] none none 0 0 #[] #[] w (by simp) (by intro j x h; cases h) (by simp) (by intro r h; cases h) (by intro j x h; cases h) (by simp) (by intro r h; cases h)
theorem eq_rows {l : List (BitVec 64)} {n : Nat} (hn : n ≤ 900000) (hl : l.length = n) (R R2 c d : Nat) (cur cur2 : Array Value) (h1 : WordsAt cur l) (h2 : WordsAt cur2 l) (w : World) (hb : w.heap[R]? = some (.cells cur 22 (0, 0))) (hb2 : w.heap[R2]? = some (.cells cur2 22 (0, 0))) :
    Calls Tryz.prog 46 #[.slice (some ⟨R, 0, none⟩) n c, .slice (some ⟨R2, 0, none⟩) n d] w fun e w' => e = .returned (.bool true) ∧ Ch [] w w' := by
  subst hl
  exact eqWords_any l _ _ c d cur cur2 w hn h1 (fun _ => ⟨R, rfl⟩) (fun r h => by cases h; exact hb) h2 (fun _ => ⟨R2, rfl⟩) (fun r h => by cases h; exact hb2)
theorem clone_rows {l : List (BitVec 64)} {n : Nat} (h1 : 1 ≤ n) (hn : n ≤ 900000) (hl : l.length = n) (R c : Nat) (cur : Array Value) (hw : WordsAt cur l) (w : World) (hb : w.heap[R]? = some (.cells cur 22 (0, 0))) :
    Calls Tryz.prog 47 #[.slice (some ⟨R, 0, none⟩) n c] w fun e w' => ∃ r c' cur', e = .returned (.slice (some ⟨r, 0, none⟩) n c') ∧ w.heap.size ≤ r ∧ WordsAt cur' l ∧ w'.heap[r]? = some (.cells cur' 22 (0, 0)) ∧ Ch [] w w' := by
  subst hl
  refine (cloneWords_any l ⟨R, 0, none⟩ c w hn (fun w' hc j u hj => ?_)).mono ?_
  · rw [List.getElem?_map] at hj
    obtain ⟨x, hx, rfl⟩ := Option.map_eq_some_iff.1 hj
    rw [Addr.add_lit, cell_heap, hkeep hc hb, Option.bind_some, cellAt_cells, Nat.zero_add]
    exact hw j x hx
  · rintro e w' ⟨a', c', rfl, ho, hC⟩
    obtain ⟨r, c2, cur2, hv, hb2, _, hA, hW⟩ := own_row ho h1
    simp only [Value.slice.injEq] at hv
    obtain ⟨rfl, _, rfl⟩ := hv
    exact ⟨r, c', cur2, rfl, hb2, hA, hW, hC⟩
theorem zput (w : World) : (w.alloc (.cells (penC zeroPen) 71)).heap[w.heap.size]? = some (.cells (penC zeroPen) 71 (0, 0)) := by rw [heap_alloc, if_pos rfl]
theorem zput_ch (w : World) : Ch [] w (w.alloc (.cells (penC zeroPen) 71)) := (Ch.refl [] w).alloc _
set_option maxHeartbeats 4000000 in
set_option maxRecDepth 100000 in
theorem stepsLaw (a : Option Addr) (n0 c0 : Nat) (ks : Nat → BitVec 64) (p : PenT) (w : World) (hn : n0 ≤ c0) (hc : c0 ≤ 9223372036854775807) (ha : a = none → n0 = 0 ∧ c0 = 0) (hk : KeysIn w a n0 ks) :
    Calls Tryz.prog 8 #[.slice a n0 c0, .agg (penC p)] w fun e w' => e = .returned (.bool true) ∧ Ch [] w w' := by
  have W1 := fun w => wakes19_any w
  have O1 := fun w' (c : Ch [] w w') => own_words a n0 c0 ks w' hn hc ha (hk.ch c (Nat.le_refl _))
  obtain ⟨n, hn'⟩ : ∃ n, min n0 200 = n := ⟨_, rfl⟩
  have hn2 : n ≤ 200 := by omega
  rw [hn'] at O1
  obtain ⟨L, hL⟩ : ∃ L, frontW ks n = L := ⟨_, rfl⟩
  rw [hL] at O1
  have b0 : (w.alloc (.cells (penC p) 71)).heap[w.heap.size]? = some (.cells (penC p) 71 (0, 0)) := by rw [heap_alloc, if_pos rfl]
  have C0 : Ch [] w (w.alloc (.cells (penC p) 71)) := (Ch.refl [] w).alloc _
  clear hn hc ha hk hn' hL
  go_enter Tryz.func8, Tryz.ntmps8
  go_wp2_with fail
  obtain ⟨W0, hW0⟩ : ∃ W, w.alloc (.cells (penC p) 71) = W := ⟨_, rfl⟩
  rw [hW0] at b0 C0 ⊢
  clear hW0
  obtain ⟨B, hB⟩ : ∃ b, w.heap.size = b := ⟨_, rfl⟩
  rw [hB] at b0 ⊢
  have hBw : w.heap.size ≤ B := by omega
  refine (W1 _).mono ?_
  rintro e wa ⟨rfl, hca⟩
  have ba := hkeep hca b0
  have Ca := C0.trans hca
  clear b0 C0 hca W1
  go_wp2_with fail
  refine (O1 _ Ca).mono ?_
  rintro e wb ⟨a', c', rfl, ho, hcb⟩
  have bb := hkeep hcb ba
  have Cb := Ca.trans hcb
  clear ba O1 hcb
  rcases Nat.eq_zero_or_pos n with h0 | h1
  · subst h0
    have S1 := fun w p => wStep_empty a' c' p w
    clear ho
    go_wp2
    refine wp_loop_rounds 1 ?_
    rw [rounds_succ]
    go_wp2_with fail
    refine (S1 _ _).mono ?_
    rintro e w1 ⟨rfl, hc1⟩
    have C1 := Cb.trans hc1
    have t1 := hkeep hc1 bb
    clear hc1 bb Cb S1
    have nt : ¬ B = w1.heap.size := by have := blk_lt19 t1; omega
    go_upto_region 7 with (fail)
    clear nt
    have t2 := hkeep (pen_put_ch zeroPen w1) t1
    have C2 := C1.trans (pen_put_ch zeroPen w1)
    have q2 := pen_put zeroPen w1
    have hlA7 := C1.size
    have ltA7 := blk_lt19 t1
    clear t1 C1 
    obtain ⟨w2, hw2⟩ : ∃ W, World.onObj (w1.alloc (.cells (penC zeroPen) 71)) w1.heap.size (laidAt 0 (penC zeroPen)) = W := ⟨_, rfl⟩
    rw [hw2] at t2 q2 C2  ⊢
    clear hw2
    obtain ⟨A7, hbA7⟩ : ∃ b, w1.heap.size = b := ⟨_, rfl⟩
    rw [hbA7] at q2 hlA7 ltA7 ⊢
    clear hbA7
    have nt : ¬ B = w2.heap.size := by have := blk_lt19 t2; omega
    have nq : ¬ A7 = w2.heap.size := by have := blk_lt19 q2; omega
    go_wp2_with fail
    clear nt nq
    have t3 := hkeep (zput_ch w2) t2
    have q3 := hkeep (zput_ch w2) q2
    have C3 := C2.trans (zput_ch w2)
    have ltA10 := blk_lt19 t2
    have lqA10 := blk_lt19 q2
    have x3 := zput w2
    have hlA10 := C2.size
    clear t2 q2 C2 
    obtain ⟨w3, hw3⟩ : ∃ W, w2.alloc (.cells (penC zeroPen) 71) = W := ⟨_, rfl⟩
    rw [hw3] at t3 q3 x3 C3  ⊢
    clear hw3
    obtain ⟨A10, hbA10⟩ : ∃ b, w2.heap.size = b := ⟨_, rfl⟩
    rw [hbA10] at x3 hlA10 ltA10 lqA10 ⊢
    clear hbA10
    refine (eq_nil _).mono ?_
    rintro e w4 ⟨rfl, hc4⟩
    have C4 := C3.trans hc4
    go_wp2
    go_ret
    exact ⟨rfl, C4⟩
  · obtain ⟨r0, c0', cur0, hv, -, hl0, hA0, hW0⟩ := own_row ho h1
    simp only [Value.slice.injEq] at hv
    obtain ⟨rfl, _, rfl⟩ := hv
    have hn8 : n ≤ 8192 := by omega
    have hn9 : n ≤ 900000 := by omega
    have hnI : (n : Int) ≤ 200 := by omega
    have hn1 : (1 : Int) ≤ n := by omega
    clear ho
    have HW0 := Lib.hid hW0
    have HB0 := Lib.hid bb
    have HC0 := Lib.hid Cb
    have HA0 := Lib.hid hA0
    clear hW0 bb Cb Ca hA0
    go_wp2
    go_loopw [5, 21] (fun v i wr => ∃ (j : Nat) (r c : Nat) (cur : Array Value) (l : List (BitVec 64)) (p1 : PenT), v = .slice (some ⟨r, 0, none⟩) n c ∧ i = .int .i64 j ∧ j ≤ 10 ∧ l.length = n ∧ WordsAt cur l ∧ wr.heap[r]? = some (.cells cur 22 (0, 0)) ∧ wr.heap[B]? = some (.cells (penC p1) 71 (0, 0)) ∧ Ch [] w wr) (fun _ i _ => 10 - (intOf i).toNat)
    case atStart => exact ⟨0, r0, c', cur0, L, p, rfl, rfl, by omega, hl0, HA0.out, HW0.out, HB0.out, HC0.out⟩
    case round =>
      obtain ⟨j, r, c, cur, l, p1, hv, hj, hj10, hl, hA, c2, t2, C2⟩ := hrel
      subst hj hv
      clear HW0 HB0 HC0 HA0 hl0
      obtain ⟨w2, hw2⟩ : ∃ W, wr = W := ⟨_, rfl⟩
      rw [hw2] at c2 t2 C2 ⊢
      clear hw2
      have hwr := C2.size
      by_cases hlt : j < 10
      · have hltI : (j : Int) < 10 := by omega
        have RT := fun w => r19Right_any p1 w
        cases hr : rightP p1 with
        | false =>
          rw [hr] at RT
          have S1 : ∀ w, w.heap[r]? = some (.cells cur 22 (0, 0)) → Calls Tryz.prog 43 #[.slice (some ⟨r, 0, none⟩) n c, .agg (penC p1)] w fun e w' => e = .returned (.tuple #[.slice none 0 0, .agg (penC zeroPen), I 290]) ∧ Ch [] w w' := fun w hb => by
            have := wStep_bad l r c cur p1 w (by omega) (by omega) hb hA hr
            rw [hl] at this
            exact this
          clear hA hr hl
          go_wp2_with fail
          refine (S1 _ c2).mono ?_
          rintro e w3 ⟨rfl, hc3⟩
          have t3 := hkeep (hc3) t2
          have c3 := hkeep (hc3) c2
          have C3 := C2.trans (hc3)
          clear t2 c2 C2 hc3 
          have nt : ¬ B = w3.heap.size := by have := blk_lt19 t3; omega
          have nc : ¬ r = w3.heap.size := by have := blk_lt19 c3; omega
          go_upto_region 7 with (fail)
          clear nt nc
          have t4 := hkeep (pen_put_ch zeroPen w3) t3
          have c4 := hkeep (pen_put_ch zeroPen w3) c3
          have C4 := C3.trans (pen_put_ch zeroPen w3)
          have q4 := pen_put zeroPen w3
          have hlA7 := C3.size
          have ltA7 := blk_lt19 t3
          have lcA7 := blk_lt19 c3
          clear t3 c3 C3 
          obtain ⟨w4, hw4⟩ : ∃ W, World.onObj (w3.alloc (.cells (penC zeroPen) 71)) w3.heap.size (laidAt 0 (penC zeroPen)) = W := ⟨_, rfl⟩
          rw [hw4] at t4 c4 q4 C4  ⊢
          clear hw4
          obtain ⟨A7, hbA7⟩ : ∃ b, w3.heap.size = b := ⟨_, rfl⟩
          rw [hbA7] at q4 hlA7 ltA7 lcA7 ⊢
          clear hbA7
          have nt : ¬ B = w4.heap.size := by have := blk_lt19 t4; omega
          have nc : ¬ r = w4.heap.size := by have := blk_lt19 c4; omega
          have nq : ¬ A7 = w4.heap.size := by have := blk_lt19 q4; omega
          go_wp2_with fail
          clear nt nc nq
          have t5 := hkeep (zput_ch w4) t4
          have c5 := hkeep (zput_ch w4) c4
          have q5 := hkeep (zput_ch w4) q4
          have C5 := C4.trans (zput_ch w4)
          have ltA10 := blk_lt19 t4
          have lcA10 := blk_lt19 c4
          have lqA10 := blk_lt19 q4
          have x5 := zput w4
          have hlA10 := C4.size
          clear t4 c4 q4 C4 
          obtain ⟨w5, hw5⟩ : ∃ W, w4.alloc (.cells (penC zeroPen) 71) = W := ⟨_, rfl⟩
          rw [hw5] at t5 c5 q5 x5 C5  ⊢
          clear hw5
          obtain ⟨A10, hbA10⟩ : ∃ b, w4.heap.size = b := ⟨_, rfl⟩
          rw [hbA10] at x5 hlA10 ltA10 lcA10 lqA10 ⊢
          clear hbA10
          refine (RT _).mono ?_
          rintro e w6 ⟨rfl, hc6⟩
          have t6 := hkeep (hc6) t5
          have c6 := hkeep (hc6) c5
          have q6 := hkeep (hc6) q5
          have x6 := hkeep (hc6) x5
          have C6 := C5.trans (hc6)
          clear t5 c5 q5 x5 C5 hc6 
          go_wp2_with fail
          refine (eq_nil _).mono ?_
          rintro e w7 ⟨rfl, hc7⟩
          have C7 := C6.trans hc7
          go_wp2
          go_ret
          exact ⟨rfl, C7⟩
        | true =>
          rw [hr] at RT
          cases hz : stepP l p1 with
          | none =>
            have S1 := fun w hb => wStep_isnt h1 hn8 hl hr hz r c cur hA w hb
            have S2 := fun w hb => rStep_isnt hn8 hl hz r c cur hA w hb
            clear hA hr hl hz
            go_wp2_with fail
            refine (S1 _ c2).mono ?_
            rintro e w3 ⟨rfl, hc3⟩
            have t3 := hkeep (hc3) t2
            have c3 := hkeep (hc3) c2
            have C3 := C2.trans (hc3)
            clear t2 c2 C2 hc3 
            have nt : ¬ B = w3.heap.size := by have := blk_lt19 t3; omega
            have nc : ¬ r = w3.heap.size := by have := blk_lt19 c3; omega
            go_upto_region 7 with (fail)
            clear nt nc
            have t4 := hkeep (pen_put_ch zeroPen w3) t3
            have c4 := hkeep (pen_put_ch zeroPen w3) c3
            have C4 := C3.trans (pen_put_ch zeroPen w3)
            have q4 := pen_put zeroPen w3
            have hlA7 := C3.size
            have ltA7 := blk_lt19 t3
            have lcA7 := blk_lt19 c3
            clear t3 c3 C3 
            obtain ⟨w4, hw4⟩ : ∃ W, World.onObj (w3.alloc (.cells (penC zeroPen) 71)) w3.heap.size (laidAt 0 (penC zeroPen)) = W := ⟨_, rfl⟩
            rw [hw4] at t4 c4 q4 C4  ⊢
            clear hw4
            obtain ⟨A7, hbA7⟩ : ∃ b, w3.heap.size = b := ⟨_, rfl⟩
            rw [hbA7] at q4 hlA7 ltA7 lcA7 ⊢
            clear hbA7
            have nt : ¬ B = w4.heap.size := by have := blk_lt19 t4; omega
            have nc : ¬ r = w4.heap.size := by have := blk_lt19 c4; omega
            have nq : ¬ A7 = w4.heap.size := by have := blk_lt19 q4; omega
            go_wp2_with fail
            clear nt nc nq
            have t5 := hkeep (zput_ch w4) t4
            have c5 := hkeep (zput_ch w4) c4
            have q5 := hkeep (zput_ch w4) q4
            have C5 := C4.trans (zput_ch w4)
            have ltA10 := blk_lt19 t4
            have lcA10 := blk_lt19 c4
            have lqA10 := blk_lt19 q4
            have x5 := zput w4
            have hlA10 := C4.size
            clear t4 c4 q4 C4 
            obtain ⟨w5, hw5⟩ : ∃ W, w4.alloc (.cells (penC zeroPen) 71) = W := ⟨_, rfl⟩
            rw [hw5] at t5 c5 q5 x5 C5  ⊢
            clear hw5
            obtain ⟨A10, hbA10⟩ : ∃ b, w4.heap.size = b := ⟨_, rfl⟩
            rw [hbA10] at x5 hlA10 ltA10 lcA10 lqA10 ⊢
            clear hbA10
            refine (RT _).mono ?_
            rintro e w6 ⟨rfl, hc6⟩
            have t6 := hkeep (hc6) t5
            have c6 := hkeep (hc6) c5
            have q6 := hkeep (hc6) q5
            have x6 := hkeep (hc6) x5
            have C6 := C5.trans (hc6)
            clear t5 c5 q5 x5 C5 hc6 
            go_wp2_with fail
            refine (S2 _ c6).mono ?_
            rintro e w7 ⟨rfl, hc7⟩
            have t7 := hkeep (hc7) t6
            have c7 := hkeep (hc7) c6
            have q7 := hkeep (hc7) q6
            have x7 := hkeep (hc7) x6
            have C7 := C6.trans (hc7)
            clear t6 c6 q6 x6 C6 hc7 
            have nt : ¬ B = w7.heap.size := by have := blk_lt19 t7; omega
            have nc : ¬ r = w7.heap.size := by have := blk_lt19 c7; omega
            have nq : ¬ A7 = w7.heap.size := by have := blk_lt19 q7; omega
            have nx : ¬ A10 = w7.heap.size := by have := blk_lt19 x7; omega
            go_wp2_with fail
            clear nt nc nq nx
            have t8 := hkeep (pen_put_ch zeroPen w7) t7
            have c8 := hkeep (pen_put_ch zeroPen w7) c7
            have q8 := hkeep (pen_put_ch zeroPen w7) q7
            have x8 := hkeep (pen_put_ch zeroPen w7) x7
            have C8 := C7.trans (pen_put_ch zeroPen w7)
            have o8 := pen_put zeroPen w7
            have hlA13 := C7.size
            have ltA13 := blk_lt19 t7
            have lcA13 := blk_lt19 c7
            have lqA13 := blk_lt19 q7
            have lxA13 := blk_lt19 x7
            clear t7 c7 q7 x7 C7 
            obtain ⟨w8, hw8⟩ : ∃ W, World.onObj (w7.alloc (.cells (penC zeroPen) 71)) w7.heap.size (laidAt 0 (penC zeroPen)) = W := ⟨_, rfl⟩
            rw [hw8] at t8 c8 q8 x8 o8 C8  ⊢
            clear hw8
            obtain ⟨A13, hbA13⟩ : ∃ b, w7.heap.size = b := ⟨_, rfl⟩
            rw [hbA13] at o8 hlA13 ltA13 lcA13 lqA13 lxA13 ⊢
            clear hbA13
            refine (eq_nil _).mono ?_
            rintro e w9 ⟨rfl, hc9⟩
            have C9 := C8.trans hc9
            go_wp2
            go_ret
            exact ⟨rfl, C9⟩
          | some z =>
            have S1 := fun w hb => wStep_is h1 hn8 hl hr hz r c cur hA w hb
            have S2 := fun w hb => rStep_is h1 hn8 hl hz r c cur hA w hb
            clear hA hr hl hz
            obtain ⟨z1, z2⟩ := z
            dsimp only at S1 S2
            have hWz := wcells_at z1
            go_wp2_with fail
            refine (S1 _ c2).mono ?_
            rintro e w3 ⟨R, rfl, hzl, hR, m3, hc3⟩
            have t3 := hkeep (hc3) t2
            have c3 := hkeep (hc3) c2
            have C3 := C2.trans (hc3)
            clear t2 c2 C2 hc3 
            have hRw := Nat.le_trans hwr hR
            clear hR
            have nt : ¬ B = w3.heap.size := by have := blk_lt19 t3; omega
            have nc : ¬ r = w3.heap.size := by have := blk_lt19 c3; omega
            have nm : ¬ R = w3.heap.size := by have := blk_lt19 m3; omega
            go_upto_region 7 with (fail)
            clear nt nc nm
            have t4 := hkeep (pen_put_ch z2 w3) t3
            have c4 := hkeep (pen_put_ch z2 w3) c3
            have m4 := hkeep (pen_put_ch z2 w3) m3
            have C4 := C3.trans (pen_put_ch z2 w3)
            have q4 := pen_put z2 w3
            have hlA7 := C3.size
            have ltA7 := blk_lt19 t3
            have lcA7 := blk_lt19 c3
            have lmA7 := blk_lt19 m3
            clear t3 c3 m3 C3 
            obtain ⟨w4, hw4⟩ : ∃ W, World.onObj (w3.alloc (.cells (penC zeroPen) 71)) w3.heap.size (laidAt 0 (penC z2)) = W := ⟨_, rfl⟩
            rw [hw4] at t4 c4 m4 q4 C4  ⊢
            clear hw4
            obtain ⟨A7, hbA7⟩ : ∃ b, w3.heap.size = b := ⟨_, rfl⟩
            rw [hbA7] at q4 hlA7 ltA7 lcA7 lmA7 ⊢
            clear hbA7
            have nt : ¬ B = w4.heap.size := by have := blk_lt19 t4; omega
            have nc : ¬ r = w4.heap.size := by have := blk_lt19 c4; omega
            have nm : ¬ R = w4.heap.size := by have := blk_lt19 m4; omega
            have nq : ¬ A7 = w4.heap.size := by have := blk_lt19 q4; omega
            go_wp2_with fail
            clear nt nc nm nq
            have t5 := hkeep (zput_ch w4) t4
            have c5 := hkeep (zput_ch w4) c4
            have m5 := hkeep (zput_ch w4) m4
            have q5 := hkeep (zput_ch w4) q4
            have C5 := C4.trans (zput_ch w4)
            have ltA10 := blk_lt19 t4
            have lcA10 := blk_lt19 c4
            have lmA10 := blk_lt19 m4
            have lqA10 := blk_lt19 q4
            have x5 := zput w4
            have hlA10 := C4.size
            clear t4 c4 m4 q4 C4 
            obtain ⟨w5, hw5⟩ : ∃ W, w4.alloc (.cells (penC zeroPen) 71) = W := ⟨_, rfl⟩
            rw [hw5] at t5 c5 m5 q5 x5 C5  ⊢
            clear hw5
            obtain ⟨A10, hbA10⟩ : ∃ b, w4.heap.size = b := ⟨_, rfl⟩
            rw [hbA10] at x5 hlA10 ltA10 lcA10 lmA10 lqA10 ⊢
            clear hbA10
            refine (RT _).mono ?_
            rintro e w6 ⟨rfl, hc6⟩
            have t6 := hkeep (hc6) t5
            have c6 := hkeep (hc6) c5
            have m6 := hkeep (hc6) m5
            have q6 := hkeep (hc6) q5
            have x6 := hkeep (hc6) x5
            have C6 := C5.trans (hc6)
            clear t5 c5 m5 q5 x5 C5 hc6 
            go_wp2_with fail
            refine (S2 _ c6).mono ?_
            rintro e w7 ⟨R2, c2, cur2, rfl, hW2, y7, hc7⟩
            have t7 := hkeep (hc7) t6
            have c7 := hkeep (hc7) c6
            have m7 := hkeep (hc7) m6
            have q7 := hkeep (hc7) q6
            have x7 := hkeep (hc7) x6
            have C7 := C6.trans (hc7)
            clear t6 c6 m6 q6 x6 C6 hc7 
            have nt : ¬ B = w7.heap.size := by have := blk_lt19 t7; omega
            have nc : ¬ r = w7.heap.size := by have := blk_lt19 c7; omega
            have nm : ¬ R = w7.heap.size := by have := blk_lt19 m7; omega
            have nq : ¬ A7 = w7.heap.size := by have := blk_lt19 q7; omega
            have nx : ¬ A10 = w7.heap.size := by have := blk_lt19 x7; omega
            have ny : ¬ R2 = w7.heap.size := by have := blk_lt19 y7; omega
            go_wp2_with fail
            clear nt nc nm nq nx ny
            have t8 := hkeep (pen_put_ch z2 w7) t7
            have c8 := hkeep (pen_put_ch z2 w7) c7
            have m8 := hkeep (pen_put_ch z2 w7) m7
            have q8 := hkeep (pen_put_ch z2 w7) q7
            have x8 := hkeep (pen_put_ch z2 w7) x7
            have y8 := hkeep (pen_put_ch z2 w7) y7
            have C8 := C7.trans (pen_put_ch z2 w7)
            have o8 := pen_put z2 w7
            have hlA13 := C7.size
            have ltA13 := blk_lt19 t7
            have lcA13 := blk_lt19 c7
            have lmA13 := blk_lt19 m7
            have lqA13 := blk_lt19 q7
            have lxA13 := blk_lt19 x7
            have lyA13 := blk_lt19 y7
            clear t7 c7 m7 q7 x7 y7 C7 
            obtain ⟨w8, hw8⟩ : ∃ W, World.onObj (w7.alloc (.cells (penC zeroPen) 71)) w7.heap.size (laidAt 0 (penC z2)) = W := ⟨_, rfl⟩
            rw [hw8] at t8 c8 m8 q8 x8 y8 o8 C8  ⊢
            clear hw8
            obtain ⟨A13, hbA13⟩ : ∃ b, w7.heap.size = b := ⟨_, rfl⟩
            rw [hbA13] at o8 hlA13 ltA13 lcA13 lmA13 lqA13 lxA13 lyA13 ⊢
            clear hbA13
            have s7 : (fun W' : World => W'.heap[A13]? = some (.cells (penC z2) 71 (0, 0))) w8.drew := o8
            have t9 : w8.drew.heap[B]? = _ := t8
            have c9 : w8.drew.heap[r]? = _ := c8
            have m9 : w8.drew.heap[R]? = _ := m8
            have q9 : w8.drew.heap[A7]? = _ := q8
            have x9 : w8.drew.heap[A10]? = _ := x8
            have y9 : w8.drew.heap[R2]? = _ := y8
            have o9 : w8.drew.heap[A13]? = _ := o8
            have C9 : Ch [] w w8.drew := C8.drew
            clear t8 c8 m8 q8 x8 y8 o8 C8 
            refine wp_region_held_drew (S := fun W' => W'.heap[A13]? = some (.cells (penC z2) 71 (0, 0))) (by kernel_rfl) s7 ?_
            intro _
            simp only [List.size_toArray, List.length_cons, List.length_nil, Nat.reduceAdd]
            obtain ⟨w9, hw9⟩ : ∃ W, w8.drew = W := ⟨_, rfl⟩
            rw [hw9] at t9 c9 m9 q9 x9 y9 o9 C9 s7 ⊢
            clear hw9
            refine wpAnyH_take (i := 0) (oi := ⟨some 43, _, _, _, _, none⟩) (v := ?_) rfl (by kernel_rfl) (by kernel_rfl) (by kernel_rfl) (fun _ _ _ h => h) (Or.inl ⟨by rfl, ?_⟩) s7 ?_
            rotate_left
            · intro wq hSq
              first | (go_simp; done) | (go_simp; with_reducible rfl)
            try simp only [Act.put, List.setIfInBounds_toArray, List.set_cons_zero, List.set_cons_succ]
            refine wpAnyH_take (i := 1) (oi := ⟨some 44, _, _, _, _, none⟩) (v := ?_) rfl (by kernel_rfl) (by kernel_rfl) (by kernel_rfl) (fun _ _ _ h => h) (Or.inl ⟨by rfl, ?_⟩) s7 ?_
            rotate_left
            · intro wq hSq
              first | (go_simp; done) | (go_simp; with_reducible rfl)
            try simp only [Act.put, List.setIfInBounds_toArray, List.set_cons_zero, List.set_cons_succ]
            refine wpAnyH_take (i := 2) (oi := ⟨some 9, _, _, _, _, none⟩) (v := ?_) rfl (by kernel_rfl) (by kernel_rfl) (by kernel_rfl) (fun _ _ _ h => h) (Or.inl ⟨by rfl, ?_⟩) s7 ?_
            rotate_left
            · intro wq hSq
              first | (go_simp; done) | (go_simp; with_reducible rfl)
            try simp only [Act.put, List.setIfInBounds_toArray, List.set_cons_zero, List.set_cons_succ]
            refine wpAnyH_ready (rs := [3]) (by kernel_rfl) (by simp) ?_
            refine AllReadyH.cons rfl (fun K hK => ?_) AllReadyH.nil
            go_simp
            have hBA : ¬ B = A10 := by omega
            have h7A : ¬ A7 = A10 := by omega
            have hDA : ¬ A13 = A10 := by omega
            have t10 := (onObj_other (w := w9) (F := A10) (laidAt 0 (penC z2)) hBA).trans t9
            have c10 := (onObj_other (w := w9) (F := A10) (laidAt 0 (penC z2)) (block_ne c9 x9 (by decide))).trans c9
            have m10 := (onObj_other (w := w9) (F := A10) (laidAt 0 (penC z2)) (block_ne m9 x9 (by decide))).trans m9
            have q10 := (onObj_other (w := w9) (F := A10) (laidAt 0 (penC z2)) h7A).trans q9
            have x10 : (World.onObj w9 A10 (laidAt 0 (penC z2))).heap[A10]? = some (.cells (penC z2) 71 (0, 0)) := by rw [heap_onObj, if_pos rfl, x9, Option.map_some, wlaidAt_pen]
            have y10 := (onObj_other (w := w9) (F := A10) (laidAt 0 (penC z2)) (block_ne y9 x9 (by decide))).trans y9
            have o10 := (onObj_other (w := w9) (F := A10) (laidAt 0 (penC z2)) hDA).trans o9
            have C10 : Ch [] w (World.onObj w9 A10 (laidAt 0 (penC z2))) := C9.onObj (.inr (by omega)) _
            clear t9 c9 m9 q9 x9 y9 o9 C9 
            have s10 : (World.onObj w9 A10 (laidAt 0 (penC z2))).heap[A13]? = some (.cells (penC z2) 71 (0, 0)) := o10
            refine hK.out _ _ s10 (fun _ => ?_)
            clear hK K s7
            obtain ⟨w10, hw10⟩ : ∃ W, (World.onObj w9 A10 (laidAt 0 (penC z2))) = W := ⟨_, rfl⟩
            rw [hw10] at t10 c10 m10 q10 x10 y10 o10 s10 C10  ⊢
            clear hw10
            refine wpAnyH_take (i := 4) (oi := ⟨some 11, _, _, _, _, none⟩) (v := ?_) rfl (by kernel_rfl) (by kernel_rfl) (by kernel_rfl) (fun _ _ _ h => h) (Or.inl ⟨by rfl, ?_⟩) s10 ?_
            rotate_left
            · intro wq hSq
              first | (go_simp; done) | (go_simp; with_reducible rfl)
            try simp only [Act.put, List.setIfInBounds_toArray, List.set_cons_zero, List.set_cons_succ]
            refine wpAnyH_done (by kernel_rfl) ?_ _
            clear s10
            go_wp2_with fail
            refine (eq_rows hn9 hzl R R2 n c2 _ _ hWz hW2 _ m10 y10).mono ?_
            rintro e w11 ⟨rfl, hc11⟩
            have t11 := hkeep (hc11) t10
            have c11 := hkeep (hc11) c10
            have m11 := hkeep (hc11) m10
            have q11 := hkeep (hc11) q10
            have x11 := hkeep (hc11) x10
            have y11 := hkeep (hc11) y10
            have o11 := hkeep (hc11) o10
            have C11 := C10.trans (hc11)
            clear t10 c10 m10 q10 x10 y10 o10 C10 hc11 
            go_wp2_with fail
            have hmm := m11
            refine (clone_rows h1 hn9 hzl R n _ hWz _ m11).mono ?_
            rintro e w12 ⟨r3, c3, cur3, rfl, hr3, hW3, d12, hc12⟩
            have t12 := hkeep (hc12) t11
            have c12 := hkeep (hc12) c11
            have m12 := hkeep (hc12) m11
            have q12 := hkeep (hc12) q11
            have x12 := hkeep (hc12) x11
            have y12 := hkeep (hc12) y11
            have o12 := hkeep (hc12) o11
            have C12 := C11.trans (hc12)
            clear t11 c11 m11 q11 x11 y11 o11 C11 hc12 
            have hRr : R < r3 := Nat.lt_of_lt_of_le (blk_lt19 hmm) hr3
            go_wp2
            go_loopw [65] (fun i wr => ∃ (k : Nat) (cs : Array Value), i = .int .i64 k ∧ k ≤ n ∧ wr.heap[R]? = some (.cells cs 22 (0, 0)) ∧ (∀ i, i < n → ∃ x : BitVec 64, cs[i]? = some (U x)) ∧ Ch [R] w12 wr) (fun i _ => n - (intOf i).toNat)
            case atStart => exact ⟨0, wcells z1, rfl, by omega, m12, fun i hi => ⟨z1[i]'(by omega), hWz i _ (List.getElem?_eq_getElem (by omega))⟩, Ch.refl _ _⟩
            case round =>
              obtain ⟨k, cs, hk, hkn, mr, hel, cr⟩ := hrel
              subst hk
              have hBR : B ≠ R := block_ne t12 m12 (by decide)
              have hAR : A7 ≠ R := block_ne q12 m12 (by decide)
              have tr := (cr.block B (blk_lt19 t12) (by simpa using hBR)).trans t12
              have qr := (cr.block A7 (blk_lt19 q12) (by simpa using hAR)).trans q12
              have dr := (cr.block r3 (blk_lt19 d12) (by simp; omega)).trans d12
              have Cr := C12.trans2 cr (by intro t ht; right; simp at ht; omega)
              clear t12 q12 d12 m12 C12
              by_cases hlk : k < n
              · obtain ⟨x, hx⟩ := hel k hlk
                have hkI : (k : Int) < n := by omega
                have HE := Lib.hid hel
                clear hel tr qr dr hmm
                go_wp2
                go_roundw
                case rel => exact ⟨k + 1, cs.setIfInBounds k (U (x + 1#64)), by go_num, hlk, by simp [go_sem, mr], fun i hi => by
                  rw [Array.getElem?_setIfInBounds]
                  by_cases he : k = i
                  · subst he; rw [if_pos rfl, if_pos (by have := (Array.getElem?_eq_some_iff.1 hx).1; exact this)]; exact ⟨_, rfl⟩
                  · rw [if_neg he]; exact HE.out i hi, cr.setCell (p := ⟨R, k, none⟩) (.inl (by simp)) _⟩
                case measure => simp [intOf]; omega
              · have hkI : ¬ (k : Int) < n := by omega
                clear hel mr hmm
                go_wp2
                have s7 : (fun W' : World => W'.heap[A7]? = some (.cells (penC z2) 71 (0, 0))) wr.drew := qr
                have t7 : wr.drew.heap[B]? = some (.cells (penC p1) 71 (0, 0)) := tr
                have d7 : wr.drew.heap[r3]? = some (.cells cur3 22 (0, 0)) := dr
                have C7 : Ch [] w wr.drew := Cr.drew
                clear tr qr dr Cr cr
                refine wp_region_held_drew (S := fun W' => W'.heap[A7]? = some (.cells (penC z2) 71 (0, 0))) (by kernel_rfl) s7 ?_
                intro _
                simp only [List.size_toArray, List.length_cons, List.length_nil, Nat.reduceAdd]
                obtain ⟨v7, hv7⟩ : ∃ W, wr.drew = W := ⟨_, rfl⟩
                rw [hv7] at s7 t7 d7 C7 ⊢
                clear hv7
                refine wpAnyH_take (i := 0) (oi := ⟨some 75, _, _, _, _, none⟩) (v := ?_) rfl (by kernel_rfl) (by kernel_rfl) (by kernel_rfl) (fun _ _ _ h => h) (Or.inl ⟨by rfl, ?_⟩) s7 ?_
                rotate_left
                · intro wq hSq
                  first | (go_simp; done) | (go_simp; with_reducible rfl)
                try simp only [Act.put, List.setIfInBounds_toArray, List.set_cons_zero, List.set_cons_succ]
                refine wpAnyH_take (i := 1) (oi := ⟨some 76, _, _, _, _, none⟩) (v := ?_) rfl (by kernel_rfl) (by kernel_rfl) (by kernel_rfl) (fun _ _ _ h => h) (Or.inl ⟨by rfl, ?_⟩) s7 ?_
                rotate_left
                · intro wq hSq
                  first | (go_simp; done) | (go_simp; with_reducible rfl)
                try simp only [Act.put, List.setIfInBounds_toArray, List.set_cons_zero, List.set_cons_succ]
                refine wpAnyH_take (i := 2) (oi := ⟨some 5, _, _, _, _, none⟩) (v := ?_) rfl (by kernel_rfl) (by kernel_rfl) (by kernel_rfl) (fun _ _ _ h => h) (Or.inl ⟨by rfl, ?_⟩) s7 ?_
                rotate_left
                · intro wq hSq
                  first | (go_simp; done) | (go_simp; with_reducible rfl)
                try simp only [Act.put, List.setIfInBounds_toArray, List.set_cons_zero, List.set_cons_succ]
                refine wpAnyH_ready (rs := [3]) (by kernel_rfl) (by simp) ?_
                refine AllReadyH.cons rfl (fun K hK => ?_) AllReadyH.nil
                go_simp
                have s8 : (World.onObj v7 B (laidAt 0 (penC z2))).heap[A7]? = some (.cells (penC z2) 71 (0, 0)) := (onObj_other _ (by omega)).trans s7
                have t8 : (World.onObj v7 B (laidAt 0 (penC z2))).heap[B]? = some (.cells (penC z2) 71 (0, 0)) := by rw [heap_onObj, if_pos rfl, t7, Option.map_some, wlaidAt_pen]
                have d8 : (World.onObj v7 B (laidAt 0 (penC z2))).heap[r3]? = some (.cells cur3 22 (0, 0)) := (onObj_other _ (block_ne d7 t7 (by decide))).trans d7
                have C8 : Ch [] w (World.onObj v7 B (laidAt 0 (penC z2))) := C7.onObj (.inr hBw) _
                refine hK.out _ _ s8 (fun _ => ?_)
                clear hK K
                refine wpAnyH_done (by kernel_rfl) ?_ _
                go_wp2
                go_roundw
                case rel => exact ⟨j + 1, r3, c3, cur3, z1, z2, rfl, by go_num, by omega, hzl, hW3, d8, t8, C8⟩
                case measure => simp [intOf]; omega
      · go_wp2
        go_ret
        exact ⟨rfl, C2⟩
end Go.Proofs.Hc
