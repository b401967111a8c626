/- slices.Equal and Clone at rows of words. -/
import Derived.Test.YtmfajobocpaimaaGreatKHmet
import Derived.Test.YtmfajobocpaimaaGreatKHcg
import Derived.Test.YtmfajobocpaimaaGreatKHci
import Derived.Test.YtmfajobocpaimaaGreatKHcs
import Derived.Test.YtmfajobocpaimaaGreatKHdh
import Derived.Test.YtmfajobocpaimaaGreatKHdt
import Derived.Test.YtmfajobocpaimaaGreatKHdv
import Derived.Test.YtmfajobocpaimaaGreatKHm
import Derived.Test.YtmfajobocpaimaaGreatKHma
import Derived.Test.YtmfajobocpaimaaGreatKHnl
import Derived.Test.YtmfajobocpaimaaGreatKHpb
import Derived.Test.YtmfajobocpaimaaGreatKHh
import Derived.Test.YtmfajobocpaimaaGreatKHni
import Derived.Test.YtmfajobocpaimaaGreatKHxh
import Derived.Below
import Derived.BigQuiet
import Derived.Deep.Draws
import Derived.Deep.Light
import Derived.Deep.QuietTactic
import Derived.Deep.RegionHeld
import Derived.Deep.Slices
import Derived.Laws.CopyRow
import Derived.Laws.StructEq
import Derived.Laws.Tables
import Derived.Lib.AppendZerosOnto
import Derived.Lib.Hide
import Derived.Lib.Tables
import Derived.Lib.Walk
import Derived.LoopIn
import Derived.LoopN
import Derived.LoopNIn
import Derived.Maps.AppendAt
import Derived.Maps.Views
import Derived.OpenShut
import Derived.OwnWalkIn
import Derived.ProofKit
import Derived.RangeFuncBox
import Derived.RangeFuncCalls
import Derived.RangeFuncRecord
import Derived.RangeFuncSeq
import Derived.Recover
import Derived.RegionTactic
import Derived.Shelf.Slices.Clone
import Derived.StillTail
import Derived.StillTailTactics
import Derived.TacticsInMore
import Derived.Test.YtmfajobocpaimaaGreatProg
import Derived.WalkKit
import Derived.WalkLawsBesides
import Derived.WalkMore
import Derived.WalkSpells
import Derived.ChangeKeysEq
import Derived.Deep.OwnRows
import Derived.IntWalk
import Derived.Laws.CopyOwn
import Derived.ScopeJumps
set_option linter.unusedSimpArgs false
set_option linter.unusedVariables false
namespace Go.Proofs.Hc
open Go.RowKit
attribute [local go_sem] wrap_u64 wrap_u8 bits_xor64 bits_and64 bits_or64 bits_not64 bits_xor8 bits_and8 bits_or8 signed64 signed8 ofInt_N BitVec.ofInt_add BitVec.ofInt_mul ofInt_sub' ofInt8_N64 ofInt64_N8 wide8 eqN neN shr_pow shr1 shr7 shr56
attribute [local go_sem high] bits_com64 shl_wrap
attribute [local go_sem] cell_heap ice_heap cellAt_cells iceAt_cells setAt_cells rowAt_cells canLay_cells laidAt_cells size_onObj size_setCell rowRes_some layRes_true
attribute [local go_sem] load26 load73 load23 store26 build73
attribute [local go_sem ↓] lrow26 lrow73 lrow23 srow26 zero26 brow73 heap_alloc heap_drew heap_drewN heap_setCell heap_onObj
attribute [local go_sem] tcells_size hcells_size tcells_get hcells_get tcells_one hcells_one hcells_table tcells_table hcells_all hcells_ctrl tcells_ctrl
attribute [local go_sem] nn2 nm2 nn3 nm3 nn4 nm4 nn5 nm5 nn6 nm6 nn7 nm7 nn8 nm8
attribute [local go_sem] nn2 nm2 nn3 nm3 nn4 nm4 nn5 nm5 nn6 nm6 nn7 nm7 nn8 nm8
attribute [local go_sem] Oper.semAt_some make_func1
set_option maxHeartbeats 1000000 in
set_option maxRecDepth 100000 in
theorem eqWords_any (l : List (BitVec 64)) (a b : Option Addr) (c d : Nat) (cur cur2 : Array Value) (w : World) (hl : l.length ≤ 900000)
    (hpa : WordsAt cur l) (ha : 0 < l.length → ∃ r, a = some ⟨r, 0, none⟩) (hr : ∀ r, a = some ⟨r, 0, none⟩ → w.heap[r]? = some (.cells cur 22 (0, 0)))
    (hpb : WordsAt cur2 l) (hb : 0 < l.length → ∃ r, b = some ⟨r, 0, none⟩) (hs : ∀ r, b = some ⟨r, 0, none⟩ → w.heap[r]? = some (.cells cur2 22 (0, 0))) :
    Calls Tryz.prog 46 #[.slice a l.length c, .slice b l.length d] w fun e w' => e = .returned (.bool true) ∧ Ch [] w w' := by
  have HP := Lib.hid hpa
  have HA := Lib.hid ha
  have HR := Lib.hid hr
  have HPB := Lib.hid hpb
  have HAB := Lib.hid hb
  have HRB := Lib.hid hs
  clear hpa ha hr hpb hb hs
  go_enter Tryz.func46, Tryz.ntmps46
  go_wp2
  go_loopw [13] (fun i wr => ∃ j : Nat, i = .int .i64 j ∧ j ≤ l.length ∧ Ch [] w wr) (fun i _ => l.length - (intOf i).toNat)
  case atStart => exact ⟨0, rfl, Nat.zero_le _, Ch.refl _ _⟩
  case round =>
    obtain ⟨j, hj, hjl, hcr⟩ := hrel
    subst hj
    rcases Nat.lt_or_ge j l.length with hlt | hge
    · obtain ⟨r, hra⟩ := HA.out (by omega)
      obtain ⟨q, hqb⟩ := HAB.out (by omega)
      obtain ⟨y, hy⟩ : ∃ y, l[j]? = some y := ⟨l[j]'hlt, List.getElem?_eq_getElem hlt⟩
      have hrow : cur[j]? = some (U y) := HP.out j y hy
      have hrow2 : cur2[j]? = some (U y) := HPB.out j y hy
      subst hra hqb
      have hrr : wr.heap[r]? = some (.cells cur 22 (0, 0)) := hkeep hcr (HR.out r rfl)
      have hqq : wr.heap[q]? = some (.cells cur2 22 (0, 0)) := hkeep hcr (HRB.out q rfl)
      have hdec : decide (j < l.length) = true := by simpa using hlt
      have hg0 : ∀ g : Gar wr, (g.1).heap[q]? = some (.cells cur2 22 (0, 0)) := fun g => hkeep g.2 hqq
      have hg1 : ∀ g : Gar wr, (g.1).heap[r]? = some (.cells cur 22 (0, 0)) := fun g => hkeep g.2 hrr
      clear hy
      go_wp2
      refine wp_region_gar (by kernel_rfl) (by kernel_rfl) ?_
      repeat (go_big_quiet_step (fail))
      refine wpQuiet_nil ?_
      rintro w1 ⟨g1, hw1⟩
      have hc1 : Ch [] w w1 := hcr.trans (by rw [hw1]; exact g1.2)
      clear hw1 g1 hg0 hg1
      go_wp2
      go_roundw
      case rel => exact ⟨j + 1, by go_num, hlt, hc1⟩
      case measure => simp [intOf]; omega
    · have hj : j = l.length := by omega
      subst hj
      go_wp2
      go_ret
      exact ⟨rfl, hcr⟩
theorem words_oneZ (l : List (BitVec 64)) : ∀ u ∈ l.map (fun x => U x), u.oneCell' = true := by
  intro u hu
  obtain ⟨y, _, rfl⟩ := List.mem_map.1 hu
  rfl
set_option maxHeartbeats 1000000 in
set_option maxRecDepth 100000 in
theorem cloneWords_any (l : List (BitVec 64)) (x : Addr) (c : Nat) (w : World) (hl : l.length ≤ 900000) (h : ∀ w', Ch [] w w' → ∀ j u, (l.map fun x => U x)[j]? = some u → w'.cell? (x.add j) = some u) :
    Calls Tryz.prog 47 #[.slice (some x) l.length c] w fun e w' => ∃ a' c', e = .returned (.slice a' l.length c') ∧ w'.ownsRow w.heap.size 22 1 (.slice a' l.length c') l.length (l.map fun x => U x) ∧ Ch [] w w' := by
  have q22 : ∀ (w : World) (a : Option Addr) (n c n' c' : Nat), (binOp .eql 53 (.slice a n c) (.slice none n' c')).run Tryz.prog w = .ok (.bool a.isNone) w := fun w a n c n' c' => Lib.run_eql_slice_nil w _ _ a n c n' c' Tryz.underlying53
  obtain ⟨i0, hi, hz0, hz1, hz2⟩ := info_parts infoU
  have hmade : (w.alloc (.cells #[] 22)).ownsRow w.heap.size 22 1 (.slice (some ⟨w.heap.size, 0, none⟩) 0 0) 0 [] := World.ownsRow_made w #[] 0 (Nat.le_refl _) (Nat.zero_le _) (by simp)
  have hcA : Ch [] w (w.alloc (.cells #[] 22)) := (Ch.refl [] w).alloc _
  obtain ⟨v', w1, hrun, hown, hgr, _⟩ := run_append_own (P := Tryz.prog) (w.alloc (.cells #[] 22)) w.heap.size 53 53 22 i0 (U 0#64) 1 8 Tryz.underlying53 hi hz0 hz1 hz2 rfl (by decide) _ 0 [] hmade x l.length c (l.map fun x => U x) (by simp) (h _ hcA) (words_oneZ l) (by unfold maxLen; omega) (by omega) (by simp)
  rw [Nat.zero_add, List.nil_append] at hown
  have hc1 : Ch [] w w1 := hcA.trans2 (Ch.of_grown (S := [w.heap.size]) hgr (fun k hk => by simp [Value.ownBlock] at hk; simp [hk])) (by simp)
  have bs : ∀ w : World, (Instr.buildSlice 53 0 #[]).run Tryz.prog w = .ok (.slice (some ⟨w.heap.size, 0, none⟩) 0 0) (w.alloc (.cells #[] 22)) := fun w => by kernel_rfl
  have HO := Lib.hid hown
  have HC := Lib.hid hc1
  clear hmade hcA hgr hown hc1 h
  go_enter Tryz.func47, Tryz.ntmps47
  go_wp2_with (at_builtin; refine Lib.wpList_append_run _ rfl _ _ 53 53 rfl _ _ rfl rfl _ _ hrun ?_)
  go_ret
  obtain ⟨a', c', rfl⟩ := own_form HO.out
  exact ⟨a', c', rfl, HO.out, HC.out⟩
end Go.Proofs.Hc
/- Law 19: WriteSteps, the walk (printed by gen_steps19.py). -/
namespace Go.Proofs.Hc
open Go.RowKit
attribute [local go_sem] wrap_u64 wrap_u8 bits_xor64 bits_and64 bits_or64 bits_not64 bits_xor8 bits_and8 bits_or8 signed64 signed8 ofInt_N BitVec.ofInt_add BitVec.ofInt_mul ofInt_sub' ofInt8_N64 ofInt64_N8 wide8 eqN neN shr_pow shr1 shr7 shr56
attribute [local go_sem high] bits_com64 shl_wrap
attribute [local go_sem] cell_heap ice_heap cellAt_cells iceAt_cells setAt_cells rowAt_cells canLay_cells laidAt_cells size_onObj size_setCell rowRes_some layRes_true
attribute [local go_sem] load26 load73 load23 store26 build73
attribute [local go_sem ↓] lrow26 lrow73 lrow23 srow26 zero26 brow73 heap_alloc heap_drew heap_drewN heap_setCell heap_onObj
attribute [local go_sem] tcells_size hcells_size tcells_get hcells_get tcells_one hcells_one hcells_table tcells_table hcells_all hcells_ctrl tcells_ctrl
attribute [local go_sem] nn2 nm2 nn3 nm3 nn4 nm4 nn5 nm5 nn6 nm6 nn7 nm7 nn8 nm8
attribute [local go_sem] nn2 nm2 nn3 nm3 nn4 nm4 nn5 nm5 nn6 nm6 nn7 nm7 nn8 nm8
attribute [local go_sem] ofInt_N ofInt_pow8
attribute [local go_sem] Oper.semAt_some make_func1
attribute [local go_sem] pen_g0 pen_g1 pen_g2 pen_g3 pen_g4 pen_g5 pen_g6 pen_g7 pen_g8 pen_g9 pen_g10 pen_g11 pen_g12 pen_g13 pen_g14 pen_g15 pen_g16 pen_g17 penC_size penC_one penC_all
attribute [local irreducible] penC
attribute [local go_sem] pen_s0 pen_s1 pen_s2 pen_s3 pen_s4 pen_s5 pen_s6 pen_s7 pen_s8 pen_s9 pen_s10 pen_s11 pen_s12 pen_s13 pen_s14 pen_s15 pen_s16 pen_s17
attribute [local go_sem] boxPen loadPen storePen buildPen0
attribute [local go_sem ↓] lrowPen srowPen wzeroPen_run browPen
attribute [local go_sem high] wlaidAt_pen
theorem eqin_pen (p : PenT) (w : World) : (Op.equalIn 10000 71 (.agg (penC p)) (.agg (penC p))).run Tryz.prog w = .ok true w := self_pen 9997 p w
attribute [local go_sem] guardPen
attribute [local go_sem ↓] eqin_pen eql_pen neq_pen
theorem wStep_is {l : List (BitVec 64)} {p : PenT} {n : Nat} {z : List (BitVec 64) × PenT} (h1 : 1 ≤ n) (hn : n ≤ 8192) (hl : l.length = n) (hr : rightP p = true) (hz : stepP l p = some z) (r c : Nat) (cur : Array Value) (hw : WordsAt cur l) (w : World) (hb : w.heap[r]? = some (.cells cur 22 (0, 0))) :
    Calls Tryz.prog 43 #[.slice (some ⟨r, 0, none⟩) n c, .agg (penC p)] w fun e w' => ∃ R, e = .returned (.tuple #[.slice (some ⟨R, 0, none⟩) n n, .agg (penC z.2), I 0]) ∧ z.1.length = n ∧ w.heap.size ≤ R ∧ w'.heap[R]? = some (.cells (wcells z.1) 22 (0, 0)) ∧ Ch [] w w' := by
  subst hl
  refine (wStep_any l r c cur p w h1 hn hb hw hr).mono ?_
  intro e w' h
  unfold StepPost at h
  rw [hz] at h
  obtain ⟨R, rfl, hrow, hyl, hC⟩ := h
  exact ⟨R, by rw [hyl], hyl, hrow.1, hrow.2, hC⟩
theorem own_row {w : World} {base n : Nat} {v : Value} {l : List (BitVec 64)} (h : w.ownsRow base 22 1 v n (l.map fun x => U x)) (h1 : 1 ≤ n) : ∃ r c cur, v = .slice (some ⟨r, 0, none⟩) n c ∧ base ≤ r ∧ l.length = n ∧ WordsAt cur l ∧ w.heap[r]? = some (.cells cur 22 (0, 0)) := by
  obtain ⟨r0, c0, cur0, hv0, hl0, hW0, hA0⟩ := RowIn.own h h1
  obtain ⟨hlen, ⟨_, h0⟩ | ⟨r, c, cur, rfl, hb, hW, _⟩⟩ := h
  · omega
  · simp only [Value.slice.injEq, Option.some.injEq, Addr.mk.injEq] at hv0
    obtain ⟨⟨rfl, _⟩, _, rfl⟩ := hv0
    rw [hW0] at hW
    have := Option.some.inj hW
    injection this with e1
    subst e1
    exact ⟨r, c, cur0, rfl, hb, hl0, hA0, hW0⟩
theorem eq_rows {l : List (BitVec 64)} {n : Nat} (hn : n ≤ 900000) (hl : l.length = n) (R R2 c d : Nat) (cur cur2 : Array Value) (h1 : WordsAt cur l) (h2 : WordsAt cur2 l) (w : World) (hb : w.heap[R]? = some (.cells cur 22 (0, 0))) (hb2 : w.heap[R2]? = some (.cells cur2 22 (0, 0))) :
    Calls Tryz.prog 46 #[.slice (some ⟨R, 0, none⟩) n c, .slice (some ⟨R2, 0, none⟩) n d] w fun e w' => e = .returned (.bool true) ∧ Ch [] w w' := by
  subst hl
  exact eqWords_any l _ _ c d cur cur2 w hn h1 (fun _ => ⟨R, rfl⟩) (fun r h => by cases h; exact hb) h2 (fun _ => ⟨R2, rfl⟩) (fun r h => by cases h; exact hb2)
end Go.Proofs.Hc
/- Law 19, WriteTable: what its walk needs. -/
namespace Go.Proofs.Hc
open Go.RowKit
attribute [local go_sem] wrap_u64 wrap_u8 bits_xor64 bits_and64 bits_or64 bits_not64 bits_xor8 bits_and8 bits_or8 signed64 signed8 ofInt_N BitVec.ofInt_add BitVec.ofInt_mul ofInt_sub' ofInt8_N64 ofInt64_N8 wide8 eqN neN shr_pow shr1 shr7 shr56
attribute [local go_sem high] bits_com64 shl_wrap
attribute [local go_sem] cell_heap ice_heap cellAt_cells iceAt_cells setAt_cells rowAt_cells canLay_cells laidAt_cells size_onObj size_setCell rowRes_some layRes_true
attribute [local go_sem] load26 load73 load23 store26 build73
attribute [local go_sem ↓] lrow26 lrow73 lrow23 srow26 zero26 brow73 heap_alloc heap_drew heap_drewN heap_setCell heap_onObj
attribute [local go_sem] tcells_size hcells_size tcells_get hcells_get tcells_one hcells_one hcells_table tcells_table hcells_all hcells_ctrl tcells_ctrl
attribute [local go_sem] nn2 nm2 nn3 nm3 nn4 nm4 nn5 nm5 nn6 nm6 nn7 nm7 nn8 nm8
attribute [local go_sem] nn2 nm2 nn3 nm3 nn4 nm4 nn5 nm5 nn6 nm6 nn7 nm7 nn8 nm8
theorem clone_rows2 {l : List (BitVec 64)} {n : Nat} (h1 : 1 ≤ n) (hn : n ≤ 900000) (hl : l.length = n) (R c : Nat) (cur : Array Value) (hw : WordsAt cur l) (w : World) (hb : w.heap[R]? = some (.cells cur 22 (0, 0))) :
    Calls Tryz.prog 47 #[.slice (some ⟨R, 0, none⟩) n c] w fun e w' => ∃ r c' cur', e = .returned (.slice (some ⟨r, 0, none⟩) n c') ∧ n ≤ c' ∧ w.heap.size ≤ r ∧ WordsAt cur' l ∧ w'.heap[r]? = some (.cells cur' 22 (0, 0)) ∧ Ch [] w w' := by
  subst hl
  refine (cloneWords_any l ⟨R, 0, none⟩ c w hn (fun w' hc j u hj => ?_)).mono ?_
  · rw [List.getElem?_map] at hj
    obtain ⟨x, hx, rfl⟩ := Option.map_eq_some_iff.1 hj
    rw [Addr.add_lit, cell_heap, hkeep hc hb, Option.bind_some, cellAt_cells, Nat.zero_add]
    exact hw j x hx
  · rintro e w' ⟨a', c', rfl, ho, hC⟩
    have hle : l.length ≤ c' := by
      obtain ⟨_, ⟨hv, h0⟩ | ⟨g, cap, cur, hv, _, _, hle, _⟩⟩ := id ho
      · omega
      · simp only [Value.slice.injEq] at hv
        omega
    obtain ⟨r, c2, cur2, hv, hb2, _, hA, hW⟩ := own_row ho h1
    simp only [Value.slice.injEq] at hv
    obtain ⟨rfl, _, rfl⟩ := hv
    exact ⟨r, c', cur2, rfl, hle, hb2, hA, hW, hC⟩
theorem first_right {sl op : Int} (k a b h : BitVec 64) (s0 : 0 ≤ sl) (s1 : sl < 128) (o0 : 2 ≤ op) (o1 : op ≤ 5) : rightP (firstP sl op k a b h) = true :=
  (rightP_iff _).2 ⟨by show (0 : Int) ≤ 0; omega, by show (0 : Int) ≤ 16; omega, s0, s1, o0, o1, by show oddB 0#64 = false; decide, .inl rfl, by show (0 : Int) ≤ 0; omega, by show (0 : Int) ≤ 15; omega, by show (0 : Int) ≤ 0; omega, by show (0 : Int) ≤ 16; omega, fun e => by have e' : (0 : Int) = 2 := e; omega, .inl (by show (0 : Int) < 4; omega)⟩
theorem laidW_over {c : List (BitVec 64)} {B : Nat} (t t' : Tab) (hB : B + 40 ≤ c.length) : (laidW c B t).take B ++ (twords t' ++ (laidW c B t).drop (B + 40)) = laidW c B t' := by
  apply List.ext_getElem?
  intro i
  rw [laidW_get t' hB]
  have hl := laidW_len (c := c) t hB
  have hlt : ((laidW c B t).take B).length = B := by rw [List.length_take]; omega
  by_cases h1 : i < B
  · rw [if_neg (by omega), List.getElem?_append_left (by omega), List.getElem?_take, if_pos h1, laidW_get t hB, if_neg (by omega)]
  · rw [List.getElem?_append_right (by omega), hlt]
    by_cases h2 : i < B + 40
    · rw [if_pos (by omega), List.getElem?_append_left (by rw [twords_len]; omega), twords_get _ _ (by omega)]
    · rw [if_neg (by omega), List.getElem?_append_right (by rw [twords_len]; omega), twords_len, List.getElem?_drop, laidW_get t hB, if_neg (by omega)]
      congr 1; omega
end Go.Proofs.Hc
