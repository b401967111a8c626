/- Package table: the row of a key's groups, told one by one. -/
import Derived.Test.YtcikopeddljgkaaGreatKHcb
import Derived.Test.YtcikopeddljgkaaGreatKHd
import Derived.Test.YtcikopeddljgkaaGreatKHdn
import Derived.Test.YtcikopeddljgkaaGreatKHj
import Derived.Test.YtcikopeddljgkaaGreatKHmet
import Derived.Test.YtcikopeddljgkaaGreatKHo
import Derived.Test.YtcikopeddljgkaaGreatKHq2
import Derived.Test.YtcikopeddljgkaaGreatKHr
import Derived.Test.YtcikopeddljgkaaGreatKHre2
import Derived.Below
import Derived.BigQuiet
import Derived.Deep.Draws
import Derived.Deep.QuietTactic
import Derived.Laws.CopyRow
import Derived.Laws.Tables
import Derived.Lib.AppendZerosOnto
import Derived.Lib.Hide
import Derived.Lib.Tables
import Derived.Lib.Walk
import Derived.LoopIn
import Derived.LoopN
import Derived.LoopNIn
import Derived.Maps.AppendAt
import Derived.OwnWalkIn
import Derived.RangeFuncBox
import Derived.RangeFuncCalls
import Derived.RangeFuncRecord
import Derived.RangeFuncSeq
import Derived.Recover
import Derived.RegionTactic
import Derived.Shelf.Slices.Clone
import Derived.StillTail
import Derived.TacticsInMore
import Derived.Test.YtcikopeddljgkaaGreatProg
import Derived.WalkKit
import Derived.WalkLawsBesides
import Derived.WalkMore
import Derived.WalkSpells
set_option linter.unusedSimpArgs false
set_option linter.unusedVariables false
namespace Go.Proofs.Hc
open Go.RowKit
attribute [local go_sem] wrap_u64 wrap_u8 bits_xor64 bits_and64 bits_or64 bits_not64 bits_xor8 bits_and8 bits_or8 signed64 signed8 ofInt_N BitVec.ofInt_add BitVec.ofInt_mul ofInt_sub' ofInt8_N64 ofInt64_N8 wide8 eqN neN shr_pow shr1 shr7 shr56
attribute [local go_sem high] bits_com64 shl_wrap
attribute [local go_sem] cell_heap ice_heap cellAt_cells iceAt_cells setAt_cells rowAt_cells canLay_cells laidAt_cells size_onObj size_setCell rowRes_some layRes_true
attribute [local go_sem] load26 load73 load23 store26 build73
attribute [local go_sem ↓] lrow26 lrow73 lrow23 srow26 zero26 brow73 heap_alloc heap_drew heap_drewN heap_setCell heap_onObj
attribute [local go_sem] tcells_size hcells_size tcells_get hcells_get tcells_one hcells_one hcells_table tcells_table hcells_all hcells_ctrl tcells_ctrl
attribute [local go_sem] nn2 nm2 nn3 nm3 nn4 nm4 nn5 nm5 nn6 nm6 nn7 nm7 nn8 nm8
attribute [local go_sem] nn2 nm2 nn3 nm3 nn4 nm4 nn5 nm5 nn6 nm6 nn7 nm7 nn8 nm8
attribute [local go_sem] Oper.semAt_some make_func1
attribute [local go_sem] box26 tcells_idx cell0 cell1 cell2 cell3 cell4 hcells_idx hcells_pop
/-- The first group of a key. -/
def gOf (s k : BitVec 64) : Nat := g0 (hash1 (hashOf s k))
/-- A key's groups, as long as their control words do not stop. -/
def rowT (t : Tab) (s k : BitVec 64) : List Nat := if emptyM (t.c (gOf s k)) != 0#8 then [gOf s k] else [gOf s k, 1 - gOf s k]
theorem hcells_ctrl_at (t : Tab) (s : BitVec 64) (g : Nat) (h : g < 2) : (hcells t s)[5 + g]? = some (U (t.c g)) := by
  rw [hcells_get, if_pos (by omega), if_neg (by omega)]
  match g, h with
  | 0, _ => rfl
  | 1, _ => rfl
theorem lt_two {g : Nat} (h : g < 2) : g = 0 ∨ g = 1 := by omega
theorem cell5 (t : Tab) : t.cell 5 = U (t.c 0) := rfl
theorem cell6 (t : Tab) : t.cell 6 = U (t.c 1) := rfl
attribute [local go_sem] cell5 cell6
theorem pick_ok (t : Tab) (g : Nat) (h : g < 2) (h0 : ctrlOk (t.c 0) = true) (h1 : ctrlOk (t.c 1) = true) : ctrlOk (t.c g) = true := by
  match g, h with
  | 0, _ => exact h0
  | 1, _ => exact h1
theorem enters_row (args : Array Value) (w : World) : (callFunc 258 args).run Tryz.prog w = .ok (.enter 258 args) w := by kernel_rfl
set_option maxHeartbeats 4000000 in
set_option maxRecDepth 100000 in
theorem row_yields (t : Tab) (s k : BitVec 64) (b p q : Nat) (w : World) (hok0 : ctrlOk (t.c 0) = true) (hok1 : ctrlOk (t.c 1) = true) (hb : w.heap[b]? = some (.cells (hcells t s) 141 (0, 0)))
    (hp : w.heap[p]? = some (.cells #[.pointer (some ⟨b, 0, none⟩)] 137 (0, 0))) (hq : w.heap[q]? = some (.cells #[U k] 22 (0, 0))) :
    YieldsO Tryz.prog 258 #[.pointer (some ⟨p, 0, none⟩), .pointer (some ⟨q, 0, none⟩)] (fun g : Nat => #[I g]) (rowT t s k) [] [b, p, q] w := by
  intro n l J Jx W O0 hW hk hO hJ hJx hY h0
  have hb' := (hk b (by simp)).trans hb
  have hp' := (hk p (by simp)).trans hp
  have hq' := (hk q (by simp)).trans hq
  clear hb hp hq hk hW
  have H1 := fun w => hashOf_any s k w
  have H2 := fun w => hash1_any (hashOf s k) w
  have H3 := fun w => row_any (hash1 (hashOf s k)) w
  have hg2 := g0_lt (hash1 (hashOf s k))
  unfold rowT gOf at hY ⊢
  generalize g0 (hash1 (hashOf s k)) = g at *
  generalize hash1 (hashOf s k) = h1 at *
  generalize hashOf s k = h0' at *
  have S1 : ∀ w, Calls Tryz.prog 139 #[U (t.c g)] w fun e w' => e = .returned (.bool (emptyM (t.c g) != 0#8)) ∧ Ch [] w w' := fun w => stops_ok (t.c g) (pick_ok t g hg2 hok0 hok1) w
  have S2 : ∀ w, Calls Tryz.prog 139 #[U (t.c (1 - g))] w fun e w' => e = .returned (.bool (emptyM (t.c (1 - g)) != 0#8)) ∧ Ch [] w w' := fun w => stops_ok (t.c (1 - g)) (pick_ok t (1 - g) (Nat.lt_of_le_of_lt (Nat.sub_le 1 g) (Nat.lt_succ_self 1)) hok0 hok1) w
  clear hok0 hok1
  generalize (emptyM (t.c g) != 0#8) = st at *
  generalize (emptyM (t.c (1 - g)) != 0#8) = st2 at *
  have hgW : ∀ g : Gar W, (g.1).heap[b]? = some (.cells (hcells t s) 141 (0, 0)) ∧ (g.1).heap[p]? = some (.cells #[.pointer (some ⟨b, 0, none⟩)] 137 (0, 0)) ∧ (g.1).heap[q]? = some (.cells #[U k] 22 (0, 0)) :=
    fun g => ⟨(g.2.block b (Array.getElem?_eq_some_iff.1 hb').1 (by simp)).trans hb', (g.2.block p (Array.getElem?_eq_some_iff.1 hp').1 (by simp)).trans hp', (g.2.block q (Array.getElem?_eq_some_iff.1 hq').1 (by simp)).trans hq'⟩
  have hgb := fun g => (hgW g).1
  have hgp := fun g => (hgW g).2.1
  have hgq := fun g => (hgW g).2.2
  have hkk : ∀ W' : World, Ch [] W W' → W'.heap[b]? = some (.cells (hcells t s) 141 (0, 0)) ∧ W'.heap[p]? = some (.cells #[.pointer (some ⟨b, 0, none⟩)] 137 (0, 0)) := fun W' c => ⟨hgb ⟨W', c⟩, hgp ⟨W', c⟩⟩
  clear hgW hb' hp' hq'
  refine callsIn_of_wp Tryz.func258 rfl trivial ?_
  simp only [Tryz.ntmps258, List.size_toArray, List.length_cons, List.length_nil, Nat.reduceAdd, Nat.reduceSub, Array.replicate_succ, Array.replicate_zero, List.push_toArray, List.append_toArray, List.nil_append, List.cons_append]
  gi_wp2
  refine wpIn_wide.2 (wp_region_gar_mid 5 2 (by kernel_rfl) (by kernel_rfl) ?_)
  simp only [List.take_succ_cons, List.take_zero, List.drop_succ_cons, List.drop_zero]
  repeat (go_big_quiet_step (fail))
  refine wpQuiet_nil ?_
  rintro W1 ⟨g1, hw1⟩
  have hc1 : Ch [] W W1 := by rw [hw1]; exact g1.2
  clear hw1 g1 hgb hgp hgq
  go_wp2_with (first
    | (go_at_call 67; refine (H1 _).mono ?_; rintro e w' ⟨rfl, rfl⟩)
    | (go_at_call 260; refine (H2 _).mono ?_; rintro e w' ⟨rfl, rfl⟩)
    | (go_at_call 259; refine (H3 _).mono ?_; rintro e W2 ⟨v, rfl, hown, hc2⟩))
  have hC2 : Ch [] W W2 := hc1.trans hc2
  obtain ⟨r, cap, rfl⟩ := ownsRow_succ hown
  have hown' := hown
  obtain ⟨_, ⟨hx, _⟩ | ⟨r', cap', cur, hv, hrW, hr, hc2', hcm, hsz, hcur⟩⟩ := hown'
  · cases hx
  cases hv
  have hrow : W2.heap[r]? = some (.cells cur 3 (0, 0)) := hr
  have hcur0 : cur[0]? = some (I g) := by
    have : (cur.toList.take (2 * 1))[0]? = some (I g) := by rw [hcur]; rfl
    simpa using this
  have hcur1 : cur[1]? = some (I (1 - g : Nat)) := by
    have : (cur.toList.take (2 * 1))[1]? = some (I (1 - g : Nat)) := by rw [hcur]; rfl
    simpa using this
  repeat (go_big_quiet_step (fail))
  refine wpQuiet_nil ?_
  rintro W3 ⟨g3, hw3⟩
  have hc3 : Ch [] W2 W3 := by rw [hw3]; exact g3.2
  clear hw3 g3
  have hrow3 : W3.heap[r]? = some (.cells cur 3 (0, 0)) := (hc3.block r (Array.getElem?_eq_some_iff.1 hrow).1 (by simp)).trans hrow
  have hC3 : Ch [] W W3 := hC2.trans hc3
  obtain ⟨hb3, hp3⟩ := hkk W3 hC3
  have hJ3 := hJ _ _ _ _ h0 hC3
  have hrO : ¬ O0 r := fun h => by have := (hO _ _ _ h0 r h).1; have := hc1.size; omega
  clear hown hr hrow hc1 hc2 hc3 hC2 hcur hsz
  have hnb : b ∈ [b, p, q] ∧ p ∈ [b, p, q] := by simp
  have ob0 : ¬ O0 b := fun h => (hO _ _ _ h0 b h).2 hnb.1
  have op0 : ¬ O0 p := fun h => (hO _ _ _ h0 p h).2 hnb.2
  rcases lt_two hg2 with rfl | rfl
  · have hcur0 : cur[0]? = some (.int .i64 0) := hcur0
    have hcur1 : cur[1]? = some (.int .i64 1) := hcur1
    have S1 : ∀ w, Calls Tryz.prog 139 #[U (t.c 0)] w fun e w' => e = .returned (.bool st) ∧ Ch [] w w' := S1
    have S2 : ∀ w, Calls Tryz.prog 139 #[U (t.c 1)] w fun e w' => e = .returned (.bool st2) ∧ Ch [] w w' := S2
    gi_wp2
    refine wpIn_loop_rounds 3 ?_
    rw [roundsIn_succ]
    gi_wp2
    cases st with
    | true =>
      obtain ⟨fn, tmps, assign, body, hy, hR⟩ := hY [] O0 0 [] W3 rfl hJ3
      have hy : Sem.run Tryz.prog (Instr.yield l #[.int .i64 0]) W3 = .ok (.round l fn tmps assign body) W3 := hy
      gi_wp2
      first
        | refine hR.mono ?_
        | (rw [show Sem.run Tryz.prog (Instr.yield l #[I 0]) W3 = _ from hy]
           gi_wp2
           refine hR.mono ?_)
      clear hy hR
      rintro e W4 (⟨rfl, ⟨O', hJ4, hO'⟩, hz4, hk4⟩ | ⟨rfl, hJx4⟩)
      · have hb4 := (hk4 b (Array.getElem?_eq_some_iff.1 hb3).1 ob0).trans hb3
        have hp4 := (hk4 p (Array.getElem?_eq_some_iff.1 hp3).1 op0).trans hp3
        have hrow4 := (hk4 r (Array.getElem?_eq_some_iff.1 hrow3).1 hrO).trans hrow3
        have hl3 : b < W3.heap.size ∧ p < W3.heap.size ∧ r < W3.heap.size := ⟨(Array.getElem?_eq_some_iff.1 hb3).1, (Array.getElem?_eq_some_iff.1 hp3).1, (Array.getElem?_eq_some_iff.1 hrow3).1⟩
        have bO' : ¬ O' b ∧ ¬ O' p ∧ ¬ O' r := ⟨fun h => (hO' b h).elim ob0 (fun h => Nat.lt_irrefl _ (Nat.lt_of_lt_of_le hl3.1 h)), fun h => (hO' p h).elim op0 (fun h => Nat.lt_irrefl _ (Nat.lt_of_lt_of_le hl3.2.1 h)), fun h => (hO' r h).elim hrO (fun h => Nat.lt_irrefl _ (Nat.lt_of_lt_of_le hl3.2.2 h))⟩
        clear hk4 hl3
        gi_wp2_with (refine ⟨trivial, ?_⟩; gi_at_call 139; refine (callsIn_wide.2 (S1 _)).mono ?_; rintro e W5 ⟨rfl, hc5⟩)
        refine bodyPost_ret (results_none rfl _ _ _) rfl ?_
        exact ⟨⟨_, rfl⟩, .inl ⟨_, hJ _ _ _ _ hJ4 hc5⟩⟩
      · gi_wp2
        refine ⟨trivial, ?_⟩
        gi_wp2
        refine bodyPost_ret (results_none rfl _ _ _) rfl ?_
        exact ⟨⟨_, rfl⟩, .inr hJx4⟩
    | false =>
      obtain ⟨fn, tmps, assign, body, hy, hR⟩ := hY [] O0 0 [1 - 0] W3 rfl hJ3
      have hy : Sem.run Tryz.prog (Instr.yield l #[.int .i64 0]) W3 = .ok (.round l fn tmps assign body) W3 := hy
      gi_wp2
      first
        | refine hR.mono ?_
        | (rw [show Sem.run Tryz.prog (Instr.yield l #[I 0]) W3 = _ from hy]
           gi_wp2
           refine hR.mono ?_)
      clear hy hR
      rintro e W4 (⟨rfl, ⟨O', hJ4, hO'⟩, hz4, hk4⟩ | ⟨rfl, hJx4⟩)
      · have hb4 := (hk4 b (Array.getElem?_eq_some_iff.1 hb3).1 ob0).trans hb3
        have hp4 := (hk4 p (Array.getElem?_eq_some_iff.1 hp3).1 op0).trans hp3
        have hrow4 := (hk4 r (Array.getElem?_eq_some_iff.1 hrow3).1 hrO).trans hrow3
        have hl3 : b < W3.heap.size ∧ p < W3.heap.size ∧ r < W3.heap.size := ⟨(Array.getElem?_eq_some_iff.1 hb3).1, (Array.getElem?_eq_some_iff.1 hp3).1, (Array.getElem?_eq_some_iff.1 hrow3).1⟩
        have bO' : ¬ O' b ∧ ¬ O' p ∧ ¬ O' r := ⟨fun h => (hO' b h).elim ob0 (fun h => Nat.lt_irrefl _ (Nat.lt_of_lt_of_le hl3.1 h)), fun h => (hO' p h).elim op0 (fun h => Nat.lt_irrefl _ (Nat.lt_of_lt_of_le hl3.2.1 h)), fun h => (hO' r h).elim hrO (fun h => Nat.lt_irrefl _ (Nat.lt_of_lt_of_le hl3.2.2 h))⟩
        clear hk4 hl3
        gi_wp2_with (refine ⟨trivial, ?_⟩; gi_at_call 139; refine (callsIn_wide.2 (S1 _)).mono ?_; rintro e W5 ⟨rfl, hc5⟩)
        have hb5 := (hc5.block b (Array.getElem?_eq_some_iff.1 hb4).1 (by simp)).trans hb4
        have hp5 := (hc5.block p (Array.getElem?_eq_some_iff.1 hp4).1 (by simp)).trans hp4
        have hrow5 := (hc5.block r (Array.getElem?_eq_some_iff.1 hrow4).1 (by simp)).trans hrow4
        obtain ⟨fn2, tmps2, assign2, body2, hy2, hR2⟩ := hY [0] O' (1 - 0) [] W5 rfl (hJ _ _ _ _ hJ4 hc5)
        have hy2 : Sem.run Tryz.prog (Instr.yield l #[.int .i64 1]) W5 = .ok (.round l fn2 tmps2 assign2 body2) W5 := hy2
        clear hb4 hp4 hrow4
        rw [roundsIn_succ]
        gi_wp2
        first
          | refine hR2.mono ?_
          | (rw [show Sem.run Tryz.prog (Instr.yield l #[I 1]) W5 = _ from hy2]
             gi_wp2
             refine hR2.mono ?_)
        clear hy2 hR2
        rintro e W6 (⟨rfl, ⟨O6, hJ6, hO6⟩, hz6, hk6⟩ | ⟨rfl, hJx6⟩)
        · have hb6 := (hk6 b (Array.getElem?_eq_some_iff.1 hb5).1 bO'.1).trans hb5
          have hp6 := (hk6 p (Array.getElem?_eq_some_iff.1 hp5).1 bO'.2.1).trans hp5
          clear hk6
          cases st2
          all_goals
            gi_wp2_with (refine ⟨trivial, ?_⟩; gi_at_call 139; refine (callsIn_wide.2 (S2 _)).mono ?_; rintro e W7 ⟨rfl, hc7⟩)
            first
              | (refine bodyPost_ret (results_none rfl _ _ _) rfl ?_
                 exact ⟨⟨_, rfl⟩, .inl ⟨_, hJ _ _ _ _ hJ6 hc7⟩⟩)
              | (rw [roundsIn_succ]
                 gi_wp2
                 refine bodyPost_end (results_none rfl _ _ _) rfl ?_
                 exact ⟨⟨_, rfl⟩, .inl ⟨_, hJ _ _ _ _ hJ6 hc7⟩⟩)
        · gi_wp2
          refine ⟨trivial, ?_⟩
          gi_wp2
          refine bodyPost_ret (results_none rfl _ _ _) rfl ?_
          exact ⟨⟨_, rfl⟩, .inr hJx6⟩
      · gi_wp2
        refine ⟨trivial, ?_⟩
        gi_wp2
        refine bodyPost_ret (results_none rfl _ _ _) rfl ?_
        exact ⟨⟨_, rfl⟩, .inr hJx4⟩
  · have hcur0 : cur[0]? = some (.int .i64 1) := hcur0
    have hcur1 : cur[1]? = some (.int .i64 0) := hcur1
    have S1 : ∀ w, Calls Tryz.prog 139 #[U (t.c 1)] w fun e w' => e = .returned (.bool st) ∧ Ch [] w w' := S1
    have S2 : ∀ w, Calls Tryz.prog 139 #[U (t.c 0)] w fun e w' => e = .returned (.bool st2) ∧ Ch [] w w' := S2
    gi_wp2
    refine wpIn_loop_rounds 3 ?_
    rw [roundsIn_succ]
    gi_wp2
    cases st with
    | true =>
      obtain ⟨fn, tmps, assign, body, hy, hR⟩ := hY [] O0 1 [] W3 rfl hJ3
      have hy : Sem.run Tryz.prog (Instr.yield l #[.int .i64 1]) W3 = .ok (.round l fn tmps assign body) W3 := hy
      gi_wp2
      first
        | refine hR.mono ?_
        | (rw [show Sem.run Tryz.prog (Instr.yield l #[I 1]) W3 = _ from hy]
           gi_wp2
           refine hR.mono ?_)
      clear hy hR
      rintro e W4 (⟨rfl, ⟨O', hJ4, hO'⟩, hz4, hk4⟩ | ⟨rfl, hJx4⟩)
      · have hb4 := (hk4 b (Array.getElem?_eq_some_iff.1 hb3).1 ob0).trans hb3
        have hp4 := (hk4 p (Array.getElem?_eq_some_iff.1 hp3).1 op0).trans hp3
        have hrow4 := (hk4 r (Array.getElem?_eq_some_iff.1 hrow3).1 hrO).trans hrow3
        have hl3 : b < W3.heap.size ∧ p < W3.heap.size ∧ r < W3.heap.size := ⟨(Array.getElem?_eq_some_iff.1 hb3).1, (Array.getElem?_eq_some_iff.1 hp3).1, (Array.getElem?_eq_some_iff.1 hrow3).1⟩
        have bO' : ¬ O' b ∧ ¬ O' p ∧ ¬ O' r := ⟨fun h => (hO' b h).elim ob0 (fun h => Nat.lt_irrefl _ (Nat.lt_of_lt_of_le hl3.1 h)), fun h => (hO' p h).elim op0 (fun h => Nat.lt_irrefl _ (Nat.lt_of_lt_of_le hl3.2.1 h)), fun h => (hO' r h).elim hrO (fun h => Nat.lt_irrefl _ (Nat.lt_of_lt_of_le hl3.2.2 h))⟩
        clear hk4 hl3
        gi_wp2_with (refine ⟨trivial, ?_⟩; gi_at_call 139; refine (callsIn_wide.2 (S1 _)).mono ?_; rintro e W5 ⟨rfl, hc5⟩)
        refine bodyPost_ret (results_none rfl _ _ _) rfl ?_
        exact ⟨⟨_, rfl⟩, .inl ⟨_, hJ _ _ _ _ hJ4 hc5⟩⟩
      · gi_wp2
        refine ⟨trivial, ?_⟩
        gi_wp2
        refine bodyPost_ret (results_none rfl _ _ _) rfl ?_
        exact ⟨⟨_, rfl⟩, .inr hJx4⟩
    | false =>
      obtain ⟨fn, tmps, assign, body, hy, hR⟩ := hY [] O0 1 [1 - 1] W3 rfl hJ3
      have hy : Sem.run Tryz.prog (Instr.yield l #[.int .i64 1]) W3 = .ok (.round l fn tmps assign body) W3 := hy
      gi_wp2
      first
        | refine hR.mono ?_
        | (rw [show Sem.run Tryz.prog (Instr.yield l #[I 1]) W3 = _ from hy]
           gi_wp2
           refine hR.mono ?_)
      clear hy hR
      rintro e W4 (⟨rfl, ⟨O', hJ4, hO'⟩, hz4, hk4⟩ | ⟨rfl, hJx4⟩)
      · have hb4 := (hk4 b (Array.getElem?_eq_some_iff.1 hb3).1 ob0).trans hb3
        have hp4 := (hk4 p (Array.getElem?_eq_some_iff.1 hp3).1 op0).trans hp3
        have hrow4 := (hk4 r (Array.getElem?_eq_some_iff.1 hrow3).1 hrO).trans hrow3
        have hl3 : b < W3.heap.size ∧ p < W3.heap.size ∧ r < W3.heap.size := ⟨(Array.getElem?_eq_some_iff.1 hb3).1, (Array.getElem?_eq_some_iff.1 hp3).1, (Array.getElem?_eq_some_iff.1 hrow3).1⟩
        have bO' : ¬ O' b ∧ ¬ O' p ∧ ¬ O' r := ⟨fun h => (hO' b h).elim ob0 (fun h => Nat.lt_irrefl _ (Nat.lt_of_lt_of_le hl3.1 h)), fun h => (hO' p h).elim op0 (fun h => Nat.lt_irrefl _ (Nat.lt_of_lt_of_le hl3.2.1 h)), fun h => (hO' r h).elim hrO (fun h => Nat.lt_irrefl _ (Nat.lt_of_lt_of_le hl3.2.2 h))⟩
        clear hk4 hl3
        gi_wp2_with (refine ⟨trivial, ?_⟩; gi_at_call 139; refine (callsIn_wide.2 (S1 _)).mono ?_; rintro e W5 ⟨rfl, hc5⟩)
        have hb5 := (hc5.block b (Array.getElem?_eq_some_iff.1 hb4).1 (by simp)).trans hb4
        have hp5 := (hc5.block p (Array.getElem?_eq_some_iff.1 hp4).1 (by simp)).trans hp4
        have hrow5 := (hc5.block r (Array.getElem?_eq_some_iff.1 hrow4).1 (by simp)).trans hrow4
        obtain ⟨fn2, tmps2, assign2, body2, hy2, hR2⟩ := hY [1] O' (1 - 1) [] W5 rfl (hJ _ _ _ _ hJ4 hc5)
        have hy2 : Sem.run Tryz.prog (Instr.yield l #[.int .i64 0]) W5 = .ok (.round l fn2 tmps2 assign2 body2) W5 := hy2
        clear hb4 hp4 hrow4
        rw [roundsIn_succ]
        gi_wp2
        first
          | refine hR2.mono ?_
          | (rw [show Sem.run Tryz.prog (Instr.yield l #[I 0]) W5 = _ from hy2]
             gi_wp2
             refine hR2.mono ?_)
        clear hy2 hR2
        rintro e W6 (⟨rfl, ⟨O6, hJ6, hO6⟩, hz6, hk6⟩ | ⟨rfl, hJx6⟩)
        · have hb6 := (hk6 b (Array.getElem?_eq_some_iff.1 hb5).1 bO'.1).trans hb5
          have hp6 := (hk6 p (Array.getElem?_eq_some_iff.1 hp5).1 bO'.2.1).trans hp5
          clear hk6
          cases st2
          all_goals
            gi_wp2_with (refine ⟨trivial, ?_⟩; gi_at_call 139; refine (callsIn_wide.2 (S2 _)).mono ?_; rintro e W7 ⟨rfl, hc7⟩)
            first
              | (refine bodyPost_ret (results_none rfl _ _ _) rfl ?_
                 exact ⟨⟨_, rfl⟩, .inl ⟨_, hJ _ _ _ _ hJ6 hc7⟩⟩)
              | (rw [roundsIn_succ]
                 gi_wp2
                 refine bodyPost_end (results_none rfl _ _ _) rfl ?_
                 exact ⟨⟨_, rfl⟩, .inl ⟨_, hJ _ _ _ _ hJ6 hc7⟩⟩)
        · gi_wp2
          refine ⟨trivial, ?_⟩
          gi_wp2
          refine bodyPost_ret (results_none rfl _ _ _) rfl ?_
          exact ⟨⟨_, rfl⟩, .inr hJx6⟩
      · gi_wp2
        refine ⟨trivial, ?_⟩
        gi_wp2
        refine bodyPost_ret (results_none rfl _ _ _) rfl ?_
        exact ⟨⟨_, rfl⟩, .inr hJx4⟩
end Go.Proofs.Hc
