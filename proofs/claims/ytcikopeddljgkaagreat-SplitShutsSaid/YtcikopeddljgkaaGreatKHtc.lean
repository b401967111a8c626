/- Package table: the full slots and their groups, told one by one. -/
import Derived.Test.YtcikopeddljgkaaGreatKHg
import Derived.Test.YtcikopeddljgkaaGreatKHrw
set_option linter.unusedSimpArgs false
set_option linter.unusedVariables false
set_option maxHeartbeats 4000000
set_option maxRecDepth 100000
namespace Go.Proofs.Hc
open Go.RowKit
attribute [local go_sem] zbr zby zau zba zbl zay zbk zbm zbu signed64 signed8 zas BitVec.ofInt_add BitVec.ofInt_mul ofInt_sub' zaw zax wide8 eqN neN zbx shr1 shr7 shr56
attribute [local go_sem high] zaz zbt
attribute [local go_sem] zan zbv zae zal zad zbd zao zag zbj zaj zbc zbe
attribute [local go_sem] load26 load73 load23 store26 build73
attribute [local go_sem ↓] lrow26 lrow73 lrow23 srow26 zero26 brow73 zab zav zbb zaa zac
attribute [local go_sem] zah zaq zat zbf zbg zbp zam zar zbq zbi zbh
attribute [local go_sem] nn2 nm2 nn3 nm3 nn4 nm4 nn5 nm5 nn6 nm6 nn7 nm7 nn8 nm8
section
attribute [local go_sem] Oper.semAt_some zak
attribute [local go_sem] box26 zbz cell0 cell1 cell2 cell3 cell4 zcb zca
attribute [local go_sem] cell5 cell6
theorem index2_0 (x y : BitVec 64) (w : World) : (Instr.index 23 (.agg #[U x, U y]) (.int .i64 0)).run Tryz.prog w = .ok (U x) w := by kernel_rfl
theorem index2_1 (x y : BitVec 64) (w : World) : (Instr.index 23 (.agg #[U x, U y]) (.int .i64 1)).run Tryz.prog w = .ok (U y) w := by kernel_rfl
attribute [local go_sem] index2_0 index2_1
theorem own_slice {W : World} {base n : Nat} {e : TypeId} {v : Value} {xs : List Value} (h : W.ownsRow base e 1 v n xs) :
    ∃ a cap cur, v = .slice a n cap ∧ (∀ (i : Nat) (x : Value), xs[i]? = some x → cur[i]? = some x ∧ ∃ g, a = some ⟨g, 0, none⟩) ∧ ∀ g, a = some ⟨g, 0, none⟩ → base ≤ g ∧ W.heap[g]? = some (.cells cur e (0, 0)) := by
  obtain ⟨hl, ⟨rfl, rfl⟩ | ⟨g, cap, cur, hv, hg, hW, _, _, _, hx⟩⟩ := h
  · refine ⟨none, 0, #[], rfl, fun i x hi => ?_, fun g hg => by cases hg⟩
    have : xs = [] := List.eq_nil_of_length_eq_zero (by simpa using hl)
    rw [this] at hi; cases hi
  · refine ⟨_, cap, cur, hv, fun i x hi => ⟨?_, g, rfl⟩, fun g' hg' => by obtain rfl : g = g' := by simpa using hg'
                                                                          exact ⟨hg, hW⟩⟩
    rw [← hx, List.getElem?_take] at hi
    split at hi
    · simpa using hi
    · cases hi
theorem one_addr {r g : Nat} (h : (some ⟨r, 0, none⟩ : Option Addr) = some ⟨g, 0, none⟩) : r = g := by simpa using h
theorem wrap_small (x : Nat) (h : x < 8) : IntKind.i64.wrap (x : Int) = x := by rw [IntKind.wrap_i64]; omega
theorem wrap_small2 (x : Nat) (h : x < 8) : IntKind.i64.wrap (8 + (x : Int)) = 8 + x := by rw [IntKind.wrap_i64]; omega
theorem take_round {l0 : List Nat} {m : Nat} {cur : Array Value} {a : Option Addr} {g : Nat} (h : m < l0.length) (hx : ∀ (i : Nat) (x : Value), (l0.map fun i : Nat => I i)[i]? = some x → cur[i]? = some x ∧ ∃ r, a = some ⟨r, 0, none⟩) (hb : ∀ x ∈ l0, x < 8) (ys : List (Nat × Nat)) :
    ∃ x : Nat, x < 8 ∧ (cur[m]? = some (I x) ∧ ∃ r, a = some ⟨r, 0, none⟩) ∧ (l0.take m).map (fun l => (8 * g + l, g)) ++ [(8 * g + x, g)] = (l0.take (m + 1)).map (fun l => (8 * g + l, g)) ∧
      (l0.map fun l => (8 * g + l, g)) ++ ys = (l0.take m).map (fun l => (8 * g + l, g)) ++ (8 * g + x, g) :: ((l0.drop (m + 1)).map (fun l => (8 * g + l, g)) ++ ys) := by
  refine ⟨l0[m]'h, hb _ (List.getElem_mem h), hx m _ (by rw [List.getElem?_map, List.getElem?_eq_getElem h]; rfl), ?_, ?_⟩
  · rw [List.take_succ_eq_append_getElem h, List.map_append]; rfl
  · conv => lhs; rw [← List.take_append_drop m l0, List.drop_eq_getElem_cons h]
    rw [List.map_append, List.map_cons, List.append_assoc, List.cons_append]
def slotsOf (t : Tab) (g : Nat) : List (Nat × Nat) := (lanesOf (fullM (t.c g))).map fun l => (8 * g + l, g)
def slotsT (t : Tab) : List (Nat × Nat) := slotsOf t 0 ++ slotsOf t 1
theorem enters_slots (args : Array Value) (w : World) : (callFunc 217 args).run Tryz.prog w = .ok (.enter 217 args) w := by kernel_rfl
theorem slots_yields (t : Tab) (s : BitVec 64) (b p : Nat) (w : World) (hok0 : ctrlOk (t.c 0) = true) (hok1 : ctrlOk (t.c 1) = true) (hb : w.heap[b]? = some (.cells (hcells t s) 141 (0, 0)))
    (hp : w.heap[p]? = some (.cells #[.pointer (some ⟨b, 0, none⟩)] 137 (0, 0))) :
    YieldsO Tryz.prog 217 #[.pointer (some ⟨p, 0, none⟩)] (fun x : Nat × Nat => #[I x.1, I x.2]) (slotsT t) [] [b, p] w := by
  intro n l J Jx W O0 hW hk hO' hJ hJx hY' h0
  have hO := Lib.hid hO'
  have hY := Lib.hid hY'
  clear hO' hY'
  have hb' := (hk b (by simp)).trans hb
  have hp' := (hk p (by simp)).trans hp
  clear hb hp hk hW
  have S0 := fun w => sets_ok (t.c 0) hok0 w
  have S1 := fun w => sets_ok (t.c 1) hok1 w
  have A0 := fun w => all_any (fullM (t.c 0)) w
  have A1 := fun w => all_any (fullM (t.c 1)) w
  have B0 : ∀ x ∈ lanesOf (fullM (t.c 0)), x < 8 := fun x hx => by unfold lanesOf at hx; simpa using (List.mem_filter.1 hx).1
  have B1 : ∀ x ∈ lanesOf (fullM (t.c 1)), x < 8 := fun x hx => by unfold lanesOf at hx; simpa using (List.mem_filter.1 hx).1
  have L0 := lanes_le (fullM (t.c 0))
  have L1 := lanes_le (fullM (t.c 1))
  unfold slotsT slotsOf at hY ⊢
  generalize fullM (t.c 0) = f0 at *
  generalize fullM (t.c 1) = f1 at *
  generalize emptyM (t.c 0) = e0 at *
  generalize emptyM (t.c 1) = e1 at *
  generalize delM (t.c 0) = d0 at *
  generalize delM (t.c 1) = d1 at *
  generalize lanesOf f0 = l0 at *
  generalize lanesOf f1 = l1 at *
  clear hok0 hok1
  have ob0 : ¬ O0 b := fun h => (hO.out _ _ _ h0 b h).2 (by simp)
  have op0 : ¬ O0 p := fun h => (hO.out _ _ _ h0 p h).2 (by simp)
  refine callsIn_of_wp Tryz.func217 rfl trivial ?_
  simp only [Tryz.ntmps217, List.size_toArray, List.length_cons, List.length_nil, Nat.reduceAdd, Nat.reduceSub, Array.replicate_succ, Array.replicate_zero, List.push_toArray, List.append_toArray, List.nil_append, List.cons_append]
  gi_wp2
  refine wpIn_loop_rounds 3 ?_
  rw [roundsIn_succ]
  gi_wp2_with (first
    | (refine ⟨trivial, ?_⟩; gi_at_call 166; refine (callsIn_wide.2 (S0 _)).mono ?_; rintro e W10 ⟨rfl, hc1⟩)
    | (refine ⟨trivial, ?_⟩; gi_at_call 167; refine (callsIn_wide.2 (A0 _)).mono ?_; rintro e W20 ⟨v, rfl, hown, hc2⟩; obtain ⟨a0, cap0, cur0, rfl, hx0', hl0'⟩ := own_slice hown; clear hown))
  have hC2 : Ch [] W W20 := hc1.trans hc2
  have hb2 := (hC2.block b (Array.getElem?_eq_some_iff.1 hb').1 (by simp)).trans hb'
  have hp2 := (hC2.block p (Array.getElem?_eq_some_iff.1 hp').1 (by simp)).trans hp'
  have hJ2 := hJ _ _ _ _ h0 hC2
  have hx0 := Lib.hid hx0'
  have og0 : ∀ g, a0 = some ⟨g, 0, none⟩ → ¬ O0 g ∧ W20.heap[g]? = some (.cells cur0 3 (0, 0)) := fun g hg => ⟨fun h => by have := (hO.out _ _ _ h0 g h).1; have := hc1.size; have := (hl0' g hg).1; omega, (hl0' g hg).2⟩
  have OG := Lib.hid og0
  clear hb' hp' hc2 hc1 hx0' hl0' og0 h0
  gi_loopw [28] (fun i wr => ∃ (m : Nat) (O : Nat → Prop), i = .int .i64 m ∧ m ≤ l0.length ∧ J ((l0.take m).map (fun l => (8 * 0 + l, 0))) O wr ∧ (¬ O b ∧ ¬ O p) ∧
    (∀ g, a0 = some ⟨g, 0, none⟩ → ¬ O g ∧ wr.heap[g]? = some (.cells cur0 3 (0, 0))) ∧ wr.heap[b]? = some (.cells (hcells t s) 141 (0, 0)) ∧ wr.heap[p]? = some (.cells #[.pointer (some ⟨b, 0, none⟩)] 137 (0, 0))) (fun i _ => l0.length - (intOf i).toNat)
  case atStart => exact ⟨0, O0, rfl, Nat.zero_le _, by simpa using hJ2, ⟨ob0, op0⟩, OG.out, hb2, hp2⟩
  case round =>
    obtain ⟨m, O, hm, hml, hjm, ⟨ob, op⟩, hg', hbr, hpr⟩ := hrel
    subst hm
    have hg := Lib.hid hg'
    clear hb2 hp2 hJ2 OG hg'
    rcases Nat.lt_or_ge m l0.length with hlt | hge
    · obtain ⟨x, hx8, ⟨hxm, r, hr⟩, hnext, hsplit⟩ := take_round (g := 0) hlt hx0.out B0 (l1.map fun l => (8 * 1 + l, 1))
      subst hr
      obtain ⟨or, hrr⟩ := hg.out r rfl
      obtain ⟨fn, tmps, assign, body, hy, hR⟩ := hY.out _ O _ _ wr hsplit hjm
      have hy : Sem.run Tryz.prog (Instr.yield l #[I x, .int .i64 0]) wr = .ok (.round l fn tmps assign body) wr := by rw [← hy]; simp
      have HR := Lib.hid hR
      have HN := Lib.hid hnext
      clear hsplit hR hnext hg
      have hwr : IntKind.i64.wrap (x : Int) = x := wrap_small x hx8
      have hwr2 : IntKind.i64.wrap (8 + (x : Int)) = 8 + x := wrap_small2 x hx8
      have hdec : decide ((m : Int) < (l0.length : Int)) = true := by simpa using hlt
      gi_wp2
      refine HR.out.mono ?_
      clear hy HR
      rintro e W4 (⟨rfl, ⟨O', hJ4, hO'⟩, hz4, hk4⟩ | ⟨rfl, hJx4⟩)
      · have hb4 := (hk4 b (Array.getElem?_eq_some_iff.1 hbr).1 ob).trans hbr
        have hp4 := (hk4 p (Array.getElem?_eq_some_iff.1 hpr).1 op).trans hpr
        have hr4 := (hk4 r (Array.getElem?_eq_some_iff.1 hrr).1 or).trans hrr
        have hl3 : b < wr.heap.size ∧ p < wr.heap.size ∧ r < wr.heap.size := ⟨(Array.getElem?_eq_some_iff.1 hbr).1, (Array.getElem?_eq_some_iff.1 hpr).1, (Array.getElem?_eq_some_iff.1 hrr).1⟩
        have bO' : ¬ O' b ∧ ¬ O' p ∧ ¬ O' r := ⟨fun h => (hO' b h).elim ob (fun h => Nat.lt_irrefl _ (Nat.lt_of_lt_of_le hl3.1 h)), fun h => (hO' p h).elim op (fun h => Nat.lt_irrefl _ (Nat.lt_of_lt_of_le hl3.2.1 h)), fun h => (hO' r h).elim or (fun h => Nat.lt_irrefl _ (Nat.lt_of_lt_of_le hl3.2.2 h))⟩
        clear hk4 hl3 hO' hbr hpr hrr
        gi_wp2
        go_roundw
        case rel => exact ⟨m + 1, O', by go_num, hlt, by rw [← HN.out]; exact hJ4, ⟨bO'.1, bO'.2.1⟩, fun g hg => one_addr hg ▸ ⟨bO'.2.2, hr4⟩, hb4, hp4⟩
        case measure => simp [intOf]; omega
      · gi_wp2
        refine bodyPost_ret (results_none rfl _ _ _) rfl ?_
        exact ⟨⟨_, rfl⟩, .inr hJx4⟩
    · have hme : m = l0.length := Nat.le_antisymm hml hge
      have hdec : decide (m < l0.length) = false := by simpa using hge
      have hJf := hjm
      rw [hme, List.take_length] at hJf
      clear hjm hg hme hge hml
      gi_wp2
      rw [roundsIn_succ]
      obtain ⟨Wq, rfl⟩ : ∃ Wq : World, Wq = wr := ⟨_, rfl⟩
      obtain ⟨O1, rfl⟩ : ∃ O1 : Nat → Prop, O1 = O := ⟨_, rfl⟩
      have hb' := hbr
      have hp' := hpr
      have h0 := hJf
      have ob0 := ob
      have op0 := op
      clear hbr hpr hJf ob op
      gi_wp2_with (first
        | (refine ⟨trivial, ?_⟩; gi_at_call 166; refine (callsIn_wide.2 (S1 _)).mono ?_; rintro e W11 ⟨rfl, hc1⟩)
        | (refine ⟨trivial, ?_⟩; gi_at_call 167; refine (callsIn_wide.2 (A1 _)).mono ?_; rintro e W21 ⟨v, rfl, hown, hc2⟩; obtain ⟨a1, cap1, cur1, rfl, hx1', hl1'⟩ := own_slice hown; clear hown))
      have hC2 : Ch [] Wq W21 := hc1.trans hc2
      have hb2 := (hC2.block b (Array.getElem?_eq_some_iff.1 hb').1 (by simp)).trans hb'
      have hp2 := (hC2.block p (Array.getElem?_eq_some_iff.1 hp').1 (by simp)).trans hp'
      have hJ2 := hJ _ _ _ _ h0 hC2
      have hx1 := Lib.hid hx1'
      have og0 : ∀ g, a1 = some ⟨g, 0, none⟩ → ¬ O1 g ∧ W21.heap[g]? = some (.cells cur1 3 (0, 0)) := fun g hg => ⟨fun h => by have := (hO.out _ _ _ h0 g h).1; have := hc1.size; have := (hl1' g hg).1; omega, (hl1' g hg).2⟩
      have OG := Lib.hid og0
      clear hb' hp' hc2 hc1 hx1' hl1' og0 h0
      gi_loopw [28] (fun i wr => ∃ (m : Nat) (O : Nat → Prop), i = .int .i64 m ∧ m ≤ l1.length ∧ J ((l0.map fun l => (8 * 0 + l, 0)) ++ (l1.take m).map (fun l => (8 * 1 + l, 1))) O wr ∧ (¬ O b ∧ ¬ O p) ∧
        (∀ g, a1 = some ⟨g, 0, none⟩ → ¬ O g ∧ wr.heap[g]? = some (.cells cur1 3 (0, 0))) ∧ wr.heap[b]? = some (.cells (hcells t s) 141 (0, 0)) ∧ wr.heap[p]? = some (.cells #[.pointer (some ⟨b, 0, none⟩)] 137 (0, 0))) (fun i _ => l1.length - (intOf i).toNat)
      case atStart => exact ⟨0, O1, rfl, Nat.zero_le _, by simpa using hJ2, ⟨ob0, op0⟩, OG.out, hb2, hp2⟩
      case round =>
        obtain ⟨m, O, hm, hml, hjm, ⟨ob, op⟩, hg', hbr, hpr⟩ := hrel
        subst hm
        have hg := Lib.hid hg'
        clear hb2 hp2 hJ2 OG hg'
        rcases Nat.lt_or_ge m l1.length with hlt | hge
        · obtain ⟨x, hx8, ⟨hxm, r, hr⟩, hnext, hsplit⟩ := take_round (g := 1) hlt hx1.out B1 ([])
          subst hr
          obtain ⟨or, hrr⟩ := hg.out r rfl
          obtain ⟨fn, tmps, assign, body, hy, hR⟩ := hY.out _ O _ _ wr (by rw [List.append_assoc, ← hsplit, List.append_nil]) hjm
          have hy : Sem.run Tryz.prog (Instr.yield l #[.int .i64 (8 + x), .int .i64 1]) wr = .ok (.round l fn tmps assign body) wr := by rw [← hy]; simp
          have HR := Lib.hid hR
          have HN := Lib.hid hnext
          clear hsplit hR hnext hg
          have hwr : IntKind.i64.wrap (x : Int) = x := wrap_small x hx8
          have hwr2 : IntKind.i64.wrap (8 + (x : Int)) = 8 + x := wrap_small2 x hx8
          have hdec : decide ((m : Int) < (l1.length : Int)) = true := by simpa using hlt
          gi_wp2
          refine HR.out.mono ?_
          clear hy HR
          rintro e W4 (⟨rfl, ⟨O', hJ4, hO'⟩, hz4, hk4⟩ | ⟨rfl, hJx4⟩)
          · have hb4 := (hk4 b (Array.getElem?_eq_some_iff.1 hbr).1 ob).trans hbr
            have hp4 := (hk4 p (Array.getElem?_eq_some_iff.1 hpr).1 op).trans hpr
            have hr4 := (hk4 r (Array.getElem?_eq_some_iff.1 hrr).1 or).trans hrr
            have hl3 : b < wr.heap.size ∧ p < wr.heap.size ∧ r < wr.heap.size := ⟨(Array.getElem?_eq_some_iff.1 hbr).1, (Array.getElem?_eq_some_iff.1 hpr).1, (Array.getElem?_eq_some_iff.1 hrr).1⟩
            have bO' : ¬ O' b ∧ ¬ O' p ∧ ¬ O' r := ⟨fun h => (hO' b h).elim ob (fun h => Nat.lt_irrefl _ (Nat.lt_of_lt_of_le hl3.1 h)), fun h => (hO' p h).elim op (fun h => Nat.lt_irrefl _ (Nat.lt_of_lt_of_le hl3.2.1 h)), fun h => (hO' r h).elim or (fun h => Nat.lt_irrefl _ (Nat.lt_of_lt_of_le hl3.2.2 h))⟩
            clear hk4 hl3 hO' hbr hpr hrr
            gi_wp2
            go_roundw
            case rel => exact ⟨m + 1, O', by go_num, hlt, by rw [← HN.out, ← List.append_assoc]; exact hJ4, ⟨bO'.1, bO'.2.1⟩, fun g hg => one_addr hg ▸ ⟨bO'.2.2, hr4⟩, hb4, hp4⟩
            case measure => simp [intOf]; omega
          · gi_wp2
            refine bodyPost_ret (results_none rfl _ _ _) rfl ?_
            exact ⟨⟨_, rfl⟩, .inr hJx4⟩
        · have hme : m = l1.length := Nat.le_antisymm hml hge
          have hdec : decide (m < l1.length) = false := by simpa using hge
          have hJf := hjm
          rw [hme, List.take_length] at hJf
          clear hjm hg hme hge hml
          gi_wp2
          rw [roundsIn_succ]
          gi_wp2
          refine bodyPost_end (results_none rfl _ _ _) rfl ?_
          exact ⟨⟨_, rfl⟩, .inl ⟨_, hJf⟩⟩
end
end Go.Proofs.Hc
namespace Go.Proofs.Hc
open Go.RowKit
def MetAt (w : World) (bm n : Nat) (f : BitVec 64 → Int) : Prop :=
  ∃ D : DataW Unit, w.ownsMap Tryz.prog 22 (plainElem Tryz.prog 3) bm n D ∧ ∀ k : BitVec 64, D.atKey (.int .u64 (N k)) (.lit (.int .i64 0)) = .lit (.int .i64 (f k))
theorem keyLaw : Go.Maps.Keyed Tryz.prog 22 := Go.Maps.int_keyed Tryz.underlying22
theorem wf_u64 (k : BitVec 64) : (Lit.int .u64 (N k)).wf = true := by
  have h := k.isLt
  have h2 : (IntKind.u64.max : Int) = 18446744073709551615 := by decide
  have h3 : (IntKind.u64.min : Int) = 0 := by decide
  simp [Lit.wf, N, h2, h3]; omega
theorem zeroInt (w : World) : (zeroValue 3).run Tryz.prog w = .ok (.int .i64 0) w := by kernel_rfl
theorem met_made (w : World) : MetAt (w.alloc (.map #[] 0)) w.heap.size 0 fun _ => 0 :=
  ⟨.map [], World.ownsMap_made _ _ _ _, fun _ => rfl⟩
theorem met_look {w : World} {bm n : Nat} {f : BitVec 64 → Int} (h : MetAt w bm n f) (k : BitVec 64) :
    (Instr.lookup 252 (.map (some bm)) (U k) false).run Tryz.prog w = .ok (I (f k)) w := by
  obtain ⟨D, ho, hf⟩ := h
  obtain ⟨c, hr, hc, _⟩ := ho.lookup_int keyLaw Tryz.underlying252 Tryz.underlying3 (zeroInt _) (Go.Maps.keyOf_int_mk Tryz.underlying22 (wf_u64 k))
  rw [hf k] at hc
  have : f k = c := by simpa using hc
  rw [this]; exact hr
theorem met_put {w : World} {bm n : Nat} {f : BitVec 64 → Int} (h : MetAt w bm n f) (hn : n < 1000) (k : BitVec 64) (x : Int) (hx : (Lit.int .i64 x).wf = true) :
    ∃ w', (Instr.mapUpdate 252 (.map (some bm)) (U k) (I x)).run Tryz.prog w = .ok () w' ∧ MetAt w' bm (n + 1) (fun j => if j = k then x else f j) ∧ Ch [bm] w w' ∧ w'.heap.size = w.heap.size := by
  obtain ⟨D, ho, hf⟩ := h
  have hm : Go.Maps.IsMap D := ⟨_, ho.choose_spec.choose_spec.2.2.2⟩
  obtain ⟨es, clock, hb, F, hs, hD⟩ := ho
  obtain ⟨es', clock', hrun, F', hput, _⟩ := Go.Maps.fit_store (R' := plainElem Tryz.prog 3) keyLaw Tryz.underlying252 hb F (Nat.lt_of_le_of_lt hs (by unfold maxLen; omega)) (fun _ _ _ _ hz => hz) (Go.Maps.keyOf_int_mk Tryz.underlying22 (wf_u64 k)) (plainElem_int (H := Unit) Tryz.underlying3 hx)
  obtain ⟨w', hr, ho', hg⟩ := World.ownsMap.update ⟨es, clock, hb, F, hs, hD⟩ keyLaw Tryz.underlying252 (by unfold maxLen; omega) (Go.Maps.keyOf_int_mk Tryz.underlying22 (wf_u64 k)) (plainElem_int (H := Unit) Tryz.underlying3 hx)
  refine ⟨w', hr, ⟨_, ho', fun j => ?_⟩, Ch.of_grown hg (fun b hb => by simpa using hb.symm), ?_⟩
  · show _ = DataW.lit (Lit.int .i64 (if j = k then x else f j))
    by_cases hj : j = k
    · subst hj
      rw [if_pos rfl]
      exact Go.Maps.atKey_put_same hm (Go.Maps.Keyed.key keyLaw (Go.Maps.keyOf_int_mk Tryz.underlying22 (wf_u64 j))) _ _
    · have hne : Lit.int .u64 (N j) ≠ Lit.int .u64 (N k) := fun e => hj ((N_inj _ _).1 (by simpa using e))
      rw [if_neg hj, Go.Maps.atKey_put_other hne]
      exact hf j
  · have h1 := hrun.symm.trans hr
    have h2 : w' = _ := (Result.ok.inj h1).2.symm
    rw [h2]; simp [Go.ChangeMaps.setBlock]
theorem met_ch {w w' : World} {bm n : Nat} {f : BitVec 64 → Int} {S : List Nat} (h : MetAt w bm n f) (c : Ch S w w') (hS : bm ∉ S) : MetAt w' bm n f := by
  obtain ⟨D, ⟨es, clock, hb, r⟩, hf⟩ := h
  exact ⟨D, ⟨es, clock, (c.block bm (Array.getElem?_eq_some_iff.1 hb).1 hS).trans hb, r⟩, hf⟩
end Go.Proofs.Hc
namespace Go.Proofs.Hc
open Go.RowKit
attribute [local go_sem] zbr zby zau zba zbl zay zbk zbm zbu signed64 signed8 zas BitVec.ofInt_add BitVec.ofInt_mul ofInt_sub' zaw zax wide8 eqN neN zbx shr1 shr7 shr56
attribute [local go_sem high] zaz zbt
attribute [local go_sem] zan zbv zae zal zad zbd zao zag zbj zaj zbc zbe
attribute [local go_sem] load26 load73 load23 store26 build73
attribute [local go_sem ↓] lrow26 lrow73 lrow23 srow26 zero26 brow73 zab zav zbb zaa zac
attribute [local go_sem] zah zaq zat zbf zbg zbp zam zar zbq zbi zbh
attribute [local go_sem] nn2 nm2 nn3 nm3 nn4 nm4 nn5 nm5 nn6 nm6 nn7 nm7 nn8 nm8
section
attribute [local go_sem] Oper.semAt_some zak
attribute [local go_sem] box26 zbz cell0 cell1 cell2 cell3 cell4 zcb zca
attribute [local go_sem] cell5 cell6
def pairsT (t : Tab) : List (BitVec 64 × BitVec 64) := (slotsT t).map fun x => (t.k x.1, t.v x.1)
def pcells (l : List (BitVec 64 × BitVec 64)) : List Value := l.flatMap fun p => [U p.1, U p.2]
theorem pcells_snoc (l : List (BitVec 64 × BitVec 64)) (p : BitVec 64 × BitVec 64) : pcells (l ++ [p]) = pcells l ++ [U p.1, U p.2] := by
  simp [pcells]
theorem infoP : (Tryz.prog.info? 31).map (fun i => (i.zero, i.size, i.bytes)) = some (some (.agg #[.int .u64 0, .int .u64 0]), 2, 16) := by kernel_rfl
theorem build_pair (x y : BitVec 64) (w : World) : (Instr.build 31 #[(0, U x), (1, U y)]).run Tryz.prog w = .ok (.agg #[U x, U y]) w := by kernel_rfl
theorem build_slice1 (x y : BitVec 64) (w : World) : (Instr.buildSlice 27 1 #[(0, .agg #[U x, U y])]).run Tryz.prog w = .ok (.slice (some ⟨w.heap.size, 0, none⟩) 1 1) (w.alloc (.cells #[U x, U y] 31)) := by kernel_rfl
attribute [local go_sem] build_pair build_slice1
theorem own_lt {W : World} {base n size : Nat} {e : TypeId} {v : Value} {xs : List Value} (h : W.ownsRow base e size v n xs) {k : Nat} (hk : v.ownBlock = some k) : k < W.heap.size := by
  rcases h.2 with ⟨rfl, _⟩ | ⟨g, cap, cur, rfl, _, hW, _⟩
  · cases hk
  · cases hk; exact (Array.getElem?_eq_some_iff.1 hW).1
theorem cell_two_new (w : World) (x y : Value) (t : TypeId) : ∀ j u, [x, y][j]? = some u → (w.alloc (.cells #[x, y] t)).cell? ((⟨w.heap.size, 0, none⟩ : Addr).add j) = some u := by
  intro j u hj
  have hadd : (⟨w.heap.size, 0, none⟩ : Addr).add j = ⟨w.heap.size, 0 + j, none⟩ := by unfold Addr.add; split <;> simp_all
  rw [hadd, zan, zab, if_pos rfl]
  show (#[x, y] : Array Value)[0 + j]? = some u
  rw [Nat.zero_add]; simpa using hj
end
end Go.Proofs.Hc
