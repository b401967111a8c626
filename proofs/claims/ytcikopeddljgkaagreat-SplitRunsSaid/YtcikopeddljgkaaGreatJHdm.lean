/- Package table: does who looks for a key come to a group? -/
import Derived.Test.YtcikopeddljgkaaGreatJHrw
set_option linter.unusedSimpArgs false
set_option linter.unusedVariables false
set_option maxHeartbeats 4000000
set_option maxRecDepth 100000
namespace Go.Proofs.Hc
open Go.RowKit
attribute [local go_sem] zbu zcc zax zbf zbo zbd zbn zbp zbw signed64 signed8 zap BitVec.ofInt_add BitVec.ofInt_mul ofInt_sub' zbb zbc wide8 eqN neN zca shr1 shr7 shr56
attribute [local go_sem high] zbe zbv
attribute [local go_sem] zaw zby zaj zas zaf zaz zar zak zbm zal zay zba
attribute [local go_sem] load26 load73 load23 store26 build73
attribute [local go_sem ↓] lrow26 lrow73 lrow23 srow26 zero26 brow73 zae zbk zbg zaa zab
attribute [local go_sem] zai zav zat zbj zbl zbr zaq zau zbs zbi zbh
attribute [local go_sem] nn2 nm2 nn3 nm3 nn4 nm4 nn5 nm5 nn6 nm6 nn7 nm7 nn8 nm8
section
attribute [local go_sem] Oper.semAt_some zao
attribute [local go_sem] box26 zcb cell0 cell1 cell2 cell3 cell4 zcn zcm
theorem zdi {P : Program} {fn : Func} {p : Tmp} {T1 : TypeId} (h : fn.results = #[.cell p T1]) (tmps : Array Value) (a : Addr) (w : World) {x : Value}
    (hp : tmps.getD p undef = .pointer (some a)) (h1 : (loadVar T1 a).run P w = .ok x w) : (results fn tmps).run P w = .ok x w := by
  have hp' : tmps[p]?.getD undef = .pointer (some a) := by simpa using hp
  simp [results, h, hp', asAddr, h1]
theorem reaches_any (t : Tab) (s k : BitVec 64) (b : Nat) (d : Nat) (w : World) (hok0 : ctrlOk (t.c 0) = true) (hok1 : ctrlOk (t.c 1) = true) (hb : w.heap[b]? = some (.cells (hcells t s) 141 (0, 0))) :
    Calls Tryz.prog 170 #[.pointer (some ⟨b, 0, none⟩), U k, I d] w fun e w' => e = .returned (.bool (decide (d ∈ rowT t s k))) ∧ Ch [] w w' := by
  have hbl := (Array.getElem?_eq_some_iff.1 hb).1
  have Y1 := fun p q w hb hp hq => row_yields t s k b p q w hok0 hok1 hb hp hq
  generalize rowT t s k = xs at *
  refine (callsIn_wide (n := 3)).1 ?_
  refine callsIn_of_wp_marks Tryz.func170 rfl trivial ?_
  simp only [Tryz.ntmps170, List.size_toArray, List.length_cons, List.length_nil, Nat.reduceAdd, Nat.reduceSub, Array.replicate_succ, Array.replicate_zero, List.push_toArray, List.append_toArray, List.nil_append, List.cons_append]
  gi_wp2_with (refine ⟨trivial, ?_⟩; gi_at_call 207; refine (callsIn_wide.2 (row_make _ _ _)).mono ?_; rintro e w' ⟨rfl, rfl⟩)
  obtain ⟨W0, hW0⟩ : ∃ W0, (((w.alloc (.cells #[I d] 3)).alloc (.cells #[.bool false] 4)).alloc (.cells #[.pointer (some ⟨b, 0, none⟩)] 137)).alloc (.cells #[U k] 22) = W0 := ⟨_, rfl⟩
  have hs0 : W0.heap.size = w.heap.size + 4 := by rw [← hW0]; simp
  have hC0 : Ch [] w W0 := by rw [← hW0]; exact ((((Ch.refl [] w).alloc _).alloc _).alloc _).alloc _
  have b0 : W0.heap[w.heap.size]? = some (.cells #[I d] 3 (0, 0)) := by rw [← hW0]; simp [go_sem] <;> omega
  have b1 : W0.heap[w.heap.size + 1]? = some (.cells #[.bool false] 4 (0, 0)) := by rw [← hW0]; simp [go_sem] <;> omega
  have b2 : W0.heap[w.heap.size + 1 + 1]? = some (.cells #[.pointer (some ⟨b, 0, none⟩)] 137 (0, 0)) := by rw [← hW0]; simp [go_sem] <;> omega
  have b3 : W0.heap[w.heap.size + 1 + 1 + 1]? = some (.cells #[U k] 22 (0, 0)) := by rw [← hW0]; simp [go_sem] <;> omega
  have bb := (hC0.block b hbl (by simp)).trans hb
  rw [hW0]
  clear hW0
  refine range_lawO (n := 1) (xs := xs) rfl enters_row (Y1 _ _ W0 bb b2 b3) (fun _ => rfl) (by simp) (by simp <;> omega)
    (fun pre O W => (∀ x, O x ↔ x = w.heap.size + 1) ∧ d ∉ pre ∧ Ch [] w W ∧ W.heap[w.heap.size]? = some (.cells #[I d] 3 (0, 0)) ∧ W.heap[w.heap.size + 1]? = some (.cells #[.bool false] 4 (0, 0)))
    (fun c W => c = .ret ∧ d ∈ xs ∧ Ch [] w W ∧ W.heap[w.heap.size + 1]? = some (.cells #[.bool true] 4 (0, 0)))
    (fun x => x = w.heap.size + 1) ?hIO ?hI ?hIx ⟨fun _ => Iff.rfl, by simp, hC0, b0, b1⟩ ?a₁ ?assign ?body ?done ?stop
  case hIO =>
    rintro pre O A ⟨h, _, hc, _, h2⟩ x hx
    have hx := (h x).1 hx
    subst hx
    exact ⟨.inl (by omega), (Array.getElem?_eq_some_iff.1 h2).1, by simp; omega⟩
  case hI =>
    rintro pre O A B ⟨h0, hd, hc, h1, h2⟩ hAB
    exact ⟨h0, hd, hc.trans2 hAB (by simp <;> omega), (hAB.block _ (Array.getElem?_eq_some_iff.1 h1).1 (by simp <;> omega)).trans h1, (hAB.block _ (Array.getElem?_eq_some_iff.1 h2).1 (by simp <;> omega)).trans h2⟩
  case hIx =>
    rintro c A B ⟨rfl, hd, hc, h2⟩ hAB
    exact ⟨rfl, hd, hc.trans2 hAB (by simp <;> omega), (hAB.block _ (Array.getElem?_eq_some_iff.1 h2).1 (by simp <;> omega)).trans h2⟩
  case a₁ => exact fun x => { tmps := #[.pointer (some ⟨b, 0, none⟩), U k, I d, undef, undef, .pointer (some ⟨w.heap.size, 0, none⟩), .pointer (some ⟨w.heap.size + 1, 0, none⟩), I x, .pointer (some ⟨b, 0, none⟩), U k, .func (.func 258) #[] #[.pointer (some ⟨w.heap.size + 1 + 1, 0, none⟩), .pointer (some ⟨w.heap.size + 1 + 1 + 1, 0, none⟩)], I x, undef, undef, undef], defers := [] }
  case assign =>
    intro x W K hK
    gi_wp2
    exact hK
  case body =>
    rintro pre O x post W hx ⟨h0, hd, hc, h1, h2⟩ hsz
    have HX := Lib.hid hx
    clear hx
    by_cases hxd : x = d
    · subst hxd
      have he : (decide ((x : Int) = x)) = true := by simp
      gi_wp2
      refine ⟨⟨rfl, by rw [HX.out]; simp, hc.setCell (p := ⟨w.heap.size + 1, 0, none⟩) (.inr (by simp)) _, ?_⟩, fun y _ hy => ?_⟩
      · rw [zaa, if_pos rfl, h2]; rfl
      · rw [zaa, if_neg (fun e => hy ((h0 y).2 e))]
    · have he : ((x : Int) == (d : Int)) = false := by simp; omega
      gi_wp2
      exact ⟨⟨O, ⟨h0, by simp [hd]; omega, hc, h1, h2⟩, fun _ h => .inl h⟩, Nat.le_refl _, fun _ _ _ => rfl⟩
  case done =>
    rintro O W ⟨h0, hd, hc, h1, h2⟩ hdd
    gi_wp2
    refine marks_ret (v := .bool false) ?_ (zdi Tryz.results170 _ _ _ rfl (load_one Tryz.underlying4 rfl _ _ (fr := (0, 0)) (t := 4) ?_)) ⟨by simp [hd], ?_⟩
    · rw [zaa, if_neg (by omega)]; exact hdd
    · simp only [heap_putObj, zaa, h2]; rw [if_neg (by omega)]; simp [zaf]
    · exact (hc.setCell (p := ⟨w.heap.size + 1, 0, none⟩) (.inr (by simp)) _).trans2 (zcg _ _ _) (by simp <;> omega)
  case stop =>
    rintro c W ⟨rfl, hd, hc, h2⟩ hdd
    gi_wp2
    refine marks_ret (v := .bool true) hdd (zdi Tryz.results170 _ _ _ rfl (load_one Tryz.underlying4 rfl _ _ (fr := (0, 0)) (t := 4) ?_)) ⟨by simp [hd], ?_⟩
    · rw [heap_putObj, if_neg (by omega)]; exact h2
    · exact hc.trans2 (zcg _ _ _) (by simp <;> omega)
end
section
attribute [local go_sem] Oper.semAt_some zao
attribute [local go_sem] box26 zcb cell0 cell1 cell2 cell3 cell4 zcn zcm
attribute [local go_sem] cell5 cell6
theorem index2_0 (x y : BitVec 64) (w : World) : (Instr.index 23 (.agg #[U x, U y]) (.int .i64 0)).run Tryz.prog w = .ok (U x) w := by kernel_rfl
theorem index2_1 (x y : BitVec 64) (w : World) : (Instr.index 23 (.agg #[U x, U y]) (.int .i64 1)).run Tryz.prog w = .ok (U y) w := by kernel_rfl
attribute [local go_sem] index2_0 index2_1
theorem own_slice {W : World} {base n : Nat} {e : TypeId} {v : Value} {xs : List Value} (h : W.ownsRow base e 1 v n xs) :
    ∃ a cap cur, v = .slice a n cap ∧ (∀ (i : Nat) (x : Value), xs[i]? = some x → cur[i]? = some x ∧ ∃ g, a = some ⟨g, 0, none⟩) ∧ ∀ g, a = some ⟨g, 0, none⟩ → base ≤ g ∧ W.heap[g]? = some (.cells cur e (0, 0)) := by
  obtain ⟨hl, ⟨rfl, rfl⟩ | ⟨g, cap, cur, hv, hg, hW, _, _, _, hx⟩⟩ := h
  · refine ⟨none, 0, #[], rfl, fun i x hi => ?_, fun g hg => by cases hg⟩
    have : xs = [] := List.eq_nil_of_length_eq_zero (by simpa using hl)
    rw [this] at hi; cases hi
  · refine ⟨_, cap, cur, hv, fun i x hi => ⟨?_, g, rfl⟩, fun g' hg' => by obtain rfl : g = g' := by simpa using hg'
                                                                          exact ⟨hg, hW⟩⟩
    rw [← hx, List.getElem?_take] at hi
    split at hi
    · simpa using hi
    · cases hi
theorem one_addr {r g : Nat} (h : (some ⟨r, 0, none⟩ : Option Addr) = some ⟨g, 0, none⟩) : r = g := by simpa using h
theorem wrap_small (x : Nat) (h : x < 8) : IntKind.i64.wrap (x : Int) = x := by rw [IntKind.wrap_i64]; omega
theorem wrap_small2 (x : Nat) (h : x < 8) : IntKind.i64.wrap (8 + (x : Int)) = 8 + x := by rw [IntKind.wrap_i64]; omega
theorem take_round {l0 : List Nat} {m : Nat} {cur : Array Value} {a : Option Addr} {g : Nat} (h : m < l0.length) (hx : ∀ (i : Nat) (x : Value), (l0.map fun i : Nat => I i)[i]? = some x → cur[i]? = some x ∧ ∃ r, a = some ⟨r, 0, none⟩) (hb : ∀ x ∈ l0, x < 8) (ys : List (Nat × Nat)) :
    ∃ x : Nat, x < 8 ∧ (cur[m]? = some (I x) ∧ ∃ r, a = some ⟨r, 0, none⟩) ∧ (l0.take m).map (fun l => (8 * g + l, g)) ++ [(8 * g + x, g)] = (l0.take (m + 1)).map (fun l => (8 * g + l, g)) ∧
      (l0.map fun l => (8 * g + l, g)) ++ ys = (l0.take m).map (fun l => (8 * g + l, g)) ++ (8 * g + x, g) :: ((l0.drop (m + 1)).map (fun l => (8 * g + l, g)) ++ ys) := by
  refine ⟨l0[m]'h, hb _ (List.getElem_mem h), hx m _ (by rw [List.getElem?_map, List.getElem?_eq_getElem h]; rfl), ?_, ?_⟩
  · rw [List.take_succ_eq_append_getElem h, List.map_append]; rfl
  · conv => lhs; rw [← List.take_append_drop m l0, List.drop_eq_getElem_cons h]
    rw [List.map_append, List.map_cons, List.append_assoc, List.cons_append]
def slotsOf (t : Tab) (g : Nat) : List (Nat × Nat) := (lanesOf (fullM (t.c g))).map fun l => (8 * g + l, g)
def slotsT (t : Tab) : List (Nat × Nat) := slotsOf t 0 ++ slotsOf t 1
theorem enters_slots (args : Array Value) (w : World) : (callFunc 217 args).run Tryz.prog w = .ok (.enter 217 args) w := by kernel_rfl
theorem slots_yields (t : Tab) (s : BitVec 64) (b p : Nat) (w : World) (hok0 : ctrlOk (t.c 0) = true) (hok1 : ctrlOk (t.c 1) = true) (hb : w.heap[b]? = some (.cells (hcells t s) 141 (0, 0)))
    (hp : w.heap[p]? = some (.cells #[.pointer (some ⟨b, 0, none⟩)] 137 (0, 0))) :
    YieldsO Tryz.prog 217 #[.pointer (some ⟨p, 0, none⟩)] (fun x : Nat × Nat => #[I x.1, I x.2]) (slotsT t) [] [b, p] w := by
  intro n l J Jx W O0 hW hk hO' hJ hJx hY' h0
  have hO := Lib.hid hO'
  have hY := Lib.hid hY'
  clear hO' hY'
  have hb' := (hk b (by simp)).trans hb
  have hp' := (hk p (by simp)).trans hp
  clear hb hp hk hW
  have S0 := fun w => sets_ok (t.c 0) hok0 w
  have S1 := fun w => sets_ok (t.c 1) hok1 w
  have A0 := fun w => all_any (fullM (t.c 0)) w
  have A1 := fun w => all_any (fullM (t.c 1)) w
  have B0 : ∀ x ∈ lanesOf (fullM (t.c 0)), x < 8 := fun x hx => by unfold lanesOf at hx; simpa using (List.mem_filter.1 hx).1
  have B1 : ∀ x ∈ lanesOf (fullM (t.c 1)), x < 8 := fun x hx => by unfold lanesOf at hx; simpa using (List.mem_filter.1 hx).1
  have L0 := lanes_le (fullM (t.c 0))
  have L1 := lanes_le (fullM (t.c 1))
  unfold slotsT slotsOf at hY ⊢
  generalize fullM (t.c 0) = f0 at *
  generalize fullM (t.c 1) = f1 at *
  generalize emptyM (t.c 0) = e0 at *
  generalize emptyM (t.c 1) = e1 at *
  generalize delM (t.c 0) = d0 at *
  generalize delM (t.c 1) = d1 at *
  generalize lanesOf f0 = l0 at *
  generalize lanesOf f1 = l1 at *
  clear hok0 hok1
  have ob0 : ¬ O0 b := fun h => (hO.out _ _ _ h0 b h).2 (by simp)
  have op0 : ¬ O0 p := fun h => (hO.out _ _ _ h0 p h).2 (by simp)
  refine callsIn_of_wp Tryz.func217 rfl trivial ?_
  simp only [Tryz.ntmps217, List.size_toArray, List.length_cons, List.length_nil, Nat.reduceAdd, Nat.reduceSub, Array.replicate_succ, Array.replicate_zero, List.push_toArray, List.append_toArray, List.nil_append, List.cons_append]
  gi_wp2
  refine wpIn_loop_rounds 3 ?_
  rw [roundsIn_succ]
  gi_wp2_with (first
    | (refine ⟨trivial, ?_⟩; gi_at_call 166; refine (callsIn_wide.2 (S0 _)).mono ?_; rintro e W10 ⟨rfl, hc1⟩)
    | (refine ⟨trivial, ?_⟩; gi_at_call 167; refine (callsIn_wide.2 (A0 _)).mono ?_; rintro e W20 ⟨v, rfl, hown, hc2⟩; obtain ⟨a0, cap0, cur0, rfl, hx0', hl0'⟩ := own_slice hown; clear hown))
  have hC2 : Ch [] W W20 := hc1.trans hc2
  have hb2 := (hC2.block b (Array.getElem?_eq_some_iff.1 hb').1 (by simp)).trans hb'
  have hp2 := (hC2.block p (Array.getElem?_eq_some_iff.1 hp').1 (by simp)).trans hp'
  have hJ2 := hJ _ _ _ _ h0 hC2
  have hx0 := Lib.hid hx0'
  have og0 : ∀ g, a0 = some ⟨g, 0, none⟩ → ¬ O0 g ∧ W20.heap[g]? = some (.cells cur0 3 (0, 0)) := fun g hg => ⟨fun h => by have := (hO.out _ _ _ h0 g h).1; have := hc1.size; have := (hl0' g hg).1; omega, (hl0' g hg).2⟩
  have OG := Lib.hid og0
  clear hb' hp' hc2 hc1 hx0' hl0' og0 h0
  gi_loopw [28] (fun i wr => ∃ (m : Nat) (O : Nat → Prop), i = .int .i64 m ∧ m ≤ l0.length ∧ J ((l0.take m).map (fun l => (8 * 0 + l, 0))) O wr ∧ (¬ O b ∧ ¬ O p) ∧
    (∀ g, a0 = some ⟨g, 0, none⟩ → ¬ O g ∧ wr.heap[g]? = some (.cells cur0 3 (0, 0))) ∧ wr.heap[b]? = some (.cells (hcells t s) 141 (0, 0)) ∧ wr.heap[p]? = some (.cells #[.pointer (some ⟨b, 0, none⟩)] 137 (0, 0))) (fun i _ => l0.length - (intOf i).toNat)
  case atStart => exact ⟨0, O0, rfl, Nat.zero_le _, by simpa using hJ2, ⟨ob0, op0⟩, OG.out, hb2, hp2⟩
  case round =>
    obtain ⟨m, O, hm, hml, hjm, ⟨ob, op⟩, hg', hbr, hpr⟩ := hrel
    subst hm
    have hg := Lib.hid hg'
    clear hb2 hp2 hJ2 OG hg'
    rcases Nat.lt_or_ge m l0.length with hlt | hge
    · obtain ⟨x, hx8, ⟨hxm, r, hr⟩, hnext, hsplit⟩ := take_round (g := 0) hlt hx0.out B0 (l1.map fun l => (8 * 1 + l, 1))
      subst hr
      obtain ⟨or, hrr⟩ := hg.out r rfl
      obtain ⟨fn, tmps, assign, body, hy, hR⟩ := hY.out _ O _ _ wr hsplit hjm
      have hy : Sem.run Tryz.prog (Instr.yield l #[I x, .int .i64 0]) wr = .ok (.round l fn tmps assign body) wr := by rw [← hy]; simp
      have HR := Lib.hid hR
      have HN := Lib.hid hnext
      clear hsplit hR hnext hg
      have hwr : IntKind.i64.wrap (x : Int) = x := wrap_small x hx8
      have hwr2 : IntKind.i64.wrap (8 + (x : Int)) = 8 + x := wrap_small2 x hx8
      have hdec : decide ((m : Int) < (l0.length : Int)) = true := by simpa using hlt
      gi_wp2
      refine HR.out.mono ?_
      clear hy HR
      rintro e W4 (⟨rfl, ⟨O', hJ4, hO'⟩, hz4, hk4⟩ | ⟨rfl, hJx4⟩)
      · have hb4 := (hk4 b (Array.getElem?_eq_some_iff.1 hbr).1 ob).trans hbr
        have hp4 := (hk4 p (Array.getElem?_eq_some_iff.1 hpr).1 op).trans hpr
        have hr4 := (hk4 r (Array.getElem?_eq_some_iff.1 hrr).1 or).trans hrr
        have hl3 : b < wr.heap.size ∧ p < wr.heap.size ∧ r < wr.heap.size := ⟨(Array.getElem?_eq_some_iff.1 hbr).1, (Array.getElem?_eq_some_iff.1 hpr).1, (Array.getElem?_eq_some_iff.1 hrr).1⟩
        have bO' : ¬ O' b ∧ ¬ O' p ∧ ¬ O' r := ⟨fun h => (hO' b h).elim ob (fun h => Nat.lt_irrefl _ (Nat.lt_of_lt_of_le hl3.1 h)), fun h => (hO' p h).elim op (fun h => Nat.lt_irrefl _ (Nat.lt_of_lt_of_le hl3.2.1 h)), fun h => (hO' r h).elim or (fun h => Nat.lt_irrefl _ (Nat.lt_of_lt_of_le hl3.2.2 h))⟩
        clear hk4 hl3 hO' hbr hpr hrr
        gi_wp2
        go_roundw
        case rel => exact ⟨m + 1, O', by go_num, hlt, by rw [← HN.out]; exact hJ4, ⟨bO'.1, bO'.2.1⟩, fun g hg => one_addr hg ▸ ⟨bO'.2.2, hr4⟩, hb4, hp4⟩
        case measure => simp [intOf]; omega
      · gi_wp2
        refine bodyPost_ret (results_none rfl _ _ _) rfl ?_
        exact ⟨⟨_, rfl⟩, .inr hJx4⟩
    · have hme : m = l0.length := Nat.le_antisymm hml hge
      have hdec : decide (m < l0.length) = false := by simpa using hge
      have hJf := hjm
      rw [hme, List.take_length] at hJf
      clear hjm hg hme hge hml
      gi_wp2
      rw [roundsIn_succ]
      obtain ⟨Wq, rfl⟩ : ∃ Wq : World, Wq = wr := ⟨_, rfl⟩
      obtain ⟨O1, rfl⟩ : ∃ O1 : Nat → Prop, O1 = O := ⟨_, rfl⟩
      have hb' := hbr
      have hp' := hpr
      have h0 := hJf
      have ob0 := ob
      have op0 := op
      clear hbr hpr hJf ob op
      gi_wp2_with (first
        | (refine ⟨trivial, ?_⟩; gi_at_call 166; refine (callsIn_wide.2 (S1 _)).mono ?_; rintro e W11 ⟨rfl, hc1⟩)
        | (refine ⟨trivial, ?_⟩; gi_at_call 167; refine (callsIn_wide.2 (A1 _)).mono ?_; rintro e W21 ⟨v, rfl, hown, hc2⟩; obtain ⟨a1, cap1, cur1, rfl, hx1', hl1'⟩ := own_slice hown; clear hown))
      have hC2 : Ch [] Wq W21 := hc1.trans hc2
      have hb2 := (hC2.block b (Array.getElem?_eq_some_iff.1 hb').1 (by simp)).trans hb'
      have hp2 := (hC2.block p (Array.getElem?_eq_some_iff.1 hp').1 (by simp)).trans hp'
      have hJ2 := hJ _ _ _ _ h0 hC2
      have hx1 := Lib.hid hx1'
      have og0 : ∀ g, a1 = some ⟨g, 0, none⟩ → ¬ O1 g ∧ W21.heap[g]? = some (.cells cur1 3 (0, 0)) := fun g hg => ⟨fun h => by have := (hO.out _ _ _ h0 g h).1; have := hc1.size; have := (hl1' g hg).1; omega, (hl1' g hg).2⟩
      have OG := Lib.hid og0
      clear hb' hp' hc2 hc1 hx1' hl1' og0 h0
      gi_loopw [28] (fun i wr => ∃ (m : Nat) (O : Nat → Prop), i = .int .i64 m ∧ m ≤ l1.length ∧ J ((l0.map fun l => (8 * 0 + l, 0)) ++ (l1.take m).map (fun l => (8 * 1 + l, 1))) O wr ∧ (¬ O b ∧ ¬ O p) ∧
        (∀ g, a1 = some ⟨g, 0, none⟩ → ¬ O g ∧ wr.heap[g]? = some (.cells cur1 3 (0, 0))) ∧ wr.heap[b]? = some (.cells (hcells t s) 141 (0, 0)) ∧ wr.heap[p]? = some (.cells #[.pointer (some ⟨b, 0, none⟩)] 137 (0, 0))) (fun i _ => l1.length - (intOf i).toNat)
      case atStart => exact ⟨0, O1, rfl, Nat.zero_le _, by simpa using hJ2, ⟨ob0, op0⟩, OG.out, hb2, hp2⟩
      case round =>
        obtain ⟨m, O, hm, hml, hjm, ⟨ob, op⟩, hg', hbr, hpr⟩ := hrel
        subst hm
        have hg := Lib.hid hg'
        clear hb2 hp2 hJ2 OG hg'
        rcases Nat.lt_or_ge m l1.length with hlt | hge
        · obtain ⟨x, hx8, ⟨hxm, r, hr⟩, hnext, hsplit⟩ := take_round (g := 1) hlt hx1.out B1 ([])
          subst hr
          obtain ⟨or, hrr⟩ := hg.out r rfl
          obtain ⟨fn, tmps, assign, body, hy, hR⟩ := hY.out _ O _ _ wr (by rw [List.append_assoc, ← hsplit, List.append_nil]) hjm
          have hy : Sem.run Tryz.prog (Instr.yield l #[.int .i64 (8 + x), .int .i64 1]) wr = .ok (.round l fn tmps assign body) wr := by rw [← hy]; simp
          have HR := Lib.hid hR
          have HN := Lib.hid hnext
          clear hsplit hR hnext hg
          have hwr : IntKind.i64.wrap (x : Int) = x := wrap_small x hx8
          have hwr2 : IntKind.i64.wrap (8 + (x : Int)) = 8 + x := wrap_small2 x hx8
          have hdec : decide ((m : Int) < (l1.length : Int)) = true := by simpa using hlt
          gi_wp2
          refine HR.out.mono ?_
          clear hy HR
          rintro e W4 (⟨rfl, ⟨O', hJ4, hO'⟩, hz4, hk4⟩ | ⟨rfl, hJx4⟩)
          · have hb4 := (hk4 b (Array.getElem?_eq_some_iff.1 hbr).1 ob).trans hbr
            have hp4 := (hk4 p (Array.getElem?_eq_some_iff.1 hpr).1 op).trans hpr
            have hr4 := (hk4 r (Array.getElem?_eq_some_iff.1 hrr).1 or).trans hrr
            have hl3 : b < wr.heap.size ∧ p < wr.heap.size ∧ r < wr.heap.size := ⟨(Array.getElem?_eq_some_iff.1 hbr).1, (Array.getElem?_eq_some_iff.1 hpr).1, (Array.getElem?_eq_some_iff.1 hrr).1⟩
            have bO' : ¬ O' b ∧ ¬ O' p ∧ ¬ O' r := ⟨fun h => (hO' b h).elim ob (fun h => Nat.lt_irrefl _ (Nat.lt_of_lt_of_le hl3.1 h)), fun h => (hO' p h).elim op (fun h => Nat.lt_irrefl _ (Nat.lt_of_lt_of_le hl3.2.1 h)), fun h => (hO' r h).elim or (fun h => Nat.lt_irrefl _ (Nat.lt_of_lt_of_le hl3.2.2 h))⟩
            clear hk4 hl3 hO' hbr hpr hrr
            gi_wp2
            go_roundw
            case rel => exact ⟨m + 1, O', by go_num, hlt, by rw [← HN.out, ← List.append_assoc]; exact hJ4, ⟨bO'.1, bO'.2.1⟩, fun g hg => one_addr hg ▸ ⟨bO'.2.2, hr4⟩, hb4, hp4⟩
            case measure => simp [intOf]; omega
          · gi_wp2
            refine bodyPost_ret (results_none rfl _ _ _) rfl ?_
            exact ⟨⟨_, rfl⟩, .inr hJx4⟩
        · have hme : m = l1.length := Nat.le_antisymm hml hge
          have hdec : decide (m < l1.length) = false := by simpa using hge
          have hJf := hjm
          rw [hme, List.take_length] at hJf
          clear hjm hg hme hge hml
          gi_wp2
          rw [roundsIn_succ]
          gi_wp2
          refine bodyPost_end (results_none rfl _ _ _) rfl ?_
          exact ⟨⟨_, rfl⟩, .inl ⟨_, hJf⟩⟩
end
section
attribute [local go_sem] Oper.semAt_some zao
attribute [local go_sem] box26 zcb cell0 cell1 cell2 cell3 cell4 zcn zcm
attribute [local go_sem] cell5 cell6
attribute [local go_sem] index2_0 index2_1
theorem inR {P : Program} {f : FuncId} {args : Array Value} {w : World} {R : Ending → World → Prop} {l n : Nat} (h : Calls P f args w R) : CallsIn (Wd.inRound l) n P f args w R := CallsIn.inRound l (callsIn_wide.2 h)
theorem inW {P : Program} {f : FuncId} {args : Array Value} {w : World} {R : Ending → World → Prop} {n : Nat} (h : Calls P f args w R) : CallsIn Wd n P f args w R := callsIn_wide.2 h
theorem hkeep {W W' : World} (hc : Ch [] W W') {k : Nat} {o : Obj} (h : W.heap[k]? = some o) : W'.heap[k]? = some o := (hc.block k (Array.getElem?_eq_some_iff.1 h).1 (by simp)).trans h
theorem hkeepS {S : List Nat} {W W' : World} (hc : Ch S W W') {k : Nat} {o : Obj} (hk : k ∉ S) (h : W.heap[k]? = some o) : W'.heap[k]? = some o := (hc.block k (Array.getElem?_eq_some_iff.1 h).1 hk).trans h
def filledL (c : BitVec 64) : Nat := (lanesOf (fullM c ||| delM c)).length
def slotOk (t : Tab) (s : BitVec 64) (x : Nat × Nat) : Bool :=
  byteAt (t.c x.2) (x.1 % 8) == hash2 (hashOf s (t.k x.1)) && (hasT t (hashOf s (t.k x.1)) && decide (x.2 ∈ rowT t s (t.k x.1)))
def goodAll (t : Tab) (s : BitVec 64) : List (BitVec 64) → List (Nat × Nat) → Bool
  | _, [] => true
  | seen, x :: l => !(seen.contains (t.k x.1)) && slotOk t s x && goodAll t s (t.k x.1 :: seen) l
def mayT (t : Tab) (s : BitVec 64) : Bool :=
  flatT t && (ctrlOk (t.c 0) && ctrlOk (t.c 1)) && goodAll t s [] (slotsT t) && (t.live == ((slotsT t).length : Int)) && (t.can == 14 - ((filledL (t.c 0) + filledL (t.c 1) : Nat) : Int))
theorem may_flat (t : Tab) (s : BitVec 64) (b : Nat) (w : World) (hf : flatT t = false) (hb : w.heap[b]? = some (.cells (hcells t s) 141 (0, 0))) :
    Calls Tryz.prog 112 #[.pointer (some ⟨b, 0, none⟩)] w fun e w' => e = .returned (.bool false) ∧ Ch [] w w' := by
  have H1 := fun w => words_bad t hf w
  have hbl := (Array.getElem?_eq_some_iff.1 hb).1
  obtain ⟨W0, hW0⟩ : ∃ W0, ((w.alloc (.cells #[.pointer (some ⟨b, 0, none⟩)] 137)).alloc (.cells #[.bool false] 4)) = W0 := ⟨_, rfl⟩
  have hC0 : Ch [] w W0 := by rw [← hW0]; exact ((Ch.refl [] w).alloc _).alloc _
  have b0 : W0.heap[w.heap.size]? = some (.cells #[.pointer (some ⟨b, 0, none⟩)] 137 (0, 0)) := by rw [← hW0]; simp [go_sem]
  have b1 : W0.heap[w.heap.size + 1]? = some (.cells #[.bool false] 4 (0, 0)) := by rw [← hW0]; simp [go_sem]
  have bb := hkeep hC0 hb
  clear hf hbl hb
  refine (callsIn_wide (n := 3)).1 ?_
  refine callsIn_of_wp Tryz.func112 rfl trivial ?_
  simp only [Tryz.ntmps112, List.size_toArray, List.length_cons, List.length_nil, Nat.reduceAdd, Nat.reduceSub, Array.replicate_succ, Array.replicate_zero, List.push_toArray, List.append_toArray, List.nil_append, List.cons_append]
  gi_wp2_with (refine ⟨trivial, ?_⟩; gi_at_call 74; refine (inW (H1 _)).mono ?_; rintro e W1 ⟨rfl, hc1⟩; have d0 := hkeep hc1 b0; have d1 := hkeep hc1 b1; clear bb b0 b1 hW0)
  refine bodyPost_ret (zdi Tryz.results112 _ _ _ rfl (load_one Tryz.underlying4 rfl _ _ (fr := (0, 0)) (t := 4) (x := .bool false) ?_)) rfl ⟨rfl, ?_⟩
  · simp only [zaa, d1]; rfl
  · exact (hC0.trans hc1).setCell (.inr (by simp)) _
theorem may_bad0 (t : Tab) (s : BitVec 64) (b : Nat) (w : World) (hf : flatT t = true) (hc : ctrlOk (t.c 0) = false) (hb : w.heap[b]? = some (.cells (hcells t s) 141 (0, 0))) :
    Calls Tryz.prog 112 #[.pointer (some ⟨b, 0, none⟩)] w fun e w' => e = .returned (.bool false) ∧ Ch [] w w' := by
  have H1 := fun w => words_ok t hf w
  have C0 := fun w => ccheck_any (t.c 0) w
  rw [hc] at C0
  clear hc
  have hbl := (Array.getElem?_eq_some_iff.1 hb).1
  obtain ⟨W0, hW0⟩ : ∃ W0, ((w.alloc (.cells #[.pointer (some ⟨b, 0, none⟩)] 137)).alloc (.cells #[.bool false] 4)) = W0 := ⟨_, rfl⟩
  have hC0 : Ch [] w W0 := by rw [← hW0]; exact ((Ch.refl [] w).alloc _).alloc _
  have b0 : W0.heap[w.heap.size]? = some (.cells #[.pointer (some ⟨b, 0, none⟩)] 137 (0, 0)) := by rw [← hW0]; simp [go_sem]
  have b1 : W0.heap[w.heap.size + 1]? = some (.cells #[.bool false] 4 (0, 0)) := by rw [← hW0]; simp [go_sem]
  have bb := hkeep hC0 hb
  clear hf hbl hb
  refine (callsIn_wide (n := 3)).1 ?_
  refine callsIn_of_wp Tryz.func112 rfl trivial ?_
  simp only [Tryz.ntmps112, List.size_toArray, List.length_cons, List.length_nil, Nat.reduceAdd, Nat.reduceSub, Array.replicate_succ, Array.replicate_zero, List.push_toArray, List.append_toArray, List.nil_append, List.cons_append]
  gi_wp2_with (refine ⟨trivial, ?_⟩; gi_at_call 74; refine (inW (H1 _)).mono ?_; rintro e W1 ⟨v0, rfl, hc1⟩; have d0 := hkeep hc1 b0; have d1 := hkeep hc1 b1; have db := hkeep hc1 bb; clear bb b0 b1 hW0)
  have hC1 := hC0.trans hc1
  clear hc1 hC0
  refine wpIn_loop_rounds 3 ?_
  rw [roundsIn_succ]
  gi_wp2_with (refine ⟨trivial, ?_⟩; gi_at_call 165; refine (inW (C0 _)).mono ?_; rintro e w' ⟨rfl, rfl⟩)
  refine bodyPost_ret (zdi Tryz.results112 _ _ _ rfl (load_one Tryz.underlying4 rfl _ _ (fr := (0, 0)) (t := 4) (x := .bool false) ?_)) rfl ⟨rfl, ?_⟩
  · simp only [zaa, d1]; rfl
  · exact hC1.setCell (.inr (by simp)) _
theorem may_bad1 (t : Tab) (s : BitVec 64) (b : Nat) (w : World) (hf : flatT t = true) (hc0 : ctrlOk (t.c 0) = true) (hc : ctrlOk (t.c 1) = false) (hb : w.heap[b]? = some (.cells (hcells t s) 141 (0, 0))) :
    Calls Tryz.prog 112 #[.pointer (some ⟨b, 0, none⟩)] w fun e w' => e = .returned (.bool false) ∧ Ch [] w w' := by
  have H1 := fun w => words_ok t hf w
  have C0 := fun w => ccheck_any (t.c 0) w
  have C1 := fun w => ccheck_any (t.c 1) w
  have S0 := fun w => sets_ok (t.c 0) hc0 w
  have A0 := fun w => all_any (fullM (t.c 0) ||| delM (t.c 0)) w
  have L0 := lanes_le (fullM (t.c 0) ||| delM (t.c 0))
  rw [hc0] at C0
  rw [hc] at C1
  generalize lanesOf (fullM (t.c 0) ||| delM (t.c 0)) = l0 at *
  clear hc hc0
  have hbl := (Array.getElem?_eq_some_iff.1 hb).1
  obtain ⟨W0, hW0⟩ : ∃ W0, ((w.alloc (.cells #[.pointer (some ⟨b, 0, none⟩)] 137)).alloc (.cells #[.bool false] 4)) = W0 := ⟨_, rfl⟩
  have hC0 : Ch [] w W0 := by rw [← hW0]; exact ((Ch.refl [] w).alloc _).alloc _
  have b0 : W0.heap[w.heap.size]? = some (.cells #[.pointer (some ⟨b, 0, none⟩)] 137 (0, 0)) := by rw [← hW0]; simp [go_sem]
  have b1 : W0.heap[w.heap.size + 1]? = some (.cells #[.bool false] 4 (0, 0)) := by rw [← hW0]; simp [go_sem]
  have bb := hkeep hC0 hb
  clear hf hbl hb
  refine (callsIn_wide (n := 3)).1 ?_
  refine callsIn_of_wp Tryz.func112 rfl trivial ?_
  simp only [Tryz.ntmps112, List.size_toArray, List.length_cons, List.length_nil, Nat.reduceAdd, Nat.reduceSub, Array.replicate_succ, Array.replicate_zero, List.push_toArray, List.append_toArray, List.nil_append, List.cons_append]
  gi_wp2_with (refine ⟨trivial, ?_⟩; gi_at_call 74; refine (inW (H1 _)).mono ?_; rintro e W1 ⟨v0, rfl, hc1⟩; have d0 := hkeep hc1 b0; have d1 := hkeep hc1 b1; have db := hkeep hc1 bb; clear bb b0 b1 hW0)
  have hC1 := hC0.trans hc1
  clear hc1 hC0
  refine wpIn_loop_rounds 3 ?_
  rw [roundsIn_succ]
  gi_wp2_with (first
    | (refine ⟨trivial, ?_⟩; gi_at_call 165; refine (inW (C0 _)).mono ?_; rintro e w' ⟨rfl, rfl⟩)
    | (refine ⟨trivial, ?_⟩; gi_at_call 166; refine (inW (S0 _)).mono ?_; rintro e W2 ⟨rfl, hc2⟩; have e0 := hkeep hc2 d0; have e1 := hkeep hc2 d1; have eb := hkeep hc2 db; clear d0 d1 db)
    | (refine ⟨trivial, ?_⟩; gi_at_call 167; refine (inW (A0 _)).mono ?_; rintro e W3 ⟨v, rfl, hown, hc3⟩; obtain ⟨a, cap, cur, rfl, _, _⟩ := own_slice hown; clear hown; have d0 := hkeep hc3 e0; have d1 := hkeep hc3 e1; have db := hkeep hc3 eb; clear e0 e1 eb))
  have hC3 := (hC1.trans hc2).trans hc3
  clear hC1 hc2 hc3
  rw [roundsIn_succ]
  gi_wp2_with (refine ⟨trivial, ?_⟩; gi_at_call 165; refine (inW (C1 _)).mono ?_; rintro e w' ⟨rfl, rfl⟩)
  refine bodyPost_ret (zdi Tryz.results112 _ _ _ rfl (load_one Tryz.underlying4 rfl _ _ (fr := (0, 0)) (t := 4) (x := .bool false) ?_)) rfl ⟨rfl, ?_⟩
  · simp only [zaa, d1]; rfl
  · exact hC3.setCell (.inr (by simp)) _
end
section
attribute [local go_sem] zap
attribute [local go_sem] box26 zcb cell0 cell1 cell2 cell3 cell4 cell5 cell6
def rwords (t : Tab) (a b : Nat) : List (BitVec 64) :=
  [t.count, BitVec.ofInt 64 t.depth + 256#64 * t.pre, BitVec.ofInt 64 t.can, BitVec.ofInt 64 t.live, t.c 0, t.c 1] ++ (List.range a).map t.k ++ (List.range b).map t.v
theorem rwords_k (t : Tab) (a : Nat) : rwords t a 0 ++ [t.k a] = rwords t (a + 1) 0 := by
  unfold rwords
  rw [List.range_succ, List.map_append]
  simp
theorem rwords_v (t : Tab) (a b : Nat) : rwords t a b ++ [t.v b] = rwords t a (b + 1) := by
  unfold rwords
  rw [List.range_succ, List.map_append]
  simp
theorem rwords_len (t : Tab) (a b : Nat) : (rwords t a b).length = 6 + a + b := by unfold rwords; simp; omega
theorem index16 (av : Array Value) (n : Nat) (x : BitVec 64) (hn : n < 16) (h : av[n]? = some (U x)) (w : World) : (Instr.index 24 (.agg av) (.int .i64 (n : Int))).run Tryz.prog w = .ok (U x) w := by
  simp [Instr.index, run_underlying Tryz.underlying24, asIntOf, go_sem, h, hn]
theorem r16Words_any (t : Tab) (w : World) : Calls Tryz.prog 182 #[.agg (tcells t)] w fun e w' => ∃ v, e = .returned v ∧ w'.ownsRow w.heap.size 22 1 v 40 ((rwords t 16 16 ++ [0#64, 0#64]).map fun x => U x) ∧ Ch [] w w' := by
  obtain ⟨i0, hi, hz0, hz1, hz2⟩ := info_parts infoU
  have hka : ∀ j, j < 16 → (#[t.cell 7, t.cell 8, t.cell 9, t.cell 10, t.cell 11, t.cell 12, t.cell 13, t.cell 14, t.cell 15, t.cell 16, t.cell 17, t.cell 18, t.cell 19, t.cell 20, t.cell 21, t.cell 22] : Array Value)[j]? = some (U (t.k j)) := by
    intro j hj
    match j, hj with
    | 0, _ => rfl | 1, _ => rfl | 2, _ => rfl | 3, _ => rfl | 4, _ => rfl | 5, _ => rfl | 6, _ => rfl | 7, _ => rfl
    | 8, _ => rfl | 9, _ => rfl | 10, _ => rfl | 11, _ => rfl | 12, _ => rfl | 13, _ => rfl | 14, _ => rfl | 15, _ => rfl
    | n + 16, h => exact absurd h (by omega)
  have hva : ∀ j, j < 16 → (#[t.cell 23, t.cell 24, t.cell 25, t.cell 26, t.cell 27, t.cell 28, t.cell 29, t.cell 30, t.cell 31, t.cell 32, t.cell 33, t.cell 34, t.cell 35, t.cell 36, t.cell 37, t.cell 38] : Array Value)[j]? = some (U (t.v j)) := by
    intro j hj
    match j, hj with
    | 0, _ => rfl | 1, _ => rfl | 2, _ => rfl | 3, _ => rfl | 4, _ => rfl | 5, _ => rfl | 6, _ => rfl | 7, _ => rfl
    | 8, _ => rfl | 9, _ => rfl | 10, _ => rfl | 11, _ => rfl | 12, _ => rfl | 13, _ => rfl | 14, _ => rfl | 15, _ => rfl
    | n + 16, h => exact absurd h (by omega)
  obtain ⟨WA, hWA⟩ : ∃ W, w.alloc (.cells (tcells t) 26) = W := ⟨_, rfl⟩
  have hsA : w.heap.size + 1 = WA.heap.size := by rw [← hWA]; simp
  have hCA : Ch [] w WA := by rw [← hWA]; exact (Ch.refl [] w).alloc _
  have hbA : WA.heap[w.heap.size]? = some (.cells (tcells t) 26 (0, 0)) := by rw [← hWA]; simp [go_sem]
  have hcel : ∀ (w : World) (xs : List Value), ∀ j u, xs[j]? = some u → (w.alloc (.cells xs.toArray 22)).cell? ((⟨w.heap.size, 0, none⟩ : Addr).add j) = some u := fun w xs j u hj => by
    rw [Addr.add_lit, zaw, zae, if_pos rfl, Option.bind_some, zaj, Nat.zero_add]
    simpa using hj
  go_enter Tryz.func182, Tryz.ntmps182
  go_wp2
  obtain ⟨ka, hk⟩ : ∃ ka : Array Value, #[t.cell 7, t.cell 8, t.cell 9, t.cell 10, t.cell 11, t.cell 12, t.cell 13, t.cell 14, t.cell 15, t.cell 16, t.cell 17, t.cell 18, t.cell 19, t.cell 20, t.cell 21, t.cell 22] = ka := ⟨_, rfl⟩
  rw [hk] at hka
  rw [hk]
  have hks : ka.size = 16 := by rw [← hk]; rfl
  clear hk
  obtain ⟨R0, hR0⟩ : ∃ R : Array Value, #[U t.count, .int .u64 (N (BitVec.ofInt 64 t.depth + 256#64 * t.pre)), .int .u64 (N (BitVec.ofInt 64 t.can)), .int .u64 (N (BitVec.ofInt 64 t.live)), U (t.c 0), U (t.c 1)] = R := ⟨_, rfl⟩
  have hR : R0.size = 6 ∧ R0.toList = (rwords t 0 0).map fun x => U x := by rw [← hR0]; exact ⟨rfl, rfl⟩
  rw [hR0]
  clear hR0
  have h0 : (WA.alloc (.cells R0 22)).ownsRow WA.heap.size 22 1 (.slice (some ⟨WA.heap.size, 0, none⟩) 6 6) 6 ((rwords t 0 0).map fun x => U x) :=
    ⟨by rw [List.length_map, rwords_len], .inr ⟨WA.heap.size, 6, R0, rfl, Nat.le_refl _, by rw [zae, if_pos rfl], by omega, by unfold maxLen; omega, by rw [hR.1], by rw [← hR.2, List.take_of_length_le (by rw [Array.length_toList, hR.1]; omega)]⟩⟩
  have hC0 : Ch [] WA (WA.alloc (.cells R0 22)) := (Ch.refl [] WA).alloc _
  clear hR
  generalize WA.alloc (.cells R0 22) = W1 at *
  go_loopw [3, 32] (fun v i wr => ∃ j : Nat, i = .int .i64 j ∧ j ≤ 16 ∧ wr.ownsRow WA.heap.size 22 1 v (6 + j) ((rwords t j 0).map fun x => U x) ∧ Ch [] WA wr) (fun _ i _ => 16 - (intOf i).toNat)
  case atStart => exact ⟨0, rfl, by omega, h0, hC0⟩
  case round =>
    obtain ⟨j, hj, hj8, hown, hcr⟩ := hrel
    subst hj
    have hz := hcr.size
    clear h0 hC0
    by_cases hlt : j < 16
    · have hob := own_block hown
      have hkj := hka j hlt
      have HS := Lib.hid (rwords_k t j)
      have HL := Lib.hid (rwords_len t j 0)
      have hltI : (j : Int) < 16 := by omega
      have X1 := fun w => index16 ka j _ hlt hkj w
      clear hka hva
      obtain ⟨ys, hys⟩ : ∃ ys, rwords t j 0 = ys := ⟨_, rfl⟩
      rw [hys] at hown HS HL
      obtain ⟨kj, hkk⟩ : ∃ x, t.k j = x := ⟨_, rfl⟩
      rw [hkk] at hkj HS X1
      go_wp2_with (at_builtin; refine wpList_append_own _ rfl _ _ 44 rfl WA.heap.size 22 i0 (U 0#64) 1 8 Tryz.underlying44 hi hz0 hz1 hz2 rfl (by decide) _ _ _ rfl (hown.alloc _) ⟨wr.heap.size, 0, none⟩ 1 1 [U kj] rfl rfl (hcel _ [U kj]) (by simp [Value.oneCell']) (by unfold maxLen; omega) (by omega) (by simp; omega) ?_; intro v' w1 hown' hgrow _; have HO := Lib.hid hown'; have HG := Lib.hid hgrow; clear hown' hgrow)
      have hgr : (wr.alloc (.cells #[U kj] 22)).grownBy w1 u3.ownBlock := HG.out
      have hW1 : Ch (u3.ownBlock.toList) wr w1 := (((Ch.refl [] wr).alloc (.cells #[U kj] 22)).of_nil).trans2 (Ch.of_grown (S := u3.ownBlock.toList) hgr (fun k hk => by simp [hk])) (fun t ht => .inl ht)
      have hSS : ∀ s ∈ u3.ownBlock.toList, WA.heap.size ≤ s := fun s hs => hob s (by simpa using hs)
      have HO2 : w1.ownsRow WA.heap.size 22 1 v' (6 + j + 1) (ys.map (fun x => U x) ++ [U kj]) := HO.out
      go_roundw
      case rel => exact ⟨j + 1, by go_num, hlt, by rw [← HS.out, List.map_append]; exact HO2, hcr.trans2 hW1 (fun t ht => .inr (hSS t ht))⟩
      case measure => simp [intOf]; omega
    · have hj16 : j = 16 := by omega
      rw [hj16] at hown
      have hnI : ¬ (j : Int) < 16 := by omega
      clear hj16 hlt hj8
      have hbW : wr.heap[w.heap.size]? = some (.cells (tcells t) 26 (0, 0)) := hkeep hcr hbA
      clear hka
      go_wp2
      obtain ⟨va, hv⟩ : ∃ va : Array Value, #[t.cell 23, t.cell 24, t.cell 25, t.cell 26, t.cell 27, t.cell 28, t.cell 29, t.cell 30, t.cell 31, t.cell 32, t.cell 33, t.cell 34, t.cell 35, t.cell 36, t.cell 37, t.cell 38] = va := ⟨_, rfl⟩
      rw [hv] at hva
      rw [hv]
      have hvs : va.size = 16 := by rw [← hv]; rfl
      clear hv hbW
      have HO1 := Lib.hid hown
      have HC1 := Lib.hid hcr
      clear hown hcr hz
      go_loopw [3, 42] (fun v i wr => ∃ j : Nat, i = .int .i64 j ∧ j ≤ 16 ∧ wr.ownsRow WA.heap.size 22 1 v (22 + j) ((rwords t 16 j).map fun x => U x) ∧ Ch [] WA wr) (fun _ i _ => 16 - (intOf i).toNat)
      case atStart => exact ⟨0, rfl, by omega, HO1.out, HC1.out⟩
      case round =>
        obtain ⟨j, hj, hj8, hown, hcr⟩ := hrel
        subst hj
        have hz := hcr.size
        clear HO1 HC1
        by_cases hlt : j < 16
        · have hob := own_block hown
          have hkj := hva j hlt
          have HS := Lib.hid (rwords_v t 16 j)
          have HL := Lib.hid (rwords_len t 16 j)
          have hltI : (j : Int) < 16 := by omega
          have X1 := fun w => index16 va j _ hlt hkj w
          clear hva
          obtain ⟨ys, hys⟩ : ∃ ys, rwords t 16 j = ys := ⟨_, rfl⟩
          rw [hys] at hown HS HL
          obtain ⟨kj, hkk⟩ : ∃ x, t.v j = x := ⟨_, rfl⟩
          rw [hkk] at hkj HS X1
          go_wp2_with (at_builtin; refine wpList_append_own _ rfl _ _ 44 rfl WA.heap.size 22 i0 (U 0#64) 1 8 Tryz.underlying44 hi hz0 hz1 hz2 rfl (by decide) _ _ _ rfl (hown.alloc _) ⟨wr.heap.size, 0, none⟩ 1 1 [U kj] rfl rfl (hcel _ [U kj]) (by simp [Value.oneCell']) (by unfold maxLen; omega) (by omega) (by simp; omega) ?_; intro v' w1 hown' hgrow _; have HO := Lib.hid hown'; have HG := Lib.hid hgrow; clear hown' hgrow)
          have hgr : (wr.alloc (.cells #[U kj] 22)).grownBy w1 u3.ownBlock := HG.out
          have hW1 : Ch (u3.ownBlock.toList) wr w1 := (((Ch.refl [] wr).alloc (.cells #[U kj] 22)).of_nil).trans2 (Ch.of_grown (S := u3.ownBlock.toList) hgr (fun k hk => by simp [hk])) (fun t ht => .inl ht)
          have hSS : ∀ s ∈ u3.ownBlock.toList, WA.heap.size ≤ s := fun s hs => hob s (by simpa using hs)
          have HO2 : w1.ownsRow WA.heap.size 22 1 v' (22 + j + 1) (ys.map (fun x => U x) ++ [U kj]) := HO.out
          go_roundw
          case rel => exact ⟨j + 1, by go_num, hlt, by rw [← HS.out, List.map_append]; exact HO2, hcr.trans2 hW1 (fun t ht => .inr (hSS t ht))⟩
          case measure => simp [intOf]; omega
        · have hj16 : j = 16 := by omega
          subst hj16
          have hob := own_block hown
          go_wp2_with (at_builtin; refine wpList_append_own _ rfl _ _ 44 rfl WA.heap.size 22 i0 (U 0#64) 1 8 Tryz.underlying44 hi hz0 hz1 hz2 rfl (by decide) _ _ _ rfl (hown.alloc _) ⟨wr.heap.size, 0, none⟩ 2 2 [U 0#64, U 0#64] rfl rfl (hcel _ [U 0#64, U 0#64]) (by simp [Value.oneCell']) (by unfold maxLen; omega) (by omega) (by simp; omega) ?_; intro v' w1 hown' hgrow _; have HO := Lib.hid hown'; have HG := Lib.hid hgrow; clear hown' hgrow)
          have hgr : (wr.alloc (.cells #[U 0#64, U 0#64] 22)).grownBy w1 u3.ownBlock := HG.out
          have hW1 : Ch (u3.ownBlock.toList) wr w1 := (((Ch.refl [] wr).alloc (.cells #[U 0#64, U 0#64] 22)).of_nil).trans2 (Ch.of_grown (S := u3.ownBlock.toList) hgr (fun k hk => by simp [hk])) (fun t ht => .inl ht)
          have hSS : ∀ s ∈ u3.ownBlock.toList, WA.heap.size ≤ s := fun s hs => hob s (by simpa using hs)
          have HO2 : w1.ownsRow WA.heap.size 22 1 v' 40 ((rwords t 16 16).map (fun x => U x) ++ [U 0#64, U 0#64]) := HO.out
          go_ret
          refine ⟨v', rfl, ?_, hCA.trans (hcr.trans2 hW1 (fun t ht => .inr (hSS t ht)))⟩
          rw [List.map_append]
          exact ⟨HO2.1, HO2.2.elim .inl (fun ⟨g, cap, cur, a, b, c⟩ => .inr ⟨g, cap, cur, a, by omega, c⟩)⟩
end
end Go.Proofs.Hc
