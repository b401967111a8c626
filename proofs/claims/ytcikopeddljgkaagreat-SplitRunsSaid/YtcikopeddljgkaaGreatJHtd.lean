/- Panics that are recovered in package table: need, tries. -/
import Derived.Test.YtcikopeddljgkaaGreatJHmy
import Derived.Test.YtcikopeddljgkaaGreatJ0
set_option linter.unusedSimpArgs false
set_option linter.unusedVariables false
set_option maxHeartbeats 1000000
set_option maxRecDepth 100000
namespace Go.Proofs.Hc
open Go.RowKit
attribute [local go_sem] zbu zcc zax zbf zbo zbd zbn zbp zbw signed64 signed8 zap BitVec.ofInt_add BitVec.ofInt_mul ofInt_sub' zbb zbc wide8 eqN neN zca shr1 shr7 shr56
attribute [local go_sem high] zbe zbv
attribute [local go_sem] zaw zby zaj zas zaf zaz zar zak zbm zal zay zba
attribute [local go_sem] load26 load73 load23 store26 build73
attribute [local go_sem ↓] lrow26 lrow73 lrow23 srow26 zero26 brow73 zae zbk zbg zaa zab
attribute [local go_sem] zai zav zat zbj zbl zbr zaq zau zbs zbi zbh
attribute [local go_sem] nn2 nm2 nn3 nm3 nn4 nm4 nn5 nm5 nn6 nm6 nn7 nm7 nn8 nm8
section
attribute [local go_sem] loadA loadT2 storeA storeT2 buildA_ts buildA_sm zdd make_func zda zcd acells_get zcz acells_one t2cells_one zcy acells_all t2cells_all t2cells_l t2cells_r
attribute [local go_sem ↓] lrowA lrowT2 srowA srowT2 browA zeroA_run zeroT2_run
theorem tneed_yes (c : Int) (w : World) :
    Calls Tryz.prog 83 #[.bool true, I c] w fun e w' => e = .returned (.tuple #[]) ∧ w = w' := by
  go_enter Tryz.func83, Tryz.ntmps83
  go_wp2
  go_end0
  exact ⟨rfl, rfl⟩
theorem tneed_no (c : Int) (w : World) :
    Calls Tryz.prog 83 #[.bool false, I c] w fun e w' => e = .panicked [{ v := .iface 32 (I c), recovered := false }] ∧ w = w' := by
  go_enter Tryz.func83, Tryz.ntmps83
  go_wp2
  exact ⟨rfl, rfl, rfl⟩
theorem catch_idle26 (p q : Nat) (w : World) :
    CallsD Tryz.prog 142 #[.pointer (some ⟨p, 0, none⟩), .pointer (some ⟨q, 0, none⟩)] .returning w fun e u' w' => e = .returned (.tuple #[]) ∧ u' = .returning ∧ w = w' := by
  refine callsD_of_wpS Tryz.func142 rfl fun c₀ cs hu => ?_
  simp only [Tryz.ntmps142, List.size_toArray, List.length_cons, List.length_nil, Nat.reduceAdd, Nat.reduceSub, Array.replicate_succ, Array.replicate_zero, List.push_toArray, List.append_toArray, List.nil_append, List.cons_append]
  apply wpS_seq
  apply wpS_region
  simp [wpOpsS, go_sem, recoverD, hu, Exit.thenS]
  refine wpS_of_wp ?_
  go_wp2_with fail
  exact ⟨rfl, .returning, by cases c₀; simp_all, _, results_none rfl _ _ _, rfl, rfl, rfl⟩
theorem catch_panic26 (p q : Nat) (c : Int) (cs1 : Array Value) (c2 : Value) (w : World)
    (hp : w.heap[p]? = some (.cells cs1 26 (0, 0))) (hs : cs1.size = 39) (hq : w.heap[q]? = some (.cells #[c2] 32 (0, 0))) (hpq : (p = q) = False) :
    CallsD Tryz.prog 142 #[.pointer (some ⟨p, 0, none⟩), .pointer (some ⟨q, 0, none⟩)] (.panicking [{ v := .iface 32 (I c), recovered := false }]) w fun e u' w' =>
      e = .returned (.tuple #[]) ∧ u' = .panicking [{ v := .iface 32 (I c), recovered := true }] ∧ Ch [p, q] w w' ∧
      w'.heap[p]? = some (.cells (tcells zeroT) 26 (0, 0)) ∧ w'.heap[q]? = some (.cells #[I c] 32 (0, 0)) := by
  have hp1 : (p = w.heap.size) = False := by have := (Array.getElem?_eq_some_iff.1 hp).1; simp; omega
  have hq1 : (q = w.heap.size) = False := by have := (Array.getElem?_eq_some_iff.1 hq).1; simp; omega
  have hqp : (q = p) = False := by simpa [eq_comm] using hpq
  refine callsD_of_wpS Tryz.func142 rfl fun c₀ cs hu => ?_
  simp only [Tryz.ntmps142, List.size_toArray, List.length_cons, List.length_nil, Nat.reduceAdd, Nat.reduceSub, Array.replicate_succ, Array.replicate_zero, List.push_toArray, List.append_toArray, List.nil_append, List.cons_append]
  apply wpS_seq
  apply wpS_region
  simp [wpOpsS, go_sem, recoverD, hu, Exit.thenS]
  refine wpS_of_wp ?_
  go_wp2_with fail
  refine ⟨rfl, _, rfl, _, results_none rfl _ _ _, rfl, rfl, ?_, ?_, ?_⟩
  · exact (((Ch.refl [p, q] w).alloc _).onObj (.inl (by simp)) _).setCell (.inl (by simp)) _
  · simp only [zaa, zab, zae, hpq, hp1, hp, if_false, if_true, Option.map_some, zak]
    rw [laid_whole _ _ (by rw [hs]; rfl)]
  · simp only [zaa, zab, zae, hqp, hq1, hq, if_false, if_true, Option.map_some, zaf]
    rfl
theorem results_tries26 (tmps : Array Value) (p q : Nat) (w : World) (v : Array Value) (c : Int) (hp : tmps.getD 6 undef = .pointer (some ⟨p, 0, none⟩)) (hq : tmps.getD 7 undef = .pointer (some ⟨q, 0, none⟩))
    (h1 : w.heap[p]? = some (.cells v 26 (0, 0))) (hs : v.size = 39) (h2 : w.heap[q]? = some (.cells #[I c] 32 (0, 0))) :
    (results Tryz.f76 tmps).run Tryz.prog w = .ok (.tuple #[.agg v, I c]) w := by
  exact results_cell2 Tryz.results76 tmps _ _ w hp hq (run_loadVar_row w p _ _ v _ _ h1 Tryz.underlying26 rfl (by rw [hs]; kernel_rfl)) (load_one Tryz.underlying32 rfl q w h2)
theorem tries26_any (t : Tab) (s : BitVec 64) (df : Nat) (cap : Array Value) (r : Except Int Tab) (w : World)
    (hdf : ∀ args w, (callFunc df args).run Tryz.prog w = .ok (.enter df args) w)
    (hdoes : mayT t s = true → ∀ b w1, w1.heap[b]? = some (.cells (hcells t s) 141 (0, 0)) → Ch [] w w1 → w.heap.size ≤ b →
      Calls Tryz.prog df (#[.pointer (some ⟨b, 0, none⟩)] ++ cap) w1 fun e w2 => e = retOr (fun v => .agg (tcells v)) r ∧ Ch [b] w1 w2) :
    Calls Tryz.prog 76 #[U s, .agg (tcells t), .func (.func df) #[] cap] w fun e w' =>
      e = .returned (tupOr (fun v => .agg (tcells v)) (.agg (tcells zeroT)) (if mayT t s then r else .error 270)) ∧ Ch [] w w' := by
  cases hm : mayT t s with
  | false =>
    have hm1 := may_any t s
    rw [hm] at hm1
    clear hdoes hm
    simp only [if_false, Bool.false_eq_true]
    go_enter_defers Tryz.func76, Tryz.ntmps76
    go_wp2_with fail
    refine (hm1 _ _ ?_).mono ?_
    · simp [go_sem]
    rintro e w1 ⟨rfl, hc1⟩
    go_wp2_with (go_at_call 83; refine (tneed_no _ _).mono ?_; rintro e w2 ⟨rfl, rfl⟩)
    refine leaves_cons (f := 142) (args := #[.pointer (some ⟨w.heap.size + 1, 0, none⟩), .pointer (some ⟨w.heap.size + 1 + 1, 0, none⟩)]) (by simp) (by simp [go_sem]) ?_
    refine (catch_panic26 _ _ _ (tcells zeroT) (I 0) _ ?_ rfl ?_ ?_).mono ?_
    · exact (hc1.block _ (by simp) (by simp)).trans (by simp [go_sem])
    · exact (hc1.block _ (by simp) (by simp)).trans (by simp [go_sem])
    · simp
    rintro e u' w2 ⟨rfl, rfl, hc2, h1, h2⟩
    have hsz := hc1.size
    simp only [World.size_alloc] at hsz
    refine ⟨_, results_tries26 _ _ _ _ _ _ rfl rfl h1 rfl h2, rfl, ?_⟩
    exact (((((Ch.refl [] w).alloc _).alloc _).alloc _).alloc _ |>.pure hc1).trans2 hc2 (by simp <;> omega)
  | true =>
    have hm1 := may_any t s
    rw [hm] at hm1
    have hdoes := hdoes hm
    clear hm
    simp only [if_true]
    cases r with
    | ok v =>
      go_enter_defers Tryz.func76, Tryz.ntmps76
      go_wp2_with fail
      refine (hm1 _ _ ?_).mono ?_
      · simp [go_sem]
      rintro e w1 ⟨rfl, hc1⟩
      go_wp2_with (go_at_call 83; refine (tneed_yes _ _).mono ?_; rintro e w2 ⟨rfl, rfl⟩)
      have hsz := hc1.size
      simp only [World.size_alloc] at hsz
      refine (hdoes _ _ ((hc1.block _ (by simp) (by simp)).trans (by simp [go_sem])) (((((Ch.refl [] w).alloc _).alloc _).alloc _).alloc _ |>.pure hc1) (by omega)).mono ?_
      rintro e w2 ⟨rfl, hc2⟩
      have hz2 := hc2.size
      have h6 : w2.heap[w.heap.size + 1]? = some (.cells (tcells zeroT) 26 (0, 0)) := (hc2.block _ (by omega) (by simp)).trans ((hc1.block _ (by simp) (by simp)).trans (by simp [go_sem]))
      have h7 : w2.heap[w.heap.size + 1 + 1]? = some (.cells #[I 0] 32 (0, 0)) := (hc2.block _ (by omega) (by simp)).trans ((hc1.block _ (by simp) (by simp)).trans (by simp [go_sem]))
      simp only [retOr]
      go_wp2
      refine leaves_cons (f := 142) (args := #[.pointer (some ⟨w.heap.size + 1, 0, none⟩), .pointer (some ⟨w.heap.size + 1 + 1, 0, none⟩)]) (by simp) (by simp [go_sem]) ?_
      refine (catch_idle26 _ _ _).mono ?_
      rintro e u' w3 ⟨rfl, rfl, rfl⟩
      have n67 : (w.heap.size + 1 = w.heap.size + 1 + 1) = False := by simp
      have n76 : (w.heap.size + 1 + 1 = w.heap.size + 1) = False := by simp
      refine ⟨_, results_tries26 _ _ _ _ _ _ rfl rfl ?g6 ?gs ?g7, rfl, ?gc⟩
      case g6 =>
        simp only [zaa, zab, h6, n67, if_false, if_true, Option.map_some, zak]
        rw [laid_whole _ _ (by rw [zai, zai])]
      case g7 =>
        simp only [zaa, zab, h7, n76, if_false, if_true, Option.map_some, zaf]
        rfl
      case gs => exact zai _
      case gc =>
        exact ((((((((Ch.refl [] w).alloc _).alloc _).alloc _).alloc _).pure hc1).trans2 hc2 (by simp <;> omega)).onObj (.inr (by simp <;> omega)) _).setCell (.inr (by simp <;> omega)) _
    | error c =>
      go_enter_defers Tryz.func76, Tryz.ntmps76
      go_wp2_with fail
      refine (hm1 _ _ ?_).mono ?_
      · simp [go_sem]
      rintro e w1 ⟨rfl, hc1⟩
      go_wp2_with (go_at_call 83; refine (tneed_yes _ _).mono ?_; rintro e w2 ⟨rfl, rfl⟩)
      have hsz := hc1.size
      simp only [World.size_alloc] at hsz
      refine (hdoes _ _ ((hc1.block _ (by simp) (by simp)).trans (by simp [go_sem])) (((((Ch.refl [] w).alloc _).alloc _).alloc _).alloc _ |>.pure hc1) (by omega)).mono ?_
      rintro e w2 ⟨rfl, hc2⟩
      have hz2 := hc2.size
      have h6 : w2.heap[w.heap.size + 1]? = some (.cells (tcells zeroT) 26 (0, 0)) := (hc2.block _ (by omega) (by simp)).trans ((hc1.block _ (by simp) (by simp)).trans (by simp [go_sem]))
      have h7 : w2.heap[w.heap.size + 1 + 1]? = some (.cells #[I 0] 32 (0, 0)) := (hc2.block _ (by omega) (by simp)).trans ((hc1.block _ (by simp) (by simp)).trans (by simp [go_sem]))
      simp only [retOr]
      refine leaves_cons (f := 142) (args := #[.pointer (some ⟨w.heap.size + 1, 0, none⟩), .pointer (some ⟨w.heap.size + 1 + 1, 0, none⟩)]) (by simp) (by simp [go_sem]) ?_
      refine (catch_panic26 _ _ _ _ (I 0) _ h6 rfl h7 (by simp)).mono ?_
      rintro e u' w3 ⟨rfl, rfl, hc3, h1, h2⟩
      refine ⟨_, results_tries26 _ _ _ _ _ _ rfl rfl h1 rfl h2, rfl, ?_⟩
      exact ((((((Ch.refl [] w).alloc _).alloc _).alloc _).alloc _ |>.pure hc1).trans2 hc2 (by simp <;> omega)).trans2 hc3 (by simp <;> omega)
end
end Go.Proofs.Hc
namespace Go.Proofs.Hc
open Go.RowKit
def noDefer (l : List Oper) : Bool := l.all fun o => match o.op with
  | .defer _ => false
  | _ => true
theorem noDefer_at {l : List Oper} (h : noDefer l = true) {i : Nat} {o : Oper} (hi : l.toArray[i]? = some o) : ∀ c, o.op ≠ .defer c := by
  intro c hc
  have hm : o ∈ l := List.mem_of_getElem? (by simpa using hi)
  have := List.all_eq_true.1 h o hm
  rw [hc] at this
  cases this
theorem wpIn_of_wp {P : Program} {r n : Nat} {o : Oper} {a : Act} {w : World} {K : Act → World → Prop} {Q : Exit → Act → World → Prop} (hd : ∀ c, o.op ≠ .defer c) (h : o.wp P a w K Q) : o.wpIn (Wd.inRound r) n P a w K Q := by
  unfold Oper.wpIn
  unfold Oper.wp at h
  refine ⟨fun _ _ => trivial, ?_⟩
  rw [Oper.semAt_eq _ _ _ hd]
  generalize (execOp a.eval o).run P w = x at *
  cases x with
  | ok y w' =>
    cases y with
    | value v => exact h
    | skip => exact h
    | defer d => exact h
    | enter f args => exact ⟨fun e => (by cases e), CallsIn.inRound r (callsIn_wide.2 h)⟩
    | row q args =>
      refine ⟨fun e => (by cases e), fun c cs _ => ?_⟩
      obtain ⟨v, w2, hv, hs⟩ := h c cs
      exact ⟨v, w2, hv, stepsIn_wide.2 hs⟩
    | _ => exact h.elim
  | halt y w' =>
    cases y <;> exact h
theorem anyIn {P : Program} {r n : Nat} {l : List Oper} {md : Region.Mode} {Q : Exit → Act → World → Prop} (hd : noDefer l = true) (hno : ¬ LetsOut Q) : ∀ (f : Nat) (listed : Array Bool) (a : Act) (w : World),
    wpAny P md l.toArray Q f listed a w → wpAnyIn (Wd.inRound r) n P md l.toArray Q f listed a w
  | 0, _, _, _, h => h
  | f + 1, listed, a, w, h => by
    refine ⟨h.1, fun i hi => ?_⟩
    have := h.2 i hi
    unfold wpOp at this
    unfold wpOpIn
    cases ho : l.toArray[i]? with
    | none => rw [ho] at this; exact anyIn hd hno f _ _ _ this
    | some o =>
      rw [ho] at this
      simp only at this ⊢
      split
      · rename_i hw
        rw [if_pos hw] at this
        rcases this with h1 | h1
        · exact Oper.wpIn_mono (fun a' w' h' => anyIn hd hno f _ _ _ h') (wpIn_of_wp (noDefer_at hd ho) h1)
        · exact (hno h1.2).elim
      · rename_i hw
        rw [if_neg hw] at this
        exact ⟨fun _ _ => trivial, anyIn hd hno f _ _ _ this⟩
theorem any_gar {P : Program} {Q : Exit → Act → World → Prop} {a : Act} {w : World} {l : List Oper} (hB : Region.lexB .any l.toArray = true)
    (h : wpQuiet P l.toArray (fun w' => ∃ g : Gar w, w' = g.1) (fun a' => ∀ w', (∃ g : Gar w, w' = g.1) → Q .normal a' w') l a) : wpAny P .any l.toArray Q l.toArray.size (Array.replicate l.toArray.size false) a { w with drawn := w.drawn + 1 } := by
  simp only [Region.lexB, Bool.and_eq_true] at hB
  refine wpAny_of_quiet (Q := fun a' => ∀ w', (∃ g : Gar w, w' = g.1) → Q .normal a' w') (fun _ w' hw' h => h w' hw') _ _ _ _ ⟨⟨_, (Ch.refl [] w).drew⟩, rfl⟩ ?_
  have := wpAnyQ_lex (C := fun w' => ∃ g : Gar w, w' = g.1) (md := .any) hB.1 l 0 (Array.replicate l.toArray.size false) a (by simp) (by simpa using hB.2) h
  simpa using this
theorem rr_gar {P : Program} {id r k : Nat} {Q : Exit → Act → World → Prop} {a : Act} {w : World} {l : List Oper} (hm : P.follows .mixedOrders = true) (hd : noDefer l = true) (hB : Region.lexB .any l.toArray = true) (hno : ¬ LetsOut Q)
    (h : wpQuiet P l.toArray (fun w' => ∃ g : Gar w, w' = g.1) (fun a' => ∀ w', (∃ g : Gar w, w' = g.1) → Q .normal a' w') l a) : (Code.region id l.toArray true).wpIn (Wd.inRound r) k P Q a w :=
  wpIn_region_any hm (anyIn hd hno _ _ _ _ (any_gar hB h))
theorem rr_held {P : Program} {id r k : Nat} {Q : Exit → Act → World → Prop} {a : Act} {w : World} {l : List Oper} (S : World → Prop) (hm : P.follows .mixedOrders = true) (hd : noDefer l = true) (hno : ¬ LetsOut Q) (hS : S w.drew)
    (h : S w.drew → wpAnyH P .any l.toArray Q S l.toArray.size (Array.replicate l.toArray.size false) a w.drew) : (Code.region id l.toArray true).wpIn (Wd.inRound r) k P Q a w :=
  wpIn_region_any hm (anyIn hd hno _ _ _ _ (wpAny_of_held _ _ _ _ (h hS)))
end Go.Proofs.Hc
namespace Go.Proofs.Hc
open Go.RowKit
attribute [local go_sem] zbu zcc zax zbf zbo zbd zbn zbp zbw signed64 signed8 zap BitVec.ofInt_add BitVec.ofInt_mul ofInt_sub' zbb zbc wide8 eqN neN zca shr1 shr7 shr56
attribute [local go_sem high] zbe zbv
attribute [local go_sem] zaw zby zaj zas zaf zaz zar zak zbm zal zay zba
attribute [local go_sem] load26 load73 load23 store26 build73
attribute [local go_sem ↓] lrow26 lrow73 lrow23 srow26 zero26 brow73 zae zbk zbg zaa zab
attribute [local go_sem] zai zav zat zbj zbl zbr zaq zau zbs zbi zbh
attribute [local go_sem] nn2 nm2 nn3 nm3 nn4 nm4 nn5 nm5 nn6 nm6 nn7 nm7 nn8 nm8
section
attribute [local go_sem] Oper.semAt_some zao
attribute [local go_sem] box26 zcb cell0 cell1 cell2 cell3 cell4 zcn zcm
attribute [local go_sem] cell5 cell6
theorem surew_yes (c : BitVec 64) (w : World) : Calls Tryz.prog 137 #[U c, I 0] w fun e w' => e = .returned (U c) ∧ w = w' := by
  go_enter Tryz.func137, Tryz.ntmps137
  go_wp2_with (go_at_call 83; refine (tneed_yes _ _).mono ?_; rintro e w' ⟨rfl, rfl⟩)
  go_ret
  exact ⟨rfl, rfl⟩
def bareT (count : BitVec 64) (d : Int) (p : BitVec 64) : Tab := ⟨count, d, p, 14, 0, fun _ => tops, fun _ => 0#64, fun _ => 0#64⟩
def hasKT (t : Tab) (k : BitVec 64) : Bool := (slotsT t).any fun x => t.k x.1 == k
theorem any_snoc (t : Tab) (k : BitVec 64) (pre post : List (Nat × Nat)) (x : Nat × Nat) (h : pre.any (fun x => t.k x.1 == k) = false) :
    (pre ++ [x]).any (fun x => t.k x.1 == k) = (t.k x.1 == k) ∧ ((t.k x.1 == k) = true → (pre ++ x :: post).any (fun x => t.k x.1 == k) = true) := by
  constructor
  · simp only [List.any_append, h, List.any_cons, List.any_nil]; simp
  · intro hx; simp only [List.any_append, List.any_cons, hx]; simp
theorem has_key (t : Tab) (s k : BitVec 64) (b : Nat) (w : World) (hok0 : ctrlOk (t.c 0) = true) (hok1 : ctrlOk (t.c 1) = true) (hb : w.heap[b]? = some (.cells (hcells t s) 141 (0, 0))) :
    Calls Tryz.prog 265 #[.pointer (some ⟨b, 0, none⟩), U k] w fun e w' => e = .returned (.bool (hasKT t k)) ∧ Ch [] w w' := by
  have hbl := (Array.getElem?_eq_some_iff.1 hb).1
  have Y1 := fun p w hb hp => slots_yields t s b p w hok0 hok1 hb hp
  have B1 := Lib.hid (slots_bound t)
  unfold hasKT
  generalize slotsT t = xs at *
  refine (callsIn_wide (n := 3)).1 ?_
  refine callsIn_of_wp_marks Tryz.func265 rfl trivial ?_
  simp only [Tryz.ntmps265, List.size_toArray, List.length_cons, List.length_nil, Nat.reduceAdd, Nat.reduceSub, Array.replicate_succ, Array.replicate_zero, List.push_toArray, List.append_toArray, List.nil_append, List.cons_append]
  gi_wp2_with (refine ⟨trivial, ?_⟩; gi_at_call 144; refine (inW (slots_make _ _)).mono ?_; rintro e w' ⟨rfl, rfl⟩)
  obtain ⟨W0, hW0⟩ : ∃ W0, (((w.alloc (.cells #[.pointer (some ⟨b, 0, none⟩)] 137)).alloc (.cells #[U k] 22)).alloc (.cells #[.bool false] 4)).alloc (.cells #[.pointer (some ⟨b, 0, none⟩)] 137) = W0 := ⟨_, rfl⟩
  have hs0 : W0.heap.size = w.heap.size + 4 := by rw [← hW0]; simp
  have hC0 : Ch [] w W0 := by rw [← hW0]; exact ((((Ch.refl [] w).alloc _).alloc _).alloc _).alloc _
  have b0 : W0.heap[w.heap.size]? = some (.cells #[.pointer (some ⟨b, 0, none⟩)] 137 (0, 0)) := by rw [← hW0]; simp [go_sem] <;> omega
  have b1 : W0.heap[w.heap.size + 1]? = some (.cells #[U k] 22 (0, 0)) := by rw [← hW0]; simp [go_sem] <;> omega
  have b2 : W0.heap[w.heap.size + 1 + 1]? = some (.cells #[.bool false] 4 (0, 0)) := by rw [← hW0]; simp [go_sem] <;> omega
  have b3 : W0.heap[w.heap.size + 1 + 1 + 1]? = some (.cells #[.pointer (some ⟨b, 0, none⟩)] 137 (0, 0)) := by rw [← hW0]; simp [go_sem] <;> omega
  have bb := hkeep hC0 hb
  rw [hW0]
  clear hW0 hok0 hok1
  refine range_lawO (n := 1) (xs := xs) rfl enters_slots (Y1 _ W0 bb b3) (fun _ => rfl) (by simp) (by simp <;> omega)
    (fun pre O W => (∀ x, O x ↔ x = w.heap.size + 1 + 1) ∧ pre.any (fun x => t.k x.1 == k) = false ∧ Ch [] w W ∧ W.heap[w.heap.size]? = some (.cells #[.pointer (some ⟨b, 0, none⟩)] 137 (0, 0)) ∧ W.heap[w.heap.size + 1]? = some (.cells #[U k] 22 (0, 0)) ∧ W.heap[w.heap.size + 1 + 1]? = some (.cells #[.bool false] 4 (0, 0)))
    (fun c W => c = .ret ∧ xs.any (fun x => t.k x.1 == k) = true ∧ Ch [] w W ∧ W.heap[w.heap.size + 1 + 1]? = some (.cells #[.bool true] 4 (0, 0)))
    (fun x => x = w.heap.size + 1 + 1) ?hIO ?hI ?hIx ⟨fun _ => Iff.rfl, by simp, hC0, b0, b1, b2⟩ ?a₁ ?assign ?body ?done ?stop
  case assign =>
    intro x W K hK
    gi_wp2
    exact hK
  case hIO =>
    rintro pre O A ⟨h, _, hc, _, _, h2⟩ x hx
    have hx := (h x).1 hx
    subst hx
    exact ⟨.inl (by omega), (Array.getElem?_eq_some_iff.1 h2).1, by simp; omega⟩
  case hI =>
    rintro pre O A B ⟨h0, hd, hc, h1, h2, h3⟩ hAB
    exact ⟨h0, hd, hc.trans2 hAB (by simp <;> omega), hkeepS hAB (by simp; omega) h1, hkeepS hAB (by simp; omega) h2, hkeepS hAB (by simp; omega) h3⟩
  case hIx =>
    rintro c A B ⟨rfl, hd, hc, h2⟩ hAB
    exact ⟨rfl, hd, hc.trans2 hAB (by simp <;> omega), hkeepS hAB (by simp; omega) h2⟩
  case body =>
    rintro pre O x post W hx ⟨h0, hd, hc, h1, h2, h3⟩ hsz
    go_light
    obtain ⟨hx16, -, -, -⟩ := B1.out x (by rw [hx]; simp)
    have hany := any_snoc t k pre post x hd
    rw [← hx] at hany
    obtain ⟨sl, g⟩ := x
    have HA := Lib.hid hany
    have hk7 := hcells_key t s sl hx16
    have hbW := hkeep hc hb
    have hg1 : ∀ g : Gar W, (g.1).heap[w.heap.size]? = some (.cells #[.pointer (some ⟨b, 0, none⟩)] 137 (0, 0)) := fun g => hkeep g.2 h1
    have hg2 : ∀ g : Gar W, (g.1).heap[w.heap.size + 1]? = some (.cells #[U k] 22 (0, 0)) := fun g => hkeep g.2 h2
    have hg3 : ∀ g : Gar W, (g.1).heap[b]? = some (.cells (hcells t s) 141 (0, 0)) := fun g => hkeep g.2 hbW
    have hsl0 : (0 : Int) ≤ (sl : Int) := by omega
    have hsl1 : (sl : Int) < 16 := by omega
    clear hx hany hd Y1 b0 b1 b2 b3 bb hb hbl B1
    simp only at HA
    generalize hkk : t.k sl = kk at *
    cases he : (kk == k)
    all_goals
      gi_wp2
      refine rr_gar (by kernel_rfl) (by kernel_rfl) (by kernel_rfl) (by rintro ⟨a, w, h⟩; exact h) ?_
      repeat (go_big_quiet_step (fail))
      refine wpQuiet_nil ?_
      rintro W6 ⟨g6, hw6⟩
      have hc6 : Ch [] W W6 := by rw [hw6]; exact g6.2
      clear hw6 g6 hg1 hg2 hg3
      have d1 := hkeep hc6 h1
      have d2 := hkeep hc6 h2
      have d3 := hkeep hc6 h3
      gi_wp2
    · refine ⟨⟨O, ⟨h0, HA.out.1.trans he, hc.trans hc6, d1, d2, d3⟩, fun _ h => .inl h⟩, hc6.size, fun b hb _ => hc6.block b hb (by simp)⟩
    · refine ⟨⟨rfl, HA.out.2 he, (hc.trans hc6).setCell (p := ⟨w.heap.size + 1 + 1, 0, none⟩) (.inr (by simp; omega)) _, ?_⟩, fun y hy hn => ?_⟩
      · rw [zaa, if_pos rfl, d3]; rfl
      · rw [zaa, if_neg (fun e => hn ((h0 y).2 e))]; exact hc6.block y hy (by simp)
  case done =>
    rintro O W ⟨h0, hd, hc, h1, h2, h3⟩ hdd
    gi_wp2
    refine marks_ret (v := .bool false) ?_ (zdi Tryz.results265 _ _ _ rfl (load_one Tryz.underlying4 rfl _ _ (fr := (0, 0)) (t := 4) ?_)) ⟨by rw [hd], ?_⟩
    · rw [zaa, if_neg (by omega)]; exact hdd
    · simp only [heap_putObj, zaa, h3]; rw [if_neg (by omega)]; simp [zaf]
    · exact (hc.setCell (p := ⟨w.heap.size + 1 + 1, 0, none⟩) (.inr (by simp; omega)) _).trans2 (zcg _ _ _) (by simp <;> omega)
  case stop =>
    rintro c W ⟨rfl, hd, hc, h2⟩ hdd
    gi_wp2
    refine marks_ret (v := .bool true) hdd (zdi Tryz.results265 _ _ _ rfl (load_one Tryz.underlying4 rfl _ _ (fr := (0, 0)) (t := 4) ?_)) ⟨by rw [hd], ?_⟩
    · rw [heap_putObj, if_neg (by omega)]; exact h2
    · exact hc.trans2 (zcg _ _ _) (by simp <;> omega)
end
section
attribute [local go_sem] Oper.semAt_some zao zbq
attribute [local go_sem] box26 zcb cell0 cell1 cell2 cell3 cell4 zcn zcm
attribute [local go_sem] cell5 cell6
def freeM (c : BitVec 64) : BitVec 8 := emptyM c ||| delM c
def freeIn (t : Tab) (g : Nat) : Option (Nat × Nat) := (lanesOf (freeM (t.c g))).head?.map fun x => (g, x)
def freeAt (t : Tab) (l : List Nat) : Option (Nat × Nat) := l.findSome? (freeIn t)
def placeT (t : Tab) (s k : BitVec 64) : Except Int Nat :=
  if hasT t (hashOf s k) then
    if hasKT t k then .error 5
    else match freeAt t (rowT t s k) with
      | none => .error 6
      | some (g, x) => if (delM (t.c g) &&& laneM x != 0#8) || decide (0 < t.can) then .ok (8 * g + x) else .error 6
  else .error 2
theorem row_bound (t : Tab) (s k : BitVec 64) : ∀ g ∈ rowT t s k, g < 2 := by
  have h := g0_lt (hash1 (hashOf s k))
  intro g hg
  unfold rowT gOf at hg
  split at hg <;> simp at hg <;> omega
theorem findSome_skip {α β : Type} (f : α → Option β) (l post : List α) (h : ∀ g ∈ l, f g = none) : (l ++ post).findSome? f = post.findSome? f := by
  induction l with
  | nil => rfl
  | cons g l ih =>
    rw [List.cons_append, List.findSome?_cons, h g (by simp)]
    exact ih fun g' hg' => h g' (by simp [hg'])
theorem freeAt_none (t : Tab) (l : List Nat) (h : ∀ g ∈ l, freeIn t g = none) : freeAt t l = none := by
  have := findSome_skip (freeIn t) l [] h
  rw [List.append_nil] at this
  exact this
theorem freeAt_hit (t : Tab) (l post : List Nat) (g : Nat) (y : Nat × Nat) (h : ∀ g ∈ l, freeIn t g = none) (hg : freeIn t g = some y) : freeAt t (l ++ g :: post) = some y := by
  have h1 := findSome_skip (freeIn t) l (g :: post) h
  have h2 : (g :: post).findSome? (freeIn t) = some y := by rw [List.findSome?_cons, hg]
  exact h1.trans h2
theorem wrap_slot (g x : Nat) (hg : g < 2) (hx : x < 8) : IntKind.i64.wrap (IntKind.i64.wrap (8 * (g : Int)) + (x : Int)) = ((8 * g + x : Nat) : Int) := by
  simp only [IntKind.wrap_i64]; omega
theorem first_cases (m : BitVec 8) : ((lanesOf m).head? = none ∧ firstV m = .tuple #[I 0, .bool false]) ∨ ∃ x : Nat, x < 8 ∧ (lanesOf m).head? = some x ∧ firstV m = .tuple #[I x, .bool true] := by
  unfold firstV
  have hl : ∀ x ∈ lanesOf m, x < 8 := fun x hx => by
    unfold lanesOf at hx
    simpa using (List.mem_filter.1 hx).1
  generalize lanesOf m = l at *
  cases l with
  | nil => exact .inl ⟨rfl, rfl⟩
  | cons x l => exact .inr ⟨x, hl x (by simp), rfl, rfl⟩
theorem freeIn_eq (t : Tab) (g : Nat) : freeIn t g = ((lanesOf (freeM (t.c g))).head?).map fun x => (g, x) := by rw [freeIn]
theorem freeIn_cases (t : Tab) (g : Nat) : (freeIn t g = none ∧ firstV (freeM (t.c g)) = .tuple #[I 0, .bool false]) ∨
    ∃ x : Nat, x < 8 ∧ freeIn t g = some (g, x) ∧ firstV (freeM (t.c g)) = .tuple #[I x, .bool true] := by
  have hf := freeIn_eq t g
  generalize freeM (t.c g) = m at *
  generalize freeIn t g = y at *
  subst hf
  rcases first_cases m with ⟨h1, h2⟩ | ⟨x, hx, h1, h2⟩
  · exact .inl ⟨by rw [h1]; rfl, h2⟩
  · exact .inr ⟨x, hx, by rw [h1]; rfl, h2⟩
theorem place_goes (t : Tab) (s k : BitVec 64) (b : Nat) (w : World) (hg : hasT t (hashOf s k) = false) (hb : w.heap[b]? = some (.cells (hcells t s) 141 (0, 0))) :
    Calls Tryz.prog 210 #[.pointer (some ⟨b, 0, none⟩), U k] w fun e w' => e = retOr (fun n : Nat => I n) (placeT t s k) ∧ Ch [] w w' := by
  have hP : placeT t s k = .error 2 := by unfold placeT; rw [if_neg (by rw [hg]; decide)]
  rw [hP]
  have G1 := fun w hb => goes_any b t s k w hb
  rw [hg] at G1
  clear hP hg
  go_enter Tryz.func210, Tryz.ntmps210
  have hbn : ¬ b = w.heap.size := by have := (Array.getElem?_eq_some_iff.1 hb).1; omega
  go_wp2
  go_step3
  go_wp2_with (first
    | (go_at_call 84; refine (G1 _ (by simp [go_sem, hb, hbn])).mono ?_; rintro e w1 ⟨rfl, hc1⟩)
    | (go_at_call 83; refine (tneed_no _ _).mono ?_; rintro e w2 ⟨rfl, rfl⟩))
  exact ⟨rfl, rfl, ((Ch.refl [] w).alloc _).trans hc1⟩
theorem place_has (t : Tab) (s k : BitVec 64) (b : Nat) (w : World) (hok0 : ctrlOk (t.c 0) = true) (hok1 : ctrlOk (t.c 1) = true) (hg : hasT t (hashOf s k) = true) (hh : hasKT t k = true) (hb : w.heap[b]? = some (.cells (hcells t s) 141 (0, 0))) :
    Calls Tryz.prog 210 #[.pointer (some ⟨b, 0, none⟩), U k] w fun e w' => e = retOr (fun n : Nat => I n) (placeT t s k) ∧ Ch [] w w' := by
  have hP : placeT t s k = .error 5 := by unfold placeT; rw [if_pos hg, if_pos hh]
  rw [hP]
  have G1 := fun w hb => goes_any b t s k w hb
  have G2 := fun w hb => has_key t s k b w hok0 hok1 hb
  rw [hg] at G1
  rw [hh] at G2
  have hbn : ¬ b = w.heap.size := by have := (Array.getElem?_eq_some_iff.1 hb).1; omega
  have b0 : (w.alloc (.cells #[.pointer (some ⟨b, 0, none⟩)] 137)).heap[w.heap.size]? = some (.cells #[.pointer (some ⟨b, 0, none⟩)] 137 (0, 0)) := by simp [go_sem]
  have b1 : (w.alloc (.cells #[.pointer (some ⟨b, 0, none⟩)] 137)).heap[b]? = some (.cells (hcells t s) 141 (0, 0)) := by simp [go_sem, hb, hbn]
  have hB0 := Lib.hid b0
  have hB1 := Lib.hid b1
  clear hP hg hh hok0 hok1 b0 b1
  go_enter Tryz.func210, Tryz.ntmps210
  go_wp2
  go_step3
  go_wp2_with (first
    | (go_at_call 84; refine (G1 _ hB1.out).mono ?_; rintro e w1 ⟨rfl, hc1⟩; have d0 := hkeep hc1 hB0.out; have d1 := hkeep hc1 hB1.out)
    | (go_at_call 265; refine (G2 _ d1).mono ?_; rintro e w2 ⟨rfl, hc2⟩)
    | (go_at_call 83; first | ((with_reducible refine (tneed_yes _ _).mono ?_); rintro e w3 ⟨rfl, rfl⟩) | ((with_reducible refine (tneed_no _ _).mono ?_); rintro e w3 ⟨rfl, rfl⟩)))
  exact ⟨rfl, rfl, (((Ch.refl [] w).alloc _).trans hc1).trans hc2⟩
theorem place_main (t : Tab) (s k : BitVec 64) (b : Nat) (w : World) (hok0 : ctrlOk (t.c 0) = true) (hok1 : ctrlOk (t.c 1) = true) (hg : hasT t (hashOf s k) = true) (hh : hasKT t k = false) (hb : w.heap[b]? = some (.cells (hcells t s) 141 (0, 0))) :
    Calls Tryz.prog 210 #[.pointer (some ⟨b, 0, none⟩), U k] w fun e w' => e = retOr (fun n : Nat => I n) (placeT t s k) ∧ Ch [] w w' := by
  have hP : placeT t s k = match freeAt t (rowT t s k) with
      | none => .error 6
      | some (g, x) => if (delM (t.c g) &&& laneM x != 0#8) || decide (0 < t.can) then .ok (8 * g + x) else .error 6 := by
    unfold placeT; rw [if_pos hg, if_neg (by rw [hh]; decide)]
  generalize placeT t s k = r at *
  have G1 := fun w hb => goes_any b t s k w hb
  have G2 := fun w hb => has_key t s k b w hok0 hok1 hb
  have Y1 := fun p q w hb hp hq => row_yields t s k b p q w hok0 hok1 hb hp hq
  have R1 := Lib.hid (row_bound t s k)
  have hok := Lib.hid (fun g (h : g < 2) => pick_ok t g h hok0 hok1)
  rw [hg] at G1
  rw [hh] at G2
  generalize rowT t s k = xs at *
  have HP := Lib.hid hP
  have hbn : ¬ b = w.heap.size := by have := (Array.getElem?_eq_some_iff.1 hb).1; omega
  have b0 : (w.alloc (.cells #[.pointer (some ⟨b, 0, none⟩)] 137)).heap[w.heap.size]? = some (.cells #[.pointer (some ⟨b, 0, none⟩)] 137 (0, 0)) := by simp [go_sem]
  have b1 : (w.alloc (.cells #[.pointer (some ⟨b, 0, none⟩)] 137)).heap[b]? = some (.cells (hcells t s) 141 (0, 0)) := by simp [go_sem, hb, hbn]
  have hB0 := Lib.hid b0
  have hB1 := Lib.hid b1
  have HB := Lib.hid hb
  clear hP hg hh hok0 hok1 b0 b1 hbn hb
  refine (callsIn_wide (n := 3)).1 ?_
  refine callsIn_of_wp_marks Tryz.func210 rfl trivial ?_
  simp only [Tryz.ntmps210, List.size_toArray, List.length_cons, List.length_nil, Nat.reduceAdd, Nat.reduceSub, Array.replicate_succ, Array.replicate_zero, List.push_toArray, List.append_toArray, List.nil_append, List.cons_append]
  gi_wp2
  refine wpIn_wide.2 ?_
  apply wp_scope_straight
  refine (wpIn_wide (n := 3)).1 ?_
  gi_wp2_with (first
    | (refine ⟨trivial, ?_⟩; gi_at_call 84; refine (inW (G1 _ hB1.out)).mono ?_; rintro e w1 ⟨rfl, hc1⟩; have d0 := hkeep hc1 hB0.out; have d1 := hkeep hc1 hB1.out)
    | (refine ⟨trivial, ?_⟩; gi_at_call 265; refine (inW (G2 _ d1)).mono ?_; rintro e w2 ⟨rfl, hc2⟩; have e0 := hkeep hc2 d0; have e1 := hkeep hc2 d1; obtain ⟨q0, q1, q2, q3⟩ := neq4 (Array.getElem?_eq_some_iff.1 e0).1; obtain ⟨r0, r1, r2, r3⟩ := neq4 (Array.getElem?_eq_some_iff.1 e1).1)
    | (refine ⟨trivial, ?_⟩; gi_at_call 83; refine (inW (tneed_yes _ _)).mono ?_; rintro e w3 ⟨rfl, rfl⟩))
  apply wpIn_label
  gi_wp2_with (refine ⟨trivial, ?_⟩; gi_at_call 207; refine (inW (row_make _ _ _)).mono ?_; rintro e w' ⟨rfl, rfl⟩)
  obtain ⟨W0, hW0⟩ : ∃ W0, (((w2.alloc (.cells #[.int .i64 (-1)] 3)).alloc (.cells #[.bool false] 4)).alloc (.cells #[.pointer (some ⟨b, 0, none⟩)] 137)).alloc (.cells #[U k] 22) = W0 := ⟨_, rfl⟩
  have hs0 : W0.heap.size = w2.heap.size + 4 := by rw [← hW0]; simp
  have hch : Ch [] w2 W0 := by rw [← hW0]; exact ((((Ch.refl [] w2).alloc _).alloc _).alloc _).alloc _
  have hC0 : Ch [] w W0 := (((((Ch.refl [] w).alloc _).trans hc1).trans hc2)).trans hch
  have b2 : W0.heap[w2.heap.size]? = some (.cells #[.int .i64 (-1)] 3 (0, 0)) := by rw [← hW0]; simp [go_sem]
  have b3 : W0.heap[w2.heap.size + 1]? = some (.cells #[.bool false] 4 (0, 0)) := by rw [← hW0]; simp [go_sem]
  have b4 : W0.heap[w2.heap.size + 1 + 1]? = some (.cells #[.pointer (some ⟨b, 0, none⟩)] 137 (0, 0)) := by rw [← hW0]; simp [go_sem]
  have b5 : W0.heap[w2.heap.size + 1 + 1 + 1]? = some (.cells #[U k] 22 (0, 0)) := by rw [← hW0]; simp [go_sem]
  have b0 := hkeep hch e0
  have b1 := hkeep hch e1
  have hlt : w.heap.size < w2.heap.size ∧ b < w2.heap.size := ⟨(Array.getElem?_eq_some_iff.1 e0).1, (Array.getElem?_eq_some_iff.1 e1).1⟩
  rw [hW0]
  clear hW0 hch e0 e1 hc1 hc2 d0 d1 q0 q1 q2 q3 r0 r1 r2 r3 G1 G2 hB0 hB1
  generalize w2.heap.size = L at *
  refine range_lawO (n := 1) (xs := xs) rfl enters_row (Y1 _ _ W0 b1 b4 b5) (fun _ => rfl) (by simp) (by simp <;> omega)
    (fun pre O W => (∀ x, O x ↔ (x = L ∨ x = L + 1)) ∧ (∀ g ∈ pre, freeIn t g = none) ∧ Ch [] w W ∧ W.heap[w.heap.size]? = some (.cells #[.pointer (some ⟨b, 0, none⟩)] 137 (0, 0)) ∧ W.heap[L]? = some (.cells #[.int .i64 (-1)] 3 (0, 0)) ∧ W.heap[L + 1]? = some (.cells #[.bool false] 4 (0, 0)))
    (fun c W => c = .exit 0 ∧ ∃ g x : Nat, g < 2 ∧ x < 8 ∧ freeAt t xs = some (g, x) ∧ Ch [] w W ∧ W.heap[w.heap.size]? = some (.cells #[.pointer (some ⟨b, 0, none⟩)] 137 (0, 0)) ∧ W.heap[L]? = some (.cells #[.int .i64 ((8 * g + x : Nat) : Int)] 3 (0, 0)) ∧ W.heap[L + 1]? = some (.cells #[.bool (delM (t.c g) &&& laneM x != 0#8)] 4 (0, 0)))
    (fun x => x = L ∨ x = L + 1) ?hIO ?hI ?hIx ⟨fun _ => Iff.rfl, by simp, hC0, b0, b2, b3⟩ ?a₁ ?assign ?body ?done ?stop
  case assign =>
    intro x W K hK
    gi_wp2
    exact hK
  case hIO =>
    rintro pre O A ⟨h, _, hc, _, h2, h3⟩ x hx
    have l1 := (Array.getElem?_eq_some_iff.1 h3).1
    rcases (h x).1 hx with rfl | rfl
    · exact ⟨.inl (by omega), by omega, by simp; omega⟩
    · exact ⟨.inl (by omega), by omega, by simp; omega⟩
  case hI =>
    rintro pre O A B ⟨h0, hd, hc, h1, h2, h3⟩ hAB
    exact ⟨h0, hd, hc.trans2 hAB (by simp <;> omega), hkeepS hAB (by simp; omega) h1, hkeepS hAB (by simp; omega) h2, hkeepS hAB (by simp; omega) h3⟩
  case hIx =>
    rintro c A B ⟨rfl, g, x, hg, hx, hf, hc, h1, h2, h3⟩ hAB
    exact ⟨rfl, g, x, hg, hx, hf, hc.trans2 hAB (by simp <;> omega), hkeepS hAB (by simp; omega) h1, hkeepS hAB (by simp; omega) h2, hkeepS hAB (by simp; omega) h3⟩
  case body =>
    rintro pre O g post W hx ⟨h0, hd, hc, h1, h2, h3⟩ hsz
    go_light
    have hg2 : g < 2 := R1.out g (by rw [hx]; simp)
    have HX := Lib.hid hx
    have hc5 := hcells_ctrl_at t s g hg2
    have hbW := hkeep hc HB.out
    have S1 := fun w => sets_ok (t.c g) (hok.out g hg2) w
    have F1 := fun w => first_any (freeM (t.c g)) w
    have hfm : freeM (t.c g) = emptyM (t.c g) ||| delM (t.c g) := by rw [freeM]
    have hg0 : (0 : Int) ≤ (g : Int) := by omega
    have hg1 : (g : Int) < 2 := by omega
    clear hx Y1 b0 b1 b2 b3 b4 b5 R1
    rcases freeIn_cases t g with ⟨hfi, hfv⟩ | ⟨x, hx8, hfi, hfv⟩
    · rw [hfv] at F1
      have HFI := Lib.hid hfi
      rw [hfm] at F1
      clear hfi hfv hfm
      gi_wp2_with (first
        | (refine ⟨trivial, ?_⟩; gi_at_call 166; refine (inR (S1 _)).mono ?_; rintro e W1 ⟨rfl, hc1⟩)
        | (refine ⟨trivial, ?_⟩; gi_at_call 266; refine (inR (F1 _)).mono ?_; rintro e W2 ⟨rfl, hc2⟩))
      have hcc := hc1.trans hc2
      have hfi := HFI.out
      exact ⟨⟨O, ⟨h0, fun g' hg' => by
        rcases List.mem_append.1 hg' with h | h
        · exact hd g' h
        · rw [List.mem_singleton.1 h]; exact hfi, hc.trans hcc, hkeep hcc h1, hkeep hcc h2, hkeep hcc h3⟩, fun _ h => .inl h⟩, hcc.size, fun b hb _ => hcc.block b hb (by simp)⟩
    · rw [hfv] at F1
      have HFI := Lib.hid hfi
      rw [hfm] at F1
      clear hfi hfv hfm
      gi_wp2_with (first
        | (refine ⟨trivial, ?_⟩; gi_at_call 166; refine (inR (S1 _)).mono ?_; rintro e W1 ⟨rfl, hc1⟩)
        | (refine ⟨trivial, ?_⟩; gi_at_call 266; refine (inR (F1 _)).mono ?_; rintro e W2 ⟨rfl, hc2⟩))
      have hcc := hc1.trans hc2
      have d1 := hkeep hcc h1
      have d2 := hkeep hcc h2
      have d3 := hkeep hcc h3
      have hx0 : (0 : Int) ≤ (x : Int) := by omega
      have hx1 : (x : Int) < 8 := by omega
      refine rr_held (fun W' => True) (by kernel_rfl) (by kernel_rfl) (by rintro ⟨a, w, h⟩; exact h) trivial ?_
      intro _
      simp only [List.size_toArray, List.length_cons, List.length_nil, Nat.reduceAdd]
      refine tn 0 ?_ rfl trivial ?_ ?_; rotate_left
      · intro _ _; go_simp; try with_reducible rfl
      try go_frame
      refine tn 1 ?_ rfl trivial ?_ ?_; rotate_left
      · intro _ _; go_simp; try with_reducible rfl
      try go_frame
      refine tn 2 ?_ rfl trivial ?_ ?_; rotate_left
      · intro _ _; go_simp; try with_reducible rfl
      try go_frame
      refine tn 3 ?_ rfl trivial ?_ ?_; rotate_left
      · intro _ _; go_simp; try with_reducible rfl
      try go_frame
      refine tn 4 ?_ rfl trivial ?_ ?_; rotate_left
      · intro _ _; go_simp; try with_reducible rfl
      try go_frame
      refine tn 5 ?_ rfl trivial ?_ ?_; rotate_left
      · intro _ _; go_simp; try with_reducible rfl
      try go_frame
      refine tn 6 ?_ rfl trivial ?_ ?_; rotate_left
      · intro _ _; go_simp; try with_reducible rfl
      try go_frame
      refine tn 7 ?_ rfl trivial ?_ ?_; rotate_left
      · intro _ _; go_simp; try with_reducible rfl
      try go_frame
      refine tn 8 ?_ rfl trivial ?_ ?_; rotate_left
      · intro _ _; go_simp; try with_reducible rfl
      try go_frame
      refine rd 9 rfl (fun K hK => ?_); go_simp
      refine hK.out _ _ trivial (fun hS2 => ?_)
      refine wpAnyH_ready (rs := [10]) (by kernel_rfl) (by simp) ?_
      refine AllReadyH.cons rfl (fun K2 hK2 => ?_) AllReadyH.nil
      go_simp
      refine hK2.out _ _ trivial (fun hS2 => ?_)
      refine wpAnyH_done (by kernel_rfl) ?_ _
      gi_wp2
      have hfi := HFI.out
      have hv := wrap_slot g x hg2 hx8
      have hv2 : (N (delM (t.c g) &&& laneM x) != 0) = (delM (t.c g) &&& laneM x != 0#8) := by rw [← neN]; rfl
      refine ⟨⟨rfl, g, x, hg2, hx8, by rw [HX.out]; exact freeAt_hit t pre post g _ hd hfi, (((hc.trans hcc).setCell (p := ⟨L, 0, none⟩) (.inr (by show w.heap.size ≤ L; omega)) _).setCell (p := ⟨L + 1, 0, none⟩) (.inr (by show w.heap.size ≤ L + 1; omega)) _).drew, ?_, ?_, ?_⟩, fun y hy hn => ?_⟩
      · rw [zbk, zaa, if_neg (by omega), zaa, if_neg (by omega)]; exact d1
      · rw [zbk, zaa, if_neg (by omega), zaa, if_pos rfl, d2, hv]; rfl
      · rw [zbk, zaa, if_pos rfl, zaa, if_neg (by omega), d3, hv2]; rfl
      · have hny : y ≠ L ∧ y ≠ L + 1 := ⟨fun e => hn ((h0 y).2 (.inl e)), fun e => hn ((h0 y).2 (.inr e))⟩
        rw [zbk, zaa, if_neg hny.2, zaa, if_neg hny.1]; exact hcc.block y hy (by simp)
  case done =>
    rintro O W ⟨h0, hd, hc, h1, h2, h3⟩ hdd
    rw [hs0] at hdd
    have hbW := hkeep hc HB.out
    have HR : Hid (r = .error 6) := by have h := HP.out; rw [freeAt_none t xs hd] at h; exact h
    have HD := Lib.hid hd
    clear hd
    gi_wp2_with (refine ⟨trivial, ?_⟩; gi_at_call 83; refine (inW (tneed_no _ _)).mono ?_; rintro e w3 ⟨rfl, rfl⟩)
    exact marks_panic hdd ⟨by rw [HR.out]; rfl, hc.trans2 (zcg _ _ _) (by simp <;> omega)⟩
  case stop =>
    rintro c W ⟨rfl, g, x, hg, hx, hf, hc, h1, h2, h3⟩ hdd
    rw [hs0] at hdd
    have hbW := hkeep hc HB.out
    have HR : Hid (r = if (delM (t.c g) &&& laneM x != 0#8) || decide (0 < t.can) then .ok (8 * g + x) else .error 6) := by have h := HP.out; rw [hf] at h; exact h
    clear hf
    generalize 8 * g + x = n at *
    have hn0 : decide (0 ≤ (n : Int)) = true := by simp
    cases hdel : (delM (t.c g) &&& laneM x != 0#8)
    · cases hcan : decide (0 < t.can)
      · have HR2 : Hid (r = .error 6) := by have h := HR.out; rw [hdel, hcan] at h; exact h
        gi_wp2_with (refine ⟨trivial, ?_⟩; gi_at_call 83; refine (inW (tneed_no _ _)).mono ?_; rintro e w3 ⟨rfl, rfl⟩)
        exact marks_panic hdd ⟨by rw [HR2.out]; rfl, hc.trans2 (zcg _ _ _) (by simp <;> omega)⟩
      · have HR2 : Hid (r = .ok n) := by have h := HR.out; rw [hdel, hcan] at h; exact h
        gi_wp2_with (refine ⟨trivial, ?_⟩; gi_at_call 83; refine (inW (tneed_yes _ _)).mono ?_; rintro e w3 ⟨rfl, rfl⟩)
        rw [Exit.noGoto_ret]
        refine marks_ret (v := I n) hdd (results_tmp Tryz.results210 _ _ _) ⟨by rw [HR2.out]; rfl, hc.trans2 (zcg _ _ _) (by simp <;> omega)⟩
    · have HR2 : Hid (r = .ok n) := by have h := HR.out; rw [hdel] at h; exact h
      gi_wp2_with (refine ⟨trivial, ?_⟩; gi_at_call 83; refine (inW (tneed_yes _ _)).mono ?_; rintro e w3 ⟨rfl, rfl⟩)
      rw [Exit.noGoto_ret]
      refine marks_ret (v := I n) hdd (results_tmp Tryz.results210 _ _ _) ⟨by rw [HR2.out]; rfl, hc.trans2 (zcg _ _ _) (by simp <;> omega)⟩
theorem place_any (t : Tab) (s k : BitVec 64) (b : Nat) (w : World) (hok0 : ctrlOk (t.c 0) = true) (hok1 : ctrlOk (t.c 1) = true) (hb : w.heap[b]? = some (.cells (hcells t s) 141 (0, 0))) :
    Calls Tryz.prog 210 #[.pointer (some ⟨b, 0, none⟩), U k] w fun e w' => e = retOr (fun n : Nat => I n) (placeT t s k) ∧ Ch [] w w' := by
  cases hg : hasT t (hashOf s k)
  · exact place_goes t s k b w hg hb
  · cases hh : hasKT t k
    · exact place_main t s k b w hok0 hok1 hg hh hb
    · exact place_has t s k b w hok0 hok1 hg hh hb
end
end Go.Proofs.Hc
