/- Package ctrl: its words, and what is tried on them. -/
import Derived.Test.YtmfajobocpaimaaGreatKHmet
import Derived.Test.YtmfajobocpaimaaGreatKHm
import Derived.Test.YtmfajobocpaimaaGreatKHni
import Derived.Below
import Derived.BigQuiet
import Derived.Deep.Draws
import Derived.Deep.QuietTactic
import Derived.Laws.CopyRow
import Derived.Laws.Tables
import Derived.Lib.Hide
import Derived.RangeFuncRecord
import Derived.Recover
import Derived.Test.YtmfajobocpaimaaGreatProg
import Derived.WalkKit
import Derived.WalkLawsBesides
import Derived.StillTail
import Derived.RegionTactic
import Derived.WalkMore
import Derived.WalkSpells
set_option linter.unusedSimpArgs false
set_option linter.unusedVariables false
namespace Go.Proofs.Hc
open Go.RowKit
attribute [local go_sem] wrap_u64 wrap_u8 bits_xor64 bits_and64 bits_or64 bits_not64 bits_xor8 bits_and8 bits_or8 signed64 signed8 ofInt_N BitVec.ofInt_add BitVec.ofInt_mul ofInt_sub' ofInt8_N64 ofInt64_N8 wide8 eqN neN shr_pow shr1 shr7 shr56
attribute [local go_sem high] bits_com64 shl_wrap
attribute [local go_sem] make_func1 assert_errno
attribute [local go_sem] nn2 nm2 nn3 nm3 nn4 nm4 nn5 nm5 nn6 nm6 nn7 nm7 nn8 nm8
attribute [local go_sem] cell_heap ice_heap cellAt_cells iceAt_cells setAt_cells size_setCell
attribute [local go_sem ↓] heap_alloc heap_drew heap_drewN heap_setCell
def fullM (c : BitVec 64) : BitVec 8 := belowM c 128#8
def emptyM (c : BitVec 64) : BitVec 8 := equalM c 128#8
def delM (c : BitVec 64) : BitVec 8 := equalM c 254#8
def ctrlOk (c : BitVec 64) : Bool := fullM c ||| emptyM c ||| delM c == 255#8
def M3 (x : BitVec 8 × BitVec 8 × BitVec 8) : Value := .agg #[Y x.1, Y x.2.1, Y x.2.2]
theorem below128 (x : BitVec 64) (w : World) : Calls Tryz.prog 242 #[U x, .int .u8 128] w fun e w' => e = .returned (Y (belowM x 128#8)) ∧ w = w' := below_any x 128#8 w
theorem equal128 (x : BitVec 64) (w : World) : Calls Tryz.prog 208 #[U x, .int .u8 128] w fun e w' => e = .returned (Y (equalM x 128#8)) ∧ w = w' := equal_any x 128#8 w
theorem equal254 (x : BitVec 64) (w : World) : Calls Tryz.prog 208 #[U x, .int .u8 254] w fun e w' => e = .returned (Y (equalM x 254#8)) ∧ w = w' := equal_any x 254#8 w
theorem full_any (c : BitVec 64) (w : World) : Calls Tryz.prog 198 #[U c] w fun e w' => e = .returned (Y (fullM c)) ∧ w = w' := by
  go_enter Tryz.func198, Tryz.ntmps198
  go_wp2_with (go_at_call 242; refine (below128 _ _).mono ?_; rintro e w' ⟨rfl, rfl⟩)
  go_ret
  exact ⟨rfl, rfl⟩
theorem empty_any (c : BitVec 64) (w : World) : Calls Tryz.prog 199 #[U c] w fun e w' => e = .returned (Y (emptyM c)) ∧ w = w' := by
  go_enter Tryz.func199, Tryz.ntmps199
  go_wp2_with (go_at_call 208; refine (equal128 _ _).mono ?_; rintro e w' ⟨rfl, rfl⟩)
  go_ret
  exact ⟨rfl, rfl⟩
theorem del_any (c : BitVec 64) (w : World) : Calls Tryz.prog 200 #[U c] w fun e w' => e = .returned (Y (delM c)) ∧ w = w' := by
  go_enter Tryz.func200, Tryz.ntmps200
  go_wp2_with (go_at_call 208; refine (equal254 _ _).mono ?_; rintro e w' ⟨rfl, rfl⟩)
  go_ret
  exact ⟨rfl, rfl⟩
theorem ccheck_any (c : BitVec 64) (w : World) : Calls Tryz.prog 149 #[U c] w fun e w' => e = .returned (I (if ctrlOk c then 0 else 190)) ∧ w = w' := by
  cases hc : ctrlOk c
  all_goals
    have h255 : (N (fullM c ||| emptyM c ||| delM c) != 255) = !ctrlOk c := by
      unfold ctrlOk; rw [show (255 : Int) = N (255#8) from rfl, neN]; rfl
    rw [hc] at h255
    go_enter Tryz.func149, Tryz.ntmps149
    go_wp2_with (first
      | (go_at_call 198; refine (full_any _ _).mono ?_; rintro e w' ⟨rfl, rfl⟩)
      | (go_at_call 199; refine (empty_any _ _).mono ?_; rintro e w' ⟨rfl, rfl⟩)
      | (go_at_call 200; refine (del_any _ _).mono ?_; rintro e w' ⟨rfl, rfl⟩))
    go_ret
    exact ⟨rfl, rfl⟩
theorem cneed_yes (c : Int) (w : World) :
    Calls Tryz.prog 207 #[.bool true, I c] w fun e w' => e = .returned (.tuple #[]) ∧ w = w' := by
  go_enter Tryz.func207, Tryz.ntmps207
  go_wp2
  go_end0
  exact ⟨rfl, rfl⟩
theorem cneed_no (c : Int) (w : World) :
    Calls Tryz.prog 207 #[.bool false, I c] w fun e w' => e = .panicked [{ v := .iface 32 (I c), recovered := false }] ∧ w = w' := by
  go_enter Tryz.func207, Tryz.ntmps207
  go_wp2
  exact ⟨rfl, rfl, rfl⟩
theorem ccatch_idles (p q : Nat) (w : World) :
    CallsD Tryz.prog 241 #[.pointer (some ⟨p, 0, none⟩), .pointer (some ⟨q, 0, none⟩)] .returning w fun e u' w' => e = .returned (.tuple #[]) ∧ u' = .returning ∧ w = w' := by
  refine callsD_of_wpS Tryz.func241 rfl fun c₀ cs hu => ?_
  simp only [Tryz.ntmps241, List.size_toArray, List.length_cons, List.length_nil, Nat.reduceAdd, Nat.reduceSub, Array.replicate_succ, Array.replicate_zero, List.push_toArray, List.append_toArray, List.nil_append, List.cons_append]
  apply wpS_seq
  apply wpS_region
  simp [wpOpsS, go_sem, recoverD, hu, Exit.thenS]
  refine wpS_of_wp ?_
  go_wp2_with fail
  exact ⟨rfl, .returning, by cases c₀; simp_all, _, results_none rfl _ _ _, rfl, rfl, rfl⟩
set_option maxRecDepth 100000 in
theorem ccatch_panics (p q : Nat) (c : Int) (c1 c3 c4 : Value) (c2 : Value) (w : World)
    (hp : w.heap[p]? = some (.cells #[c1, c3, c4] 238 (0, 0))) (hq : w.heap[q]? = some (.cells #[c2] 32 (0, 0))) (hpq : (p = q) = False) :
    CallsD Tryz.prog 241 #[.pointer (some ⟨p, 0, none⟩), .pointer (some ⟨q, 0, none⟩)] (.panicking [{ v := .iface 32 (I c), recovered := false }]) w fun e u' w' =>
      e = .returned (.tuple #[]) ∧ u' = .panicking [{ v := .iface 32 (I c), recovered := true }] ∧ Ch [p, q] w w' ∧
      w'.heap[p]? = some (.cells #[Y 0#8, Y 0#8, Y 0#8] 238 (0, 0)) ∧ w'.heap[q]? = some (.cells #[I c] 32 (0, 0)) := by
  have hp1 : (p = w.heap.size) = False := by have := (Array.getElem?_eq_some_iff.1 hp).1; simp; omega
  have hq1 : (q = w.heap.size) = False := by have := (Array.getElem?_eq_some_iff.1 hq).1; simp; omega
  have hqp : (q = p) = False := by simpa [eq_comm] using hpq
  refine callsD_of_wpS Tryz.func241 rfl fun c₀ cs hu => ?_
  simp only [Tryz.ntmps241, List.size_toArray, List.length_cons, List.length_nil, Nat.reduceAdd, Nat.reduceSub, Array.replicate_succ, Array.replicate_zero, List.push_toArray, List.append_toArray, List.nil_append, List.cons_append]
  apply wpS_seq
  apply wpS_region
  simp [wpOpsS, go_sem, recoverD, hu, Exit.thenS]
  refine wpS_of_wp ?_
  go_wp2_with fail
  refine ⟨rfl, _, rfl, _, results_none rfl _ _ _, rfl, rfl, ?_, ?_, ?_⟩
  · exact (((((Ch.refl [p, q] w).alloc _).setCell (p := ⟨p, 0, none⟩) (.inl (by simp)) _).setCell (p := ⟨p, 1, none⟩) (.inl (by simp)) _).setCell (p := ⟨p, 2, none⟩) (.inl (by simp)) _).setCell (p := ⟨q, 0, none⟩) (.inl (by simp)) _
  · simp only [heap_setCell, heap_alloc, hp1, hpq, hp, if_false, if_true, Option.map_some, setAt_cells]
    rfl
  · simp only [heap_setCell, heap_alloc, hq1, hqp, hq, if_false, if_true, Option.map_some, setAt_cells]
    rfl
theorem cresultss (tmps : Array Value) (p q : Nat) (w : World) (vs : Array Value) (c : Int) (hp : tmps.getD 4 undef = .pointer (some ⟨p, 0, none⟩)) (hq : tmps.getD 5 undef = .pointer (some ⟨q, 0, none⟩))
    (h1 : w.heap[p]? = some (.cells vs 238 (0, 0))) (hs : vs.size = 3) (h2 : w.heap[q]? = some (.cells #[I c] 32 (0, 0))) :
    (results Tryz.f196 tmps).run Tryz.prog w = .ok (.tuple #[.agg vs, I c]) w := by
  exact results_cell2 Tryz.results196 tmps _ _ w hp hq (run_loadVar_row w p _ _ vs _ _ h1 Tryz.underlying238 rfl (by rw [hs]; kernel_rfl)) (load_one Tryz.underlying32 rfl q w h2)
set_option maxRecDepth 100000 in
theorem ctriess_any (c : BitVec 64) (df : Nat) (cap : Array Value) (r : Except Int (BitVec 8 × BitVec 8 × BitVec 8)) (w : World)
    (hdf : ∀ args w, (callFunc df args).run Tryz.prog w = .ok (.enter df args) w)
    (hdoes : ctrlOk c = true → ∀ b w1, w1.heap[b]? = some (.cells #[U c] 206 (0, 0)) → Ch [] w w1 → w.heap.size ≤ b →
      Calls Tryz.prog df (#[.pointer (some ⟨b, 0, none⟩)] ++ cap) w1 fun e w2 => e = retOr M3 r ∧ Ch [b] w1 w2) :
    Calls Tryz.prog 196 #[U c, .func (.func df) #[] cap] w fun e w' =>
      e = .returned (tupOr M3 (.agg #[Y 0#8, Y 0#8, Y 0#8]) (if ctrlOk c then r else .error 190)) ∧ Ch [] w w' := by
  cases hm : ctrlOk c with
  | false =>
    have hm1 := ccheck_any c
    rw [hm] at hm1
    clear hdoes hm
    simp only [if_false, Bool.false_eq_true] at hm1 ⊢
    go_enter_defers Tryz.func196, Tryz.ntmps196
    go_wp2_with (first
      | (go_at_call 149; refine (hm1 _).mono ?_; rintro e w' ⟨rfl, rfl⟩)
      | (go_at_call 207; refine (cneed_no _ _).mono ?_; rintro e w' ⟨rfl, rfl⟩))
    refine leaves_cons (f := 241) (args := #[.pointer (some ⟨w.heap.size, 0, none⟩), .pointer (some ⟨w.heap.size + 1, 0, none⟩)]) (by simp) (by simp [go_sem]) ?_
    refine (ccatch_panics _ _ _ (Y 0#8) (Y 0#8) (Y 0#8) (I 0) _ ?_ ?_ ?_).mono ?_
    · simp [go_sem]; rfl
    · simp [go_sem]
    · simp
    rintro e u' w2 ⟨rfl, rfl, hc2, h1, h2⟩
    refine ⟨_, cresultss _ _ _ _ _ _ rfl rfl h1 rfl h2, rfl, ?_⟩
    exact (((Ch.refl [] w).alloc _).alloc _).trans2 hc2 (by simp <;> omega)
  | true =>
    have hm1 := ccheck_any c
    rw [hm] at hm1
    have hdoes := hdoes hm
    clear hm
    simp only [if_true] at hm1 ⊢
    cases r with
    | ok v =>
      go_enter_defers Tryz.func196, Tryz.ntmps196
      go_wp2_with (first
        | (go_at_call 149; refine (hm1 _).mono ?_; rintro e w' ⟨rfl, rfl⟩)
        | (go_at_call 207; refine (cneed_yes _ _).mono ?_; rintro e w' ⟨rfl, rfl⟩))
      refine (hdoes _ _ (by simp [go_sem]) ((((Ch.refl [] w).alloc _).alloc _).alloc _) (by omega)).mono ?_
      rintro e w2 ⟨rfl, hc2⟩
      have hz2 := hc2.size
      simp only [World.size_alloc] at hz2
      have h6 : w2.heap[w.heap.size]? = some (.cells #[Y 0#8, Y 0#8, Y 0#8] 238 (0, 0)) := (hc2.block _ (by simp <;> omega) (by simp <;> omega)).trans (by simp [go_sem]; rfl)
      have h7 : w2.heap[w.heap.size + 1]? = some (.cells #[I 0] 32 (0, 0)) := (hc2.block _ (by simp <;> omega) (by simp <;> omega)).trans (by simp [go_sem])
      simp only [retOr, M3]
      go_wp2
      refine leaves_cons (f := 241) (args := #[.pointer (some ⟨w.heap.size, 0, none⟩), .pointer (some ⟨w.heap.size + 1, 0, none⟩)]) (by simp) (by simp [go_sem]) ?_
      refine (ccatch_idles _ _ _).mono ?_
      rintro e u' w3 ⟨rfl, rfl, rfl⟩
      have n67 : (w.heap.size = w.heap.size + 1) = False := by simp
      have n76 : (w.heap.size + 1 = w.heap.size) = False := by simp
      refine ⟨_, cresultss _ _ _ _ _ _ rfl rfl ?g6 ?gs ?g7, rfl, ?gc⟩
      case g6 =>
        simp only [heap_setCell, h6, n67, if_false, if_true, Option.map_some, setAt_cells]
        rfl
      case g7 =>
        simp only [heap_setCell, h7, n76, if_false, if_true, Option.map_some, setAt_cells]
        rfl
      case gs => rfl
      case gc =>
        exact (((((((((Ch.refl [] w).alloc _).alloc _).alloc _).trans2 hc2 (by simp <;> omega)).setCell (p := ⟨w.heap.size, 0, none⟩) (.inr (by simp)) _).setCell (p := ⟨w.heap.size, 1, none⟩) (.inr (by simp)) _).setCell (p := ⟨w.heap.size, 2, none⟩) (.inr (by simp)) _)).setCell (p := ⟨w.heap.size + 1, 0, none⟩) (.inr (by simp <;> omega)) _
    | error er =>
      go_enter_defers Tryz.func196, Tryz.ntmps196
      go_wp2_with (first
        | (go_at_call 149; refine (hm1 _).mono ?_; rintro e w' ⟨rfl, rfl⟩)
        | (go_at_call 207; refine (cneed_yes _ _).mono ?_; rintro e w' ⟨rfl, rfl⟩))
      refine (hdoes _ _ (by simp [go_sem]) ((((Ch.refl [] w).alloc _).alloc _).alloc _) (by omega)).mono ?_
      rintro e w2 ⟨rfl, hc2⟩
      have h6 : w2.heap[w.heap.size]? = some (.cells #[Y 0#8, Y 0#8, Y 0#8] 238 (0, 0)) := (hc2.block _ (by simp <;> omega) (by simp <;> omega)).trans (by simp [go_sem]; rfl)
      have h7 : w2.heap[w.heap.size + 1]? = some (.cells #[I 0] 32 (0, 0)) := (hc2.block _ (by simp <;> omega) (by simp <;> omega)).trans (by simp [go_sem])
      simp only [retOr]
      refine leaves_cons (f := 241) (args := #[.pointer (some ⟨w.heap.size, 0, none⟩), .pointer (some ⟨w.heap.size + 1, 0, none⟩)]) (by simp) (by simp [go_sem]) ?_
      refine (ccatch_panics _ _ _ _ _ _ (I 0) _ h6 h7 (by simp)).mono ?_
      rintro e u' w3 ⟨rfl, rfl, hc3, h1, h2⟩
      refine ⟨_, cresultss _ _ _ _ _ _ rfl rfl h1 rfl h2, rfl, ?_⟩
      exact (((((Ch.refl [] w).alloc _).alloc _).alloc _).trans2 hc2 (by simp <;> omega)).trans2 hc3 (by simp <;> omega)
theorem ctriess_ok (c : BitVec 64) (hok : ctrlOk c = true) (df : Nat) (cap : Array Value) (r : Except Int (BitVec 8 × BitVec 8 × BitVec 8)) (w : World)
    (hdf : ∀ args w, (callFunc df args).run Tryz.prog w = .ok (.enter df args) w)
    (hdoes : ∀ b w1, w1.heap[b]? = some (.cells #[U c] 206 (0, 0)) → Ch [] w w1 → w.heap.size ≤ b →
      Calls Tryz.prog df (#[.pointer (some ⟨b, 0, none⟩)] ++ cap) w1 fun e w2 => e = retOr M3 r ∧ Ch [b] w1 w2) :
    Calls Tryz.prog 196 #[U c, .func (.func df) #[] cap] w fun e w' => e = .returned (tupOr M3 (.agg #[Y 0#8, Y 0#8, Y 0#8]) r) ∧ Ch [] w w' := by
  have h := ctriess_any c df cap r w hdf (fun _ => hdoes)
  rw [if_pos hok] at h
  exact h
end Go.Proofs.Hc
/- A region that draws its order: its first operations read, or call what changes no old block; the others are forced behind them, one by one, and may write. -/
namespace Go.Proofs.Hc
open Go.RowKit
section
variable {P : Program} {ops : Array Oper} {md : Region.Mode} {C : World → Prop}
/-- Whatever order the first n are picked in, L holds behind them. -/
def headAny (P : Program) (md : Region.Mode) (ops : Array Oper) (C : World → Prop) (n : Nat) (L : Array Bool → Act → Prop) : Nat → Array Bool → Act → Prop
  | 0, listed, a => L listed a
  | f + 1, listed, a => Region.ready md ops listed ≠ [] ∧ ∀ i ∈ Region.ready md ops listed, i < n ∧ qOp P ops C i (headAny P md ops C n L f (listed.setIfInBounds i true)) a
theorem any_of_head {n g : Nat} {L : Array Bool → Act → Prop} {Q : Exit → Act → World → Prop} (hL : ∀ listed a w, C w → L listed a → wpAny P md ops Q g listed a w) (f : Nat) :
    ∀ (listed : Array Bool) (a : Act) (w : World), C w → headAny P md ops C n L f listed a → wpAny P md ops Q (f + g) listed a w := by
  induction f with
  | zero => intro listed a w hw h; rw [Nat.zero_add]; exact hL _ _ _ hw h
  | succ f ih =>
    intro listed a w hw h
    rw [show f + 1 + g = f + g + 1 by omega]
    exact ⟨fun h0 => absurd h0 h.1, fun i hi => wpOp_of_qOp hw (fun a' w' hw' => ih _ a' w' hw') (h.2 i hi).2⟩
theorem head_first {n i : Nat} {oi : Oper} {v : Value} {L : Array Bool → Act → Prop} (hi : ops[i]? = some oi) (hsel : ∀ (j : Nat) (o : Oper) cs b, ops[j]? = some o → o.op ≠ .select cs b)
    (hs : Region.sinkB md ops n = true) (hc : Region.chainB md ops n = true) (hn : n < ops.size) (hin : i < n) (hdone : ∀ listed a, L listed a → ∀ j ∈ Region.ready md ops listed, n ≤ j) (f : Nat) :
    ∀ (listed : Array Bool) (a : Act), HeadInv md ops n listed →
      (∀ j oj, ops[j]? = some oj → j ≠ i → listed.getD j true = false → (∀ e ∈ oj.after, Region.binds md e = true → e.on ≠ i) → oi.apart ops oj = true) →
      i ∈ Region.ready md ops listed → YieldsIn P ops C oi v a →
      headAny P md ops C n L f (listed.setIfInBounds i true) (a.put oi.dst v) → headAny P md ops C n L (f + 1) listed a := by
  have small : ∀ listed : Array Bool, HeadInv md ops n listed → i ∈ Region.ready md ops listed → ∀ j ∈ Region.ready md ops listed, j < n := fun listed inv hr j hj =>
    (Nat.lt_or_ge j n).elim id fun h => absurd hj (tail_waits hs hc hn inv _ i rfl hin (mem_ready.1 hr).1 j h)
  induction f with
  | zero =>
    intro listed a inv _ hr hy H
    refine ⟨List.ne_nil_of_mem hr, fun j hj => ⟨small listed inv hr j hj, ?_⟩⟩
    by_cases hji : j = i
    · subst hji; exact hy.qOp hi H
    · have h1 := hdone _ _ H j (ready_mono hj hji)
      have h2 := small listed inv hr j hj
      omega
  | succ f ih =>
    intro listed a inv hfree hr hy H
    refine ⟨List.ne_nil_of_mem hr, fun j hj => ⟨small listed inv hr j hj, ?_⟩⟩
    by_cases hji : j = i
    · subst hji; exact hy.qOp hi H
    · obtain ⟨hjun, oj, hoj, hall⟩ := mem_ready.1 hj
      have hun := (mem_ready.1 hr).1
      have hnot : ∀ e ∈ oj.after, Region.binds md e = true → e.on ≠ i := fun e he hb heq => by
        have h1 := hall e he hb
        rw [heq, getD_both hun] at h1
        cases h1
      have h2 := qOp_put hoj (hfree j oj hoj hji hjun hnot) (fun cs b => hsel i oi cs b hi) (fun cs b => hsel j oj cs b hoj) hy (H.2 j (ready_mono hj hji)).2
      refine qOp_mono (fun a' h3 => ih (listed.setIfInBounds j true) a' (inv.set hj (small listed inv hr j hj)) (fun k ok hk hki hu hno => ?_) (ready_mono hr (Ne.symm hji)) h3.1 ?_) h2
      · refine hfree k ok hk hki ?_ hno
        by_cases hjk : j = k
        · subst hjk; exact hjun
        · rwa [getD_set_ne true hjk] at hu
      · rw [Array.setIfInBounds_comm _ _ hji]
        exact h3.2
theorem head_lex {n g : Nat} {Lq : Act → Prop} (hsel : Region.noSelect ops = true) (hs : Region.sinkB md ops n = true) (hc : Region.chainB md ops n = true) (hn : n < ops.size) (l : List Oper) :
    ∀ (k : Nat) (listed : Array Bool) (a : Act), (∀ j, j < l.length → l[j]? = ops[k + j]?) → k + l.length = n → HeadInv md ops n listed →
    Region.lexHead md ops g l.length k listed = true → wpQuiet P ops C Lq l a →
    headAny P md ops C n (fun listed' a' => Region.seqB md ops g n listed' = true ∧ Lq a') l.length listed a := by
  induction l with
  | nil =>
    intro k listed a _ hk _ hB h
    have : k = n := by simpa using hk
    subst this
    exact ⟨by simpa [Region.lexHead] using hB, h⟩
  | cons o l ih =>
    intro k listed a hl hk inv hB h
    have h0 : ops[k]? = some o := by simpa using (hl 0 (by simp)).symm
    simp only [List.length_cons, Region.lexHead, Bool.and_eq_true] at hB
    obtain ⟨⟨hr, hf⟩, hB'⟩ := hB
    have hk' : k + 1 + l.length = n := by simp only [List.length_cons] at hk; omega
    have hkn : k < n := by omega
    have hr' : k ∈ Region.ready md ops listed := by simpa using hr
    have hst : qOp P ops C k (wpQuiet P ops C Lq l) a := by unfold qOp; simp only [h0]; exact h
    obtain ⟨v, hy, hK⟩ := yieldsIn_of_qOp h0 hst
    exact head_first h0 (Region.noSelect_spec hsel) hs hc hn hkn (fun listed' a' hL => seqB_ready hL.1) l.length listed a inv (Region.free_spec h0 hf) hr' hy
      (ih (k + 1) _ _ (fun j hj => by have := hl (j + 1) (by simp; omega); simpa [Nat.add_assoc, Nat.add_comm 1 j] using this) hk' (inv.set hr' hkn) hB' hK)
end
/-- Such a region, at the worlds that differ from w by new blocks and draws alone. -/
theorem wp_region_gar_tail {P : Program} {id : Nat} {Q : Exit → Act → World → Prop} {a : Act} {w : World} {l : List Oper} (n : Nat) (hm : P.follows .mixedOrders = true) (hB : Region.lexTailB .any l.toArray n = true)
    (h : wpQuiet P l.toArray (fun w' => ∃ g : Gar w, w' = g.1) (fun a' => ∀ w', (∃ g : Gar w, w' = g.1) → wpList P l.toArray Q (l.drop n) a' w') (l.take n) a) : (Code.region id l.toArray true).wp P Q a w := by
  simp only [Region.lexTailB, Bool.and_eq_true, decide_eq_true_eq] at hB
  obtain ⟨⟨⟨⟨hsel, hn⟩, hs⟩, hc⟩, hlex⟩ := hB
  have hn' : n < l.length := by simpa using hn
  have htl : (l.take n).length = n := by simp; omega
  have hdl : (l.drop n).length = l.toArray.size - n := by simp
  have inv0 : HeadInv .any l.toArray n (Array.replicate l.toArray.size false) :=
    ⟨by simp, fun j oj _ hl => (by rw [getD_replicate_false] at hl; cases hl), fun t _ ht => getD_in (by simpa using ht) (getD_replicate_false _ _)⟩
  have H := head_lex (md := .any) (g := l.toArray.size - n) hsel hs hc hn (l.take n) 0 _ a (fun j hj => by
    have hj' : j < n := by rw [htl] at hj; exact hj
    simp [hj']) (by simpa using htl) inv0 (by rw [htl]; exact hlex) h
  refine wp_region_any hm ?_
  have := any_of_head (Q := Q) (g := l.toArray.size - n) (fun listed a' w' hw' hL => by
    have := wpAny_of_seq (md := .any) (Q' := Q) (l.drop n) n listed a' w' (fun j => by simp [List.getElem?_drop]) (by rw [hdl]; exact hL.1) (hL.2 w' hw')
    rwa [hdl] at this) (l.take n).length _ a { w with drawn := w.drawn + 1 } ⟨⟨_, (Ch.refl [] w).drew⟩, rfl⟩ H
  rw [htl, show n + (l.toArray.size - n) = l.toArray.size by omega] at this
  exact this
end Go.Proofs.Hc
/- Package ctrl: Sets, Stops, Match, Fill, Erase. -/
namespace Go.Proofs.Hc
open Go.RowKit
attribute [local go_sem] wrap_u64 wrap_u8 bits_xor64 bits_and64 bits_or64 bits_not64 bits_xor8 bits_and8 bits_or8 signed64 signed8 ofInt_N BitVec.ofInt_add BitVec.ofInt_mul ofInt_sub' ofInt8_N64 ofInt64_N8 wide8 eqN neN shr_pow shr1 shr7 shr56
attribute [local go_sem high] bits_com64 shl_wrap
attribute [local go_sem] nn2 nm2 nn3 nm3 nn4 nm4 nn5 nm5 nn6 nm6 nn7 nm7 nn8 nm8
attribute [local go_sem] make_func1
attribute [local go_sem] cell_heap ice_heap cellAt_cells iceAt_cells setAt_cells size_setCell
attribute [local go_sem ↓] heap_alloc heap_drew heap_drewN heap_setCell
theorem enters_sets (args : Array Value) (w : World) : (callFunc 197 args).run Tryz.prog w = .ok (.enter 197 args) w := by kernel_rfl
/-- The three sets of a word. -/
def setsOf (c : BitVec 64) : BitVec 8 × BitVec 8 × BitVec 8 := (fullM c, emptyM c, delM c)
theorem sets1_any (b : Nat) (c : BitVec 64) (w : World) (hb : w.heap[b]? = some (.cells #[U c] 206 (0, 0))) :
    Calls Tryz.prog 197 #[.pointer (some ⟨b, 0, none⟩)] w fun e w' => e = .returned (M3 (setsOf c)) ∧ Ch [] w w' := by
  have hbl := (Array.getElem?_eq_some_iff.1 hb).1
  go_enter Tryz.func197, Tryz.ntmps197
  go_wp2_with fail
  obtain ⟨W0, hW0⟩ : ∃ W0, w.alloc (.cells #[.int .u8 0, .int .u8 0, .int .u8 0] 238) = W0 := ⟨_, rfl⟩
  have hC0 : Ch [] w W0 := by rw [← hW0]; exact (Ch.refl [] w).alloc _
  have hz0 : W0.heap.size = w.heap.size + 1 := by rw [← hW0]; simp
  have b0 : W0.heap[w.heap.size]? = some (.cells #[.int .u8 0, .int .u8 0, .int .u8 0] 238 (0, 0)) := by rw [← hW0]; simp [go_sem]
  have hg : ∀ g : Gar W0, (g.1).heap[b]? = some (.cells #[U c] 206 (0, 0)) := fun g => (g.2.block b (by omega) (by simp)).trans ((hC0.block b hbl (by simp)).trans hb)
  rw [hW0]
  clear hW0 hbl hb
  refine wp_region_gar_tail 16 (by kernel_rfl) (by kernel_rfl) ?_
  simp only [List.take_succ_cons, List.take_zero, List.drop_succ_cons, List.drop_zero]
  repeat (go_big_quiet_step ((first | (go_at_call 198; exact garL (full_any _ _)) | (go_at_call 199; exact garL (empty_any _ _)) | (go_at_call 200; exact garL (del_any _ _)))))
  refine wpQuiet_nil ?_
  rintro w1 ⟨g1, hw1⟩
  have hc1 : Ch [] W0 w1 := by rw [hw1]; exact g1.2
  clear hw1 g1
  have b1 : w1.heap[w.heap.size]? = some (.cells #[.int .u8 0, .int .u8 0, .int .u8 0] 238 (0, 0)) := (hc1.block _ (by omega) (by simp)).trans b0
  clear hg b0
  go_wp2
  refine bodyPost_ret (results_cell_row Tryz.results197 _ _ w.heap.size 238 #[Y (fullM c), Y (emptyM c), Y (delM c)] (0, 0) _ rfl ?_ Tryz.underlying238 rfl (by kernel_rfl)) rfl ⟨rfl, ?_⟩
  · simp only [heap_setCell, b1, if_true, Option.map_some, setAt_cells]
    simp
  · exact ((((hC0.trans hc1).setCell (p := ⟨w.heap.size, 0, none⟩) (.inr (by simp)) _).setCell (p := ⟨w.heap.size, 1, none⟩) (.inr (by simp)) _).setCell (p := ⟨w.heap.size, 2, none⟩) (.inr (by simp)) _)
theorem sets_ok (c : BitVec 64) (hok : ctrlOk c = true) (w : World) :
    Calls Tryz.prog 135 #[U c] w fun e w' => e = .returned (.tuple #[Y (fullM c), Y (emptyM c), Y (delM c)]) ∧ Ch [] w w' := by
  have M1 := fun b w => sets1_any b c w
  have T1 := fun (r : BitVec 8 × BitVec 8 × BitVec 8) (cap : Array Value) (w : World) => ctriess_ok c hok 197 cap (.ok r) w enters_sets
  unfold setsOf at M1
  generalize fullM c = rf at *
  generalize emptyM c = re at *
  generalize delM c = rd at *
  clear hok
  go_enter Tryz.func135, Tryz.ntmps135
  go_wp2_with fail
  refine (T1 (rf, re, rd) #[] _ ?_).mono ?_
  · intro b w1 hb hc hle
    exact (M1 b w1 hb).mono fun e w2 ⟨he, hc2⟩ => ⟨he, hc2.of_nil⟩
  · rintro e w1 ⟨rfl, hc1⟩
    clear M1 T1
    simp only [tupOr, M3]
    go_wp2
    go_quiet (fail)
    go_wp2
    go_ret3
    exact ⟨rfl, ((hc1.alloc _).drewN nq)⟩
theorem stops_ok (c : BitVec 64) (hok : ctrlOk c = true) (w : World) :
    Calls Tryz.prog 92 #[U c] w fun e w' => e = .returned (.bool (emptyM c != 0#8)) ∧ Ch [] w w' := by
  have M1 := fun w => sets_ok c hok w
  generalize fullM c = rf at *
  generalize emptyM c = re at *
  generalize delM c = rd at *
  clear hok
  go_enter Tryz.func92, Tryz.ntmps92
  go_wp2_with (go_at_call 135; refine (M1 _).mono ?_; rintro e w1 ⟨rfl, hc1⟩)
  go_ret
  refine ⟨?_, hc1⟩
  rw [← neN]; rfl
end Go.Proofs.Hc
