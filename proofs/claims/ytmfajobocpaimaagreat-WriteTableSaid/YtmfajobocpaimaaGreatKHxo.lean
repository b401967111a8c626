/- Regions that draw their order, in the body of a range over a function. -/
import Derived.Test.YtmfajobocpaimaaGreatKHm
import Derived.Test.YtmfajobocpaimaaGreatKHd
import Derived.Test.YtmfajobocpaimaaGreatKHj
import Derived.Test.YtmfajobocpaimaaGreatKHma
import Derived.Test.YtmfajobocpaimaaGreatKHmy
import Derived.Test.YtmfajobocpaimaaGreatKHn
import Derived.Test.YtmfajobocpaimaaGreatKHni
import Derived.Test.YtmfajobocpaimaaGreatKHrw
import Derived.Test.YtmfajobocpaimaaGreatKHh
import Derived.Test.YtmfajobocpaimaaGreatKHsl
import Derived.Test.YtmfajobocpaimaaGreatKHxc
import Derived.Below
import Derived.BigQuiet
import Derived.Deep.Draws
import Derived.Deep.QuietTactic
import Derived.Deep.RegionHeld
import Derived.Laws.CopyRow
import Derived.Laws.Tables
import Derived.Lib.Hide
import Derived.LoopIn
import Derived.LoopNIn
import Derived.OwnWalkIn
import Derived.RangeFuncCalls
import Derived.RangeFuncRecord
import Derived.RangeFuncSeq
import Derived.StillTail
import Derived.TacticsInMore
import Derived.Test.YtmfajobocpaimaaGreatProg
import Derived.WalkKit
import Derived.Deep.Light
import Derived.Lib.AppendZerosOnto
import Derived.Lib.Tables
import Derived.Lib.Walk
import Derived.LoopN
import Derived.Maps.AppendAt
import Derived.Maps.Views
import Derived.RangeFuncBox
import Derived.Recover
import Derived.RegionTactic
import Derived.Shelf.Slices.Clone
import Derived.StillTailTactics
import Derived.WalkLawsBesides
import Derived.WalkMore
import Derived.WalkSpells
import Derived.Laws.StructEq
set_option linter.unusedSimpArgs false
set_option linter.unusedVariables false
namespace Go.Proofs.Hc
open Go.RowKit
def noDefer (l : List Oper) : Bool := l.all fun o => match o.op with
  | .defer _ => false
  | _ => true
theorem noDefer_at {l : List Oper} (h : noDefer l = true) {i : Nat} {o : Oper} (hi : l.toArray[i]? = some o) : ∀ c, o.op ≠ .defer c := by
  intro c hc
  have hm : o ∈ l := List.mem_of_getElem? (by simpa using hi)
  have := List.all_eq_true.1 h o hm
  rw [hc] at this
  cases this
theorem wpIn_of_wp {P : Program} {r n : Nat} {o : Oper} {a : Act} {w : World} {K : Act → World → Prop} {Q : Exit → Act → World → Prop} (hd : ∀ c, o.op ≠ .defer c) (h : o.wp P a w K Q) : o.wpIn (Wd.inRound r) n P a w K Q := by
  unfold Oper.wpIn
  unfold Oper.wp at h
  refine ⟨fun _ _ => trivial, ?_⟩
  rw [Oper.semAt_eq _ _ _ hd]
  generalize (execOp a.eval o).run P w = x at *
  cases x with
  | ok y w' =>
    cases y with
    | value v => exact h
    | skip => exact h
    | defer d => exact h
    | enter f args => exact ⟨fun e => (by cases e), CallsIn.inRound r (callsIn_wide.2 h)⟩
    | row q args =>
      refine ⟨fun e => (by cases e), fun c cs _ => ?_⟩
      obtain ⟨v, w2, hv, hs⟩ := h c cs
      exact ⟨v, w2, hv, stepsIn_wide.2 hs⟩
    | _ => exact h.elim
  | halt y w' =>
    cases y <;> exact h
theorem anyIn {P : Program} {r n : Nat} {l : List Oper} {md : Region.Mode} {Q : Exit → Act → World → Prop} (hd : noDefer l = true) (hno : ¬ LetsOut Q) : ∀ (f : Nat) (listed : Array Bool) (a : Act) (w : World),
    wpAny P md l.toArray Q f listed a w → wpAnyIn (Wd.inRound r) n P md l.toArray Q f listed a w
  | 0, _, _, _, h => h
  | f + 1, listed, a, w, h => by
    refine ⟨h.1, fun i hi => ?_⟩
    have := h.2 i hi
    unfold wpOp at this
    unfold wpOpIn
    cases ho : l.toArray[i]? with
    | none => rw [ho] at this; exact anyIn hd hno f _ _ _ this
    | some o =>
      rw [ho] at this
      simp only at this ⊢
      split
      · rename_i hw
        rw [if_pos hw] at this
        rcases this with h1 | h1
        · exact Oper.wpIn_mono (fun a' w' h' => anyIn hd hno f _ _ _ h') (wpIn_of_wp (noDefer_at hd ho) h1)
        · exact (hno h1.2).elim
      · rename_i hw
        rw [if_neg hw] at this
        exact ⟨fun _ _ => trivial, anyIn hd hno f _ _ _ this⟩
theorem any_gar {P : Program} {Q : Exit → Act → World → Prop} {a : Act} {w : World} {l : List Oper} (hB : Region.lexB .any l.toArray = true)
    (h : wpQuiet P l.toArray (fun w' => ∃ g : Gar w, w' = g.1) (fun a' => ∀ w', (∃ g : Gar w, w' = g.1) → Q .normal a' w') l a) : wpAny P .any l.toArray Q l.toArray.size (Array.replicate l.toArray.size false) a { w with drawn := w.drawn + 1 } := by
  simp only [Region.lexB, Bool.and_eq_true] at hB
  refine wpAny_of_quiet (Q := fun a' => ∀ w', (∃ g : Gar w, w' = g.1) → Q .normal a' w') (fun _ w' hw' h => h w' hw') _ _ _ _ ⟨⟨_, (Ch.refl [] w).drew⟩, rfl⟩ ?_
  have := wpAnyQ_lex (C := fun w' => ∃ g : Gar w, w' = g.1) (md := .any) hB.1 l 0 (Array.replicate l.toArray.size false) a (by simp) (by simpa using hB.2) h
  simpa using this
theorem rr_gar {P : Program} {id r k : Nat} {Q : Exit → Act → World → Prop} {a : Act} {w : World} {l : List Oper} (hm : P.follows .mixedOrders = true) (hd : noDefer l = true) (hB : Region.lexB .any l.toArray = true) (hno : ¬ LetsOut Q)
    (h : wpQuiet P l.toArray (fun w' => ∃ g : Gar w, w' = g.1) (fun a' => ∀ w', (∃ g : Gar w, w' = g.1) → Q .normal a' w') l a) : (Code.region id l.toArray true).wpIn (Wd.inRound r) k P Q a w :=
  wpIn_region_any hm (anyIn hd hno _ _ _ _ (any_gar hB h))
/-- A region whose loads may be taken first (S: what they read), whatever comes behind them. -/
theorem rr_held {P : Program} {id r k : Nat} {Q : Exit → Act → World → Prop} {a : Act} {w : World} {l : List Oper} (S : World → Prop) (hm : P.follows .mixedOrders = true) (hd : noDefer l = true) (hno : ¬ LetsOut Q) (hS : S w.drew)
    (h : S w.drew → wpAnyH P .any l.toArray Q S l.toArray.size (Array.replicate l.toArray.size false) a w.drew) : (Code.region id l.toArray true).wpIn (Wd.inRound r) k P Q a w :=
  wpIn_region_any hm (anyIn hd hno _ _ _ _ (wpAny_of_held _ _ _ _ (h hS)))
end Go.Proofs.Hc
/- Package table: sure, bare, and whether a table has a key. -/
namespace Go.Proofs.Hc
open Go.RowKit
attribute [local go_sem] wrap_u64 wrap_u8 bits_xor64 bits_and64 bits_or64 bits_not64 bits_xor8 bits_and8 bits_or8 signed64 signed8 ofInt_N BitVec.ofInt_add BitVec.ofInt_mul ofInt_sub' ofInt8_N64 ofInt64_N8 wide8 eqN neN shr_pow shr1 shr7 shr56
attribute [local go_sem high] bits_com64 shl_wrap
attribute [local go_sem] cell_heap ice_heap cellAt_cells iceAt_cells setAt_cells rowAt_cells canLay_cells laidAt_cells size_onObj size_setCell rowRes_some layRes_true
attribute [local go_sem] load26 load73 load23 store26 build73
attribute [local go_sem ↓] lrow26 lrow73 lrow23 srow26 zero26 brow73 heap_alloc heap_drew heap_drewN heap_setCell heap_onObj
attribute [local go_sem] tcells_size hcells_size tcells_get hcells_get tcells_one hcells_one hcells_table tcells_table hcells_all hcells_ctrl tcells_ctrl
attribute [local go_sem] nn2 nm2 nn3 nm3 nn4 nm4 nn5 nm5 nn6 nm6 nn7 nm7 nn8 nm8
attribute [local go_sem] nn2 nm2 nn3 nm3 nn4 nm4 nn5 nm5 nn6 nm6 nn7 nm7 nn8 nm8
attribute [local go_sem] Oper.semAt_some make_func1
attribute [local go_sem] box26 tcells_idx cell0 cell1 cell2 cell3 cell4 hcells_idx hcells_pop
attribute [local go_sem] cell5 cell6
theorem surew_yes (c : BitVec 64) (w : World) : Calls Tryz.prog 90 #[U c, I 0] w fun e w' => e = .returned (U c) ∧ w = w' := by
  go_enter Tryz.func90, Tryz.ntmps90
  go_wp2_with (go_at_call 71; refine (tneed_yes _ _).mono ?_; rintro e w' ⟨rfl, rfl⟩)
  go_ret
  exact ⟨rfl, rfl⟩
theorem surem_yes (c : BitVec 8) (w : World) : Calls Tryz.prog 141 #[Y c, I 0] w fun e w' => e = .returned (Y c) ∧ w = w' := by
  go_enter Tryz.func141, Tryz.ntmps141
  go_wp2_with (go_at_call 71; refine (tneed_yes _ _).mono ?_; rintro e w' ⟨rfl, rfl⟩)
  go_ret
  exact ⟨rfl, rfl⟩
/-- A table of empty slots. -/
def bareT (count : BitVec 64) (d : Int) (p : BitVec 64) : Tab := ⟨count, d, p, 14, 0, fun _ => tops, fun _ => 0#64, fun _ => 0#64⟩
/-- Some full slot has a key. -/
def hasKT (t : Tab) (k : BitVec 64) : Bool := (slotsT t).any fun x => t.k x.1 == k
theorem any_snoc (t : Tab) (k : BitVec 64) (pre post : List (Nat × Nat)) (x : Nat × Nat) (h : pre.any (fun x => t.k x.1 == k) = false) :
    (pre ++ [x]).any (fun x => t.k x.1 == k) = (t.k x.1 == k) ∧ ((t.k x.1 == k) = true → (pre ++ x :: post).any (fun x => t.k x.1 == k) = true) := by
  constructor
  · simp only [List.any_append, h, List.any_cons, List.any_nil]; simp
  · intro hx; simp only [List.any_append, List.any_cons, hx]; simp
set_option maxHeartbeats 1000000 in
set_option maxRecDepth 100000 in
theorem has_key (t : Tab) (s k : BitVec 64) (b : Nat) (w : World) (hok0 : ctrlOk (t.c 0) = true) (hok1 : ctrlOk (t.c 1) = true) (hb : w.heap[b]? = some (.cells (hcells t s) 112 (0, 0))) :
    Calls Tryz.prog 133 #[.pointer (some ⟨b, 0, none⟩), U k] w fun e w' => e = .returned (.bool (hasKT t k)) ∧ Ch [] w w' := by
  have hbl := (Array.getElem?_eq_some_iff.1 hb).1
  have Y1 := fun p w hb hp => slots_yields t s b p w hok0 hok1 hb hp
  have B1 := Lib.hid (slots_bound t)
  unfold hasKT
  generalize slotsT t = xs at *
  refine (callsIn_wide (n := 3)).1 ?_
  refine callsIn_of_wp_marks Tryz.func133 rfl trivial ?_
  simp only [Tryz.ntmps133, List.size_toArray, List.length_cons, List.length_nil, Nat.reduceAdd, Nat.reduceSub, Array.replicate_succ, Array.replicate_zero, List.push_toArray, List.append_toArray, List.nil_append, List.cons_append]
  gi_wp2_with (refine ⟨trivial, ?_⟩; gi_at_call 122; refine (inW (slots_make _ _)).mono ?_; rintro e w' ⟨rfl, rfl⟩)
  obtain ⟨W0, hW0⟩ : ∃ W0, (((w.alloc (.cells #[.pointer (some ⟨b, 0, none⟩)] 109)).alloc (.cells #[U k] 22)).alloc (.cells #[.bool false] 4)).alloc (.cells #[.pointer (some ⟨b, 0, none⟩)] 109) = W0 := ⟨_, rfl⟩
  have hs0 : W0.heap.size = w.heap.size + 4 := by rw [← hW0]; simp
  have hC0 : Ch [] w W0 := by rw [← hW0]; exact ((((Ch.refl [] w).alloc _).alloc _).alloc _).alloc _
  have b0 : W0.heap[w.heap.size]? = some (.cells #[.pointer (some ⟨b, 0, none⟩)] 109 (0, 0)) := by rw [← hW0]; simp [go_sem] <;> omega
  have b1 : W0.heap[w.heap.size + 1]? = some (.cells #[U k] 22 (0, 0)) := by rw [← hW0]; simp [go_sem] <;> omega
  have b2 : W0.heap[w.heap.size + 1 + 1]? = some (.cells #[.bool false] 4 (0, 0)) := by rw [← hW0]; simp [go_sem] <;> omega
  have b3 : W0.heap[w.heap.size + 1 + 1 + 1]? = some (.cells #[.pointer (some ⟨b, 0, none⟩)] 109 (0, 0)) := by rw [← hW0]; simp [go_sem] <;> omega
  have bb := hkeep hC0 hb
  rw [hW0]
  clear hW0 hok0 hok1
  refine range_lawO (n := 1) (xs := xs) rfl enters_slots (Y1 _ W0 bb b3) (fun _ => rfl) (by simp) (by simp <;> omega)
    (fun pre O W => (∀ x, O x ↔ x = w.heap.size + 1 + 1) ∧ pre.any (fun x => t.k x.1 == k) = false ∧ Ch [] w W ∧ W.heap[w.heap.size]? = some (.cells #[.pointer (some ⟨b, 0, none⟩)] 109 (0, 0)) ∧ W.heap[w.heap.size + 1]? = some (.cells #[U k] 22 (0, 0)) ∧ W.heap[w.heap.size + 1 + 1]? = some (.cells #[.bool false] 4 (0, 0)))
    (fun c W => c = .ret ∧ xs.any (fun x => t.k x.1 == k) = true ∧ Ch [] w W ∧ W.heap[w.heap.size + 1 + 1]? = some (.cells #[.bool true] 4 (0, 0)))
    (fun x => x = w.heap.size + 1 + 1) ?hIO ?hI ?hIx ⟨fun _ => Iff.rfl, by simp, hC0, b0, b1, b2⟩ ?a₁ ?assign ?body ?done ?stop
  case assign =>
    intro x W K hK
    gi_wp2
    exact hK
  case hIO =>
    rintro pre O A ⟨h, _, hc, _, _, h2⟩ x hx
    have hx := (h x).1 hx
    subst hx
    exact ⟨.inl (by omega), (Array.getElem?_eq_some_iff.1 h2).1, by simp; omega⟩
  case hI =>
    rintro pre O A B ⟨h0, hd, hc, h1, h2, h3⟩ hAB
    exact ⟨h0, hd, hc.trans2 hAB (by simp <;> omega), hkeepS hAB (by simp; omega) h1, hkeepS hAB (by simp; omega) h2, hkeepS hAB (by simp; omega) h3⟩
  case hIx =>
    rintro c A B ⟨rfl, hd, hc, h2⟩ hAB
    exact ⟨rfl, hd, hc.trans2 hAB (by simp <;> omega), hkeepS hAB (by simp; omega) h2⟩
  case body =>
    rintro pre O x post W hx ⟨h0, hd, hc, h1, h2, h3⟩ hsz
    go_light
    obtain ⟨hx16, -, -, -⟩ := B1.out x (by rw [hx]; simp)
    have hany := any_snoc t k pre post x hd
    rw [← hx] at hany
    obtain ⟨sl, g⟩ := x
    have HA := Lib.hid hany
    have hk7 := hcells_key t s sl hx16
    have hbW := hkeep hc hb
    have hg1 : ∀ g : Gar W, (g.1).heap[w.heap.size]? = some (.cells #[.pointer (some ⟨b, 0, none⟩)] 109 (0, 0)) := fun g => hkeep g.2 h1
    have hg2 : ∀ g : Gar W, (g.1).heap[w.heap.size + 1]? = some (.cells #[U k] 22 (0, 0)) := fun g => hkeep g.2 h2
    have hg3 : ∀ g : Gar W, (g.1).heap[b]? = some (.cells (hcells t s) 112 (0, 0)) := fun g => hkeep g.2 hbW
    have hsl0 : (0 : Int) ≤ (sl : Int) := by omega
    have hsl1 : (sl : Int) < 16 := by omega
    clear hx hany hd Y1 b0 b1 b2 b3 bb hb hbl B1
    simp only at HA
    generalize hkk : t.k sl = kk at *
    cases he : (kk == k)
    all_goals
      gi_wp2
      refine rr_gar (by kernel_rfl) (by kernel_rfl) (by kernel_rfl) (by rintro ⟨a, w, h⟩; exact h) ?_
      repeat (go_big_quiet_step (fail))
      refine wpQuiet_nil ?_
      rintro W6 ⟨g6, hw6⟩
      have hc6 : Ch [] W W6 := by rw [hw6]; exact g6.2
      clear hw6 g6 hg1 hg2 hg3
      have d1 := hkeep hc6 h1
      have d2 := hkeep hc6 h2
      have d3 := hkeep hc6 h3
      gi_wp2
    · refine ⟨⟨O, ⟨h0, HA.out.1.trans he, hc.trans hc6, d1, d2, d3⟩, fun _ h => .inl h⟩, hc6.size, fun b hb _ => hc6.block b hb (by simp)⟩
    · refine ⟨⟨rfl, HA.out.2 he, (hc.trans hc6).setCell (p := ⟨w.heap.size + 1 + 1, 0, none⟩) (.inr (by simp; omega)) _, ?_⟩, fun y hy hn => ?_⟩
      · rw [heap_setCell, if_pos rfl, d3]; rfl
      · rw [heap_setCell, if_neg (fun e => hn ((h0 y).2 e))]; exact hc6.block y hy (by simp)
  case done =>
    rintro O W ⟨h0, hd, hc, h1, h2, h3⟩ hdd
    gi_wp2
    refine marks_ret (v := .bool false) ?_ (results_cell1 Tryz.results133 _ _ _ rfl (load_one Tryz.underlying4 rfl _ _ (fr := (0, 0)) (t := 4) ?_)) ⟨by rw [hd], ?_⟩
    · rw [heap_setCell, if_neg (by omega)]; exact hdd
    · simp only [heap_putObj, heap_setCell, h3]; rw [if_neg (by omega)]; simp [setAt_cells]
    · exact (hc.setCell (p := ⟨w.heap.size + 1 + 1, 0, none⟩) (.inr (by simp; omega)) _).trans2 (ch_putObj _ _ _) (by simp <;> omega)
  case stop =>
    rintro c W ⟨rfl, hd, hc, h2⟩ hdd
    gi_wp2
    refine marks_ret (v := .bool true) hdd (results_cell1 Tryz.results133 _ _ _ rfl (load_one Tryz.underlying4 rfl _ _ (fr := (0, 0)) (t := 4) ?_)) ⟨by rw [hd], ?_⟩
    · rw [heap_putObj, if_neg (by omega)]; exact h2
    · exact hc.trans2 (ch_putObj _ _ _) (by simp <;> omega)
end Go.Proofs.Hc
/- Package table: bare tables, and the pairs of full slots. -/
namespace Go.Proofs.Hc
open Go.RowKit
attribute [local go_sem] wrap_u64 wrap_u8 bits_xor64 bits_and64 bits_or64 bits_not64 bits_xor8 bits_and8 bits_or8 signed64 signed8 ofInt_N BitVec.ofInt_add BitVec.ofInt_mul ofInt_sub' ofInt8_N64 ofInt64_N8 wide8 eqN neN shr_pow shr1 shr7 shr56
attribute [local go_sem high] bits_com64 shl_wrap
attribute [local go_sem] cell_heap ice_heap cellAt_cells iceAt_cells setAt_cells rowAt_cells canLay_cells laidAt_cells size_onObj size_setCell rowRes_some layRes_true
attribute [local go_sem] load26 load73 load23 store26 build73
attribute [local go_sem ↓] lrow26 lrow73 lrow23 srow26 zero26 brow73 heap_alloc heap_drew heap_drewN heap_setCell heap_onObj
attribute [local go_sem] tcells_size hcells_size tcells_get hcells_get tcells_one hcells_one hcells_table tcells_table hcells_all hcells_ctrl tcells_ctrl
attribute [local go_sem] nn2 nm2 nn3 nm3 nn4 nm4 nn5 nm5 nn6 nm6 nn7 nm7 nn8 nm8
attribute [local go_sem] nn2 nm2 nn3 nm3 nn4 nm4 nn5 nm5 nn6 nm6 nn7 nm7 nn8 nm8
attribute [local go_sem] Oper.semAt_some make_func1
attribute [local go_sem] box26 tcells_idx cell0 cell1 cell2 cell3 cell4 hcells_idx hcells_pop
attribute [local go_sem] cell5 cell6
theorem tset_ctrl (t : Tab) (g : Nat) (hg : g < 2) (x : BitVec 64) : (tcells t).setIfInBounds (5 + g) (U x) = tcells { t with c := fun i => if i = g then x else t.c i } := by
  have h := hset_ctrl t 0#64 g hg x
  have h2 := congrArg (fun a => a.extract 0 39) h
  simp only [hcells_table] at h2
  rw [← h2, ← hcells_table t 0#64]
  apply Array.ext_getElem?; intro i
  by_cases hi : i = 5 + g
  · subst hi
    simp [hcells_size, show 5 + g < 39 by omega]
  · rw [Array.getElem?_setIfInBounds_ne (fun e => hi e.symm), Array.getElem?_extract, Array.getElem?_extract]
    simp only [Array.size_setIfInBounds]
    split
    · rw [Array.getElem?_setIfInBounds_ne (by omega)]
    · rfl
theorem tset5 (t : Tab) (x : BitVec 64) : (tcells t).setIfInBounds 5 (U x) = tcells { t with c := fun i => if i = 0 then x else t.c i } := tset_ctrl t 0 (by omega) x
theorem tset6 (t : Tab) (x : BitVec 64) : (tcells t).setIfInBounds 6 (U x) = tcells { t with c := fun i => if i = 1 then x else t.c i } := tset_ctrl t 1 (by omega) x
theorem laidAt_t (a b : Tab) (T : TypeId) (fr : Nat × Nat) : laidAt 0 (tcells b) (.cells (tcells a) T fr) = .cells (tcells b) T fr := by
  rw [laidAt_cells, laid_whole _ _ (by rw [tcells_size, tcells_size])]
theorem brow26 (ps : Array (Nat × Value)) : Instr.build 26 ps = buildRow 26 ps := rfl
theorem build_bare (c : BitVec 64) (d : Int) (p : BitVec 64) (w : World) : (buildRow 26 #[(0, U c), (1, I d), (2, U p), (3, .int .i64 14)]).run Tryz.prog w = .ok (.agg (tcells ⟨c, d, p, 14, 0, fun _ => 0#64, fun _ => 0#64, fun _ => 0#64⟩)) w := by kernel_rfl
attribute [local go_sem] tset5 tset6 build_bare
attribute [local go_sem high] laidAt_t
attribute [local go_sem ↓] brow26
end Go.Proofs.Hc
/- Package table: the pairs of full slots. -/
namespace Go.Proofs.Hc
open Go.RowKit
attribute [local go_sem] wrap_u64 wrap_u8 bits_xor64 bits_and64 bits_or64 bits_not64 bits_xor8 bits_and8 bits_or8 signed64 signed8 ofInt_N BitVec.ofInt_add BitVec.ofInt_mul ofInt_sub' ofInt8_N64 ofInt64_N8 wide8 eqN neN shr_pow shr1 shr7 shr56
attribute [local go_sem high] bits_com64 shl_wrap
attribute [local go_sem] cell_heap ice_heap cellAt_cells iceAt_cells setAt_cells rowAt_cells canLay_cells laidAt_cells size_onObj size_setCell rowRes_some layRes_true
attribute [local go_sem] load26 load73 load23 store26 build73
attribute [local go_sem ↓] lrow26 lrow73 lrow23 srow26 zero26 brow73 heap_alloc heap_drew heap_drewN heap_setCell heap_onObj
attribute [local go_sem] tcells_size hcells_size tcells_get hcells_get tcells_one hcells_one hcells_table tcells_table hcells_all hcells_ctrl tcells_ctrl
attribute [local go_sem] nn2 nm2 nn3 nm3 nn4 nm4 nn5 nm5 nn6 nm6 nn7 nm7 nn8 nm8
attribute [local go_sem] nn2 nm2 nn3 nm3 nn4 nm4 nn5 nm5 nn6 nm6 nn7 nm7 nn8 nm8
attribute [local go_sem] Oper.semAt_some make_func1
attribute [local go_sem] box26 tcells_idx cell0 cell1 cell2 cell3 cell4 hcells_idx hcells_pop
attribute [local go_sem] cell5 cell6
/-- What full slots have. -/
def pairsT (t : Tab) : List (BitVec 64 × BitVec 64) := (slotsT t).map fun x => (t.k x.1, t.v x.1)
/-- The cells of a row of pairs. -/
def pcells (l : List (BitVec 64 × BitVec 64)) : List Value := l.flatMap fun p => [U p.1, U p.2]
theorem pcells_len (l : List (BitVec 64 × BitVec 64)) : (pcells l).length = l.length * 2 := by
  induction l with
  | nil => rfl
  | cons p l ih => simp only [pcells, List.flatMap_cons] at *; simp [ih]; omega
theorem build_pair (x y : BitVec 64) (w : World) : (Instr.build 31 #[(0, U x), (1, U y)]).run Tryz.prog w = .ok (.agg #[U x, U y]) w := by kernel_rfl
theorem build_slice1 (x y : BitVec 64) (w : World) : (Instr.buildSlice 27 1 #[(0, .agg #[U x, U y])]).run Tryz.prog w = .ok (.slice (some ⟨w.heap.size, 0, none⟩) 1 1) (w.alloc (.cells #[U x, U y] 31)) := by kernel_rfl
attribute [local go_sem] build_pair build_slice1
end Go.Proofs.Hc
/- Package table: a table, and pairs that are put in it. -/
namespace Go.Proofs.Hc
open Go.RowKit
attribute [local go_sem] wrap_u64 wrap_u8 bits_xor64 bits_and64 bits_or64 bits_not64 bits_xor8 bits_and8 bits_or8 signed64 signed8 ofInt_N BitVec.ofInt_add BitVec.ofInt_mul ofInt_sub' ofInt8_N64 ofInt64_N8 wide8 eqN neN shr_pow shr1 shr7 shr56
attribute [local go_sem high] bits_com64 shl_wrap
attribute [local go_sem] cell_heap ice_heap cellAt_cells iceAt_cells setAt_cells rowAt_cells canLay_cells laidAt_cells size_onObj size_setCell rowRes_some layRes_true
attribute [local go_sem] load26 load73 load23 store26 build73
attribute [local go_sem ↓] lrow26 lrow73 lrow23 srow26 zero26 brow73 heap_alloc heap_drew heap_drewN heap_setCell heap_onObj
attribute [local go_sem] tcells_size hcells_size tcells_get hcells_get tcells_one hcells_one hcells_table tcells_table hcells_all hcells_ctrl tcells_ctrl
attribute [local go_sem] nn2 nm2 nn3 nm3 nn4 nm4 nn5 nm5 nn6 nm6 nn7 nm7 nn8 nm8
attribute [local go_sem] nn2 nm2 nn3 nm3 nn4 nm4 nn5 nm5 nn6 nm6 nn7 nm7 nn8 nm8
attribute [local go_sem] Oper.semAt_some make_func1 ofInt_pow8
attribute [local go_sem] box26 tcells_idx cell0 cell1 cell2 cell3 cell4 hcells_idx hcells_pop
attribute [local go_sem] cell5 cell6
theorem loadP (g o : Nat) (w : World) : (loadRow 31 ⟨g, o, none⟩).run Tryz.prog w = rowRes Tryz.prog 31 g o w ((w.heap[g]?).bind (rowAt o 2)) :=
  run_row Tryz.underlying31 rfl (by kernel_rfl) g o w
theorem storeP (g o : Nat) (vs : Array Value) (w : World) : (storeRow 31 ⟨g, o, none⟩ (.agg vs)).run Tryz.prog w = layRes Tryz.prog 31 g o vs w (((w.heap[g]?).map (canLay o 2 vs)).getD false) :=
  run_lay (by kernel_rfl) g o vs w
theorem lrowP (a : Addr) : loadVar 31 a = loadRow 31 a := rfl
theorem srowP (a : Addr) (v : Value) : storeVar 31 a v = storeRow 31 a v := rfl
theorem zeroP (w : World) : (zeroValue 31).run Tryz.prog w = .ok (.agg #[U 0#64, U 0#64]) w := by kernel_rfl
/-- A row of pairs, read where it lies. -/
def PairsAt (cur : Array Value) (l : List (BitVec 64 × BitVec 64)) : Prop := ∀ (i : Nat) (p : BitVec 64 × BitVec 64), l[i]? = some p → rowAt (2 * i) 2 (.cells cur 31 (0, 0)) = some #[U p.1, U p.2]
theorem pcells_at : ∀ (l : List (BitVec 64 × BitVec 64)) (i : Nat) (p : BitVec 64 × BitVec 64), l[i]? = some p → (pcells l)[2 * i]? = some (U p.1) ∧ (pcells l)[2 * i + 1]? = some (U p.2)
  | [], i, p, h => by cases h
  | q :: l, 0, p, h => by
    have : q = p := by simpa using h
    subst this; exact ⟨rfl, rfl⟩
  | q :: l, i + 1, p, h => by
    have := pcells_at l i p (by simpa using h)
    have e : pcells (q :: l) = U q.1 :: U q.2 :: pcells l := rfl
    rw [e, show 2 * (i + 1) = 2 * i + 1 + 1 by omega]
    simpa using this
theorem pairs_at {W : World} {base n : Nat} {a : Option Addr} {c : Nat} {l : List (BitVec 64 × BitVec 64)} (hn : n = l.length) (h : W.ownsRow base 31 2 (.slice a n c) n (pcells l)) :
    ∃ cur, PairsAt cur l ∧ (0 < l.length → ∃ r, a = some ⟨r, 0, none⟩) ∧ ∀ r, a = some ⟨r, 0, none⟩ → base ≤ r ∧ W.heap[r]? = some (.cells cur 31 (0, 0)) := by
  subst hn
  obtain ⟨_, ⟨hv, h0⟩ | ⟨g, cap, cur, hv, hg, hW, hle, _, hsz, hx⟩⟩ := h
  · refine ⟨#[], fun i p hp => ?_, fun hl => by omega, fun r hr => by rw [hr] at hv; simp at hv⟩
    have := (List.getElem?_eq_some_iff.1 hp).1
    omega
  · refine ⟨cur, fun i p hp => ?_, fun _ => ⟨g, by simp only [Value.slice.injEq] at hv; exact hv.1⟩, fun r hr => ?_⟩
    · have hi := (List.getElem?_eq_some_iff.1 hp).1
      obtain ⟨h1, h2⟩ := pcells_at l i p hp
      rw [← hx, List.getElem?_take] at h1 h2
      rw [if_pos (by omega)] at h1 h2
      have h1' : cur[2 * i]? = some (U p.1) := by simpa using h1
      have h2' : cur[2 * i + 1]? = some (U p.2) := by simpa using h2
      rw [rowAt_cells, if_pos (by omega)]
      congr 1
      apply Array.ext_getElem?
      intro j
      rw [Array.getElem?_extract]
      match j with
      | 0 => rw [if_pos (by omega)]; simpa using h1'
      | 1 => rw [if_pos (by omega)]; simpa using h2'
      | j + 2 => rw [if_neg (by omega)]; simp
    · rw [hr] at hv
      simp only [Value.slice.injEq] at hv
      have hrg : r = g := by simpa using hv.1
      subst hrg
      exact ⟨hg, hW⟩
theorem allOne_pair (x y : BitVec 64) : allOne #[U x, U y] = true := by simp [allOne, Value.oneCell']
theorem laidAt_p (a b c d : Value) (T : TypeId) (fr : Nat × Nat) : laidAt 0 #[a, b] (.cells #[c, d] T fr) = .cells #[a, b] T fr := by
  have h := laid_whole (#[a, b] : Array Value) #[c, d] rfl
  show Obj.cells (((#[c, d] : Array Value).extract 0 0 ++ #[a, b]) ++ (#[c, d] : Array Value).extract (0 + (#[a, b] : Array Value).size) (#[c, d] : Array Value).size) T fr = _
  rw [h]
attribute [local go_sem] loadP storeP allOne_pair
attribute [local go_sem high] laidAt_p
attribute [local go_sem high] laidAt_t
attribute [local go_sem ↓] lrowP srowP zeroP
theorem drop_one {α : Type} {l : List α} {m : Nat} (h : m < l.length) : ∃ p, l[m]? = some p ∧ l.drop m = p :: l.drop (m + 1) :=
  ⟨l[m]'h, List.getElem?_eq_getElem h, List.drop_eq_getElem_cons h⟩
end Go.Proofs.Hc
/- The reference of layer 17: row. -/
namespace Go.Proofs.Hc
open Go.RowKit
attribute [local go_sem] wrap_u64 wrap_u8 bits_xor64 bits_and64 bits_or64 bits_not64 bits_xor8 bits_and8 bits_or8 signed64 signed8 ofInt_N BitVec.ofInt_add BitVec.ofInt_mul ofInt_sub' ofInt8_N64 ofInt64_N8 wide8 eqN neN shr_pow shr1 shr7 shr56
attribute [local go_sem high] bits_com64 shl_wrap
attribute [local go_sem] cell_heap ice_heap cellAt_cells iceAt_cells setAt_cells rowAt_cells canLay_cells laidAt_cells size_onObj size_setCell rowRes_some layRes_true
attribute [local go_sem] load26 load73 load23 store26 build73
attribute [local go_sem ↓] lrow26 lrow73 lrow23 srow26 zero26 brow73 heap_alloc heap_drew heap_drewN heap_setCell heap_onObj
attribute [local go_sem] tcells_size hcells_size tcells_get hcells_get tcells_one hcells_one hcells_table tcells_table hcells_all hcells_ctrl tcells_ctrl
attribute [local go_sem] nn2 nm2 nn3 nm3 nn4 nm4 nn5 nm5 nn6 nm6 nn7 nm7 nn8 nm8
attribute [local go_sem] nn2 nm2 nn3 nm3 nn4 nm4 nn5 nm5 nn6 nm6 nn7 nm7 nn8 nm8
attribute [local go_sem] ofInt_N
attribute [local go_sem] box26 tcells_idx cell0 cell1 cell2 cell3 cell4
attribute [local irreducible] tcells
/-- A row of numbers that the call made. -/
def IntsAt (w0 w : World) (v : Value) (l : List Nat) : Prop :=
  ∃ r c cur, v = .slice (some ⟨r, 0, none⟩) l.length c ∧ w0.heap.size ≤ r ∧ w.heap[r]? = some (.cells cur 3 (0, 0)) ∧ ∀ i x : Nat, l[i]? = some x → cur[i]? = some (I (x : Int))
theorem IntsAt.ch {w0 w w' : World} {v : Value} {l : List Nat} {S : List Nat} (h : IntsAt w0 w v l) (c : Ch S w w') (hS : ∀ r n c, v = .slice (some ⟨r, 0, none⟩) n c → r ∉ S) : IntsAt w0 w' v l := by
  obtain ⟨r, c', cur, hv, hr, hb, hi⟩ := h
  exact ⟨r, c', cur, hv, hr, (c.block r (Array.getElem?_eq_some_iff.1 hb).1 (hS _ _ _ hv)).trans hb, hi⟩
end Go.Proofs.Hc
/- The reference of layer 17: New, Compared, Place. -/
namespace Go.Proofs.Hc
open Go.RowKit
attribute [local go_sem] wrap_u64 wrap_u8 bits_xor64 bits_and64 bits_or64 bits_not64 bits_xor8 bits_and8 bits_or8 signed64 signed8 ofInt_N BitVec.ofInt_add BitVec.ofInt_mul ofInt_sub' ofInt8_N64 ofInt64_N8 wide8 eqN neN shr_pow shr1 shr7 shr56
attribute [local go_sem high] bits_com64 shl_wrap
attribute [local go_sem] cell_heap ice_heap cellAt_cells iceAt_cells setAt_cells rowAt_cells canLay_cells laidAt_cells size_onObj size_setCell rowRes_some layRes_true
attribute [local go_sem] load26 load73 load23 store26 build73
attribute [local go_sem ↓] lrow26 lrow73 lrow23 srow26 zero26 brow73 heap_alloc heap_drew heap_drewN heap_setCell heap_onObj
attribute [local go_sem] tcells_size hcells_size tcells_get hcells_get tcells_one hcells_one hcells_table tcells_table hcells_all hcells_ctrl tcells_ctrl
attribute [local go_sem] nn2 nm2 nn3 nm3 nn4 nm4 nn5 nm5 nn6 nm6 nn7 nm7 nn8 nm8
attribute [local go_sem] nn2 nm2 nn3 nm3 nn4 nm4 nn5 nm5 nn6 nm6 nn7 nm7 nn8 nm8
attribute [local go_sem] ofInt_N
attribute [local go_sem] box26 tcells_idx cell0 cell1 cell2 cell3 cell4 cell5 cell6
attribute [local go_sem high] laidAt_t
attribute [local irreducible] tcells
theorem build_slice8 (w : World) : (Instr.buildSlice 147 8 #[(0, .int .u8 128), (1, .int .u8 128), (2, .int .u8 128), (3, .int .u8 128), (4, .int .u8 128), (5, .int .u8 128), (6, .int .u8 128), (7, .int .u8 128)]).run Tryz.prog w = .ok (.slice (some ⟨w.heap.size, 0, none⟩) 8 8) (w.alloc (.cells (#[.int .u8 128, .int .u8 128, .int .u8 128, .int .u8 128, .int .u8 128, .int .u8 128, .int .u8 128, .int .u8 128]) 5)) := by kernel_rfl
theorem build_ctrl (x y : BitVec 64) (w : World) : (Instr.build 23 #[(0, U x), (1, U y)]).run Tryz.prog w = .ok (.agg #[U x, U y]) w := by kernel_rfl
theorem build_new (c : BitVec 64) (d : Int) (p x : BitVec 64) (w : World) : (buildRow 26 #[(0, U c), (1, I d), (2, U p), (3, .int .i64 14), (5, .agg #[U x, U x])]).run Tryz.prog w = .ok (.agg (tcells ⟨c, d, p, 14, 0, fun _ => x, fun _ => 0#64, fun _ => 0#64⟩)) w := by kernel_rfl
attribute [local go_sem] build_slice8 build_new
attribute [local go_sem high] build_ctrl
attribute [local go_sem ↓] brow26
theorem acc_tops : accB (List.replicate 8 128#8) = tops := by decide +kernel
set_option maxHeartbeats 1000000 in
set_option maxRecDepth 100000 in
theorem rNew_any (c : BitVec 64) (d : Int) (p : BitVec 64) (w : World) : Calls Tryz.prog 39 #[U c, I d, U p] w fun e w' => e = .returned (.agg (tcells (bareT c d p))) ∧ Ch [] w w' := by
  have O1 : ∀ (w : World) (g : Nat), w.heap[g]? = some (.cells (#[.int .u8 128, .int .u8 128, .int .u8 128, .int .u8 128, .int .u8 128, .int .u8 128, .int .u8 128, .int .u8 128]) 5 (0, 0)) → Calls Tryz.prog 100 #[.slice (some ⟨g, 0, none⟩) 8 8] w fun e w' => e = .returned (U tops) ∧ w = w' := fun w g hg => by
    have h := rOf_any (List.replicate 8 128#8) (by simp) g 8 (#[.int .u8 128, .int .u8 128, .int .u8 128, .int .u8 128, .int .u8 128, .int .u8 128, .int .u8 128, .int .u8 128]) w hg (fun j b hj => by
      rw [List.getElem?_replicate] at hj
      rw [show (#[.int .u8 128, .int .u8 128, .int .u8 128, .int .u8 128, .int .u8 128, .int .u8 128, .int .u8 128, .int .u8 128] : Array Value) = Array.replicate 8 (.int .u8 128) from rfl, Array.getElem?_replicate]
      split at hj
      · rename_i h; rw [if_pos h]; cases hj; rfl
      · cases hj)
    rwa [acc_tops] at h
  have HB : bareT c d p = ⟨c, d, p, 14, 0, fun _ => tops, fun _ => 0#64, fun _ => 0#64⟩ := rfl
  rw [HB]
  clear HB
  generalize tops = x at *
  obtain ⟨W0, hW0⟩ : ∃ W0, w.alloc (.cells (tcells zeroT) 26) = W0 := ⟨_, rfl⟩
  have hC0 : Ch [] w W0 := by rw [← hW0]; exact (Ch.refl [] w).alloc _
  have b0 : W0.heap[w.heap.size]? = some (.cells (tcells zeroT) 26 (0, 0)) := by rw [← hW0]; simp [go_sem]
  obtain ⟨W1, hW1⟩ : ∃ W1, W0.alloc (.cells (#[.int .u8 128, .int .u8 128, .int .u8 128, .int .u8 128, .int .u8 128, .int .u8 128, .int .u8 128, .int .u8 128]) 5) = W1 := ⟨_, rfl⟩
  have hC1 : Ch [] W0 W1 := by rw [← hW1]; exact (Ch.refl [] W0).alloc _
  have y1 : W1.heap[W0.heap.size]? = some (.cells (#[.int .u8 128, .int .u8 128, .int .u8 128, .int .u8 128, .int .u8 128, .int .u8 128, .int .u8 128, .int .u8 128]) 5 (0, 0)) := by rw [← hW1]; simp [go_sem]
  have b1 := hkeep hC1 b0
  go_enter Tryz.func39, Tryz.ntmps39
  go_wp2_with fail
  refine (O1 _ _ y1).mono ?_
  rintro e w' ⟨rfl, rfl⟩
  clear O1
  go_wp2
  refine bodyPost_ret (v := .agg (tcells ⟨c, d, p, 14, 0, fun _ => x, fun _ => 0#64, fun _ => 0#64⟩)) (results_cell1 Tryz.results39 _ _ _ rfl (run_loadVar_row _ _ 26 26 (tcells _) (0, 0) _ ?_ Tryz.underlying26 rfl (by rw [tcells_size]; kernel_rfl))) rfl ⟨rfl, ?_⟩
  · simp only [heap_onObj, if_true, b1, Option.map_some, laidAt_t]
  · exact (hC0.trans hC1).onObj (.inr (Nat.le_refl _)) _
end Go.Proofs.Hc
