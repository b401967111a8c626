/- Regions that draw their order, in the body of a range over a function. -/
import Derived.Test.YtcikopeddljgkaaGreatKHn
import Derived.Test.YtcikopeddljgkaaGreatK0
set_option linter.unusedSimpArgs false
set_option linter.unusedVariables false
set_option maxHeartbeats 1000000
set_option maxRecDepth 100000
namespace Go.Proofs.Hc
open Go.RowKit
def noDefer (l : List Oper) : Bool := l.all fun o => match o.op with
  | .defer _ => false
  | _ => true
theorem noDefer_at {l : List Oper} (h : noDefer l = true) {i : Nat} {o : Oper} (hi : l.toArray[i]? = some o) : ∀ c, o.op ≠ .defer c := by
  intro c hc
  have hm : o ∈ l := List.mem_of_getElem? (by simpa using hi)
  have := List.all_eq_true.1 h o hm
  rw [hc] at this
  cases this
theorem wpIn_of_wp {P : Program} {r n : Nat} {o : Oper} {a : Act} {w : World} {K : Act → World → Prop} {Q : Exit → Act → World → Prop} (hd : ∀ c, o.op ≠ .defer c) (h : o.wp P a w K Q) : o.wpIn (Wd.inRound r) n P a w K Q := by
  unfold Oper.wpIn
  unfold Oper.wp at h
  refine ⟨fun _ _ => trivial, ?_⟩
  rw [Oper.semAt_eq _ _ _ hd]
  generalize (execOp a.eval o).run P w = x at *
  cases x with
  | ok y w' =>
    cases y with
    | value v => exact h
    | skip => exact h
    | defer d => exact h
    | enter f args => exact ⟨fun e => (by cases e), CallsIn.inRound r (callsIn_wide.2 h)⟩
    | row q args =>
      refine ⟨fun e => (by cases e), fun c cs _ => ?_⟩
      obtain ⟨v, w2, hv, hs⟩ := h c cs
      exact ⟨v, w2, hv, stepsIn_wide.2 hs⟩
    | _ => exact h.elim
  | halt y w' =>
    cases y <;> exact h
theorem anyIn {P : Program} {r n : Nat} {l : List Oper} {md : Region.Mode} {Q : Exit → Act → World → Prop} (hd : noDefer l = true) (hno : ¬ LetsOut Q) : ∀ (f : Nat) (listed : Array Bool) (a : Act) (w : World),
    wpAny P md l.toArray Q f listed a w → wpAnyIn (Wd.inRound r) n P md l.toArray Q f listed a w
  | 0, _, _, _, h => h
  | f + 1, listed, a, w, h => by
    refine ⟨h.1, fun i hi => ?_⟩
    have := h.2 i hi
    unfold wpOp at this
    unfold wpOpIn
    cases ho : l.toArray[i]? with
    | none => rw [ho] at this; exact anyIn hd hno f _ _ _ this
    | some o =>
      rw [ho] at this
      simp only at this ⊢
      split
      · rename_i hw
        rw [if_pos hw] at this
        rcases this with h1 | h1
        · exact Oper.wpIn_mono (fun a' w' h' => anyIn hd hno f _ _ _ h') (wpIn_of_wp (noDefer_at hd ho) h1)
        · exact (hno h1.2).elim
      · rename_i hw
        rw [if_neg hw] at this
        exact ⟨fun _ _ => trivial, anyIn hd hno f _ _ _ this⟩
theorem any_gar {P : Program} {Q : Exit → Act → World → Prop} {a : Act} {w : World} {l : List Oper} (hB : Region.lexB .any l.toArray = true)
    (h : wpQuiet P l.toArray (fun w' => ∃ g : Gar w, w' = g.1) (fun a' => ∀ w', (∃ g : Gar w, w' = g.1) → Q .normal a' w') l a) : wpAny P .any l.toArray Q l.toArray.size (Array.replicate l.toArray.size false) a { w with drawn := w.drawn + 1 } := by
  simp only [Region.lexB, Bool.and_eq_true] at hB
  refine wpAny_of_quiet (Q := fun a' => ∀ w', (∃ g : Gar w, w' = g.1) → Q .normal a' w') (fun _ w' hw' h => h w' hw') _ _ _ _ ⟨⟨_, (Ch.refl [] w).drew⟩, rfl⟩ ?_
  have := wpAnyQ_lex (C := fun w' => ∃ g : Gar w, w' = g.1) (md := .any) hB.1 l 0 (Array.replicate l.toArray.size false) a (by simp) (by simpa using hB.2) h
  simpa using this
theorem rr_gar {P : Program} {id r k : Nat} {Q : Exit → Act → World → Prop} {a : Act} {w : World} {l : List Oper} (hm : P.follows .mixedOrders = true) (hd : noDefer l = true) (hB : Region.lexB .any l.toArray = true) (hno : ¬ LetsOut Q)
    (h : wpQuiet P l.toArray (fun w' => ∃ g : Gar w, w' = g.1) (fun a' => ∀ w', (∃ g : Gar w, w' = g.1) → Q .normal a' w') l a) : (Code.region id l.toArray true).wpIn (Wd.inRound r) k P Q a w :=
  wpIn_region_any hm (anyIn hd hno _ _ _ _ (any_gar hB h))
theorem rr_held {P : Program} {id r k : Nat} {Q : Exit → Act → World → Prop} {a : Act} {w : World} {l : List Oper} (S : World → Prop) (hm : P.follows .mixedOrders = true) (hd : noDefer l = true) (hno : ¬ LetsOut Q) (hS : S w.drew)
    (h : S w.drew → wpAnyH P .any l.toArray Q S l.toArray.size (Array.replicate l.toArray.size false) a w.drew) : (Code.region id l.toArray true).wpIn (Wd.inRound r) k P Q a w :=
  wpIn_region_any hm (anyIn hd hno _ _ _ _ (wpAny_of_held _ _ _ _ (h hS)))
end Go.Proofs.Hc
namespace Go.Proofs.Hc
open Go.RowKit
attribute [local go_sem] zbs zca zax zbc zbn zba zbm zbo zbu signed64 signed8 zar BitVec.ofInt_add BitVec.ofInt_mul ofInt_sub' zay zaz wide8 eqN neN zbz shr1 shr7 shr56
attribute [local go_sem high] zbb zbt
attribute [local go_sem] zag zbw zah zas zad zbe zaq zal zbl zan zbd zbf
attribute [local go_sem] load26 load73 load23 store26 build73
attribute [local go_sem ↓] lrow26 lrow73 lrow23 srow26 zero26 brow73 zac zaw zbg zaa zab
attribute [local go_sem] zai zav zat zbj zbk zbp zao zau zbq zbi zbh
attribute [local go_sem] nn2 nm2 nn3 nm3 nn4 nm4 nn5 nm5 nn6 nm6 nn7 nm7 nn8 nm8
section
attribute [local go_sem] Oper.semAt_some zap
attribute [local go_sem] box26 zbx cell0 cell1 cell2 cell3 cell4 zci zch
attribute [local go_sem] cell5 cell6
theorem surew_yes (c : BitVec 64) (w : World) : Calls Tryz.prog 137 #[U c, I 0] w fun e w' => e = .returned (U c) ∧ w = w' := by
  go_enter Tryz.func137, Tryz.ntmps137
  go_wp2_with (go_at_call 83; refine (tneed_yes _ _).mono ?_; rintro e w' ⟨rfl, rfl⟩)
  go_ret
  exact ⟨rfl, rfl⟩
theorem surem_yes (c : BitVec 8) (w : World) : Calls Tryz.prog 208 #[Y c, I 0] w fun e w' => e = .returned (Y c) ∧ w = w' := by
  go_enter Tryz.func208, Tryz.ntmps208
  go_wp2_with (go_at_call 83; refine (tneed_yes _ _).mono ?_; rintro e w' ⟨rfl, rfl⟩)
  go_ret
  exact ⟨rfl, rfl⟩
def bareT (count : BitVec 64) (d : Int) (p : BitVec 64) : Tab := ⟨count, d, p, 14, 0, fun _ => tops, fun _ => 0#64, fun _ => 0#64⟩
def hasKT (t : Tab) (k : BitVec 64) : Bool := (slotsT t).any fun x => t.k x.1 == k
theorem any_snoc (t : Tab) (k : BitVec 64) (pre post : List (Nat × Nat)) (x : Nat × Nat) (h : pre.any (fun x => t.k x.1 == k) = false) :
    (pre ++ [x]).any (fun x => t.k x.1 == k) = (t.k x.1 == k) ∧ ((t.k x.1 == k) = true → (pre ++ x :: post).any (fun x => t.k x.1 == k) = true) := by
  constructor
  · simp only [List.any_append, h, List.any_cons, List.any_nil]; simp
  · intro hx; simp only [List.any_append, List.any_cons, hx]; simp
theorem has_key (t : Tab) (s k : BitVec 64) (b : Nat) (w : World) (hok0 : ctrlOk (t.c 0) = true) (hok1 : ctrlOk (t.c 1) = true) (hb : w.heap[b]? = some (.cells (hcells t s) 141 (0, 0))) :
    Calls Tryz.prog 265 #[.pointer (some ⟨b, 0, none⟩), U k] w fun e w' => e = .returned (.bool (hasKT t k)) ∧ Ch [] w w' := by
  have hbl := (Array.getElem?_eq_some_iff.1 hb).1
  have Y1 := fun p w hb hp => slots_yields t s b p w hok0 hok1 hb hp
  have B1 := Lib.hid (slots_bound t)
  unfold hasKT
  generalize slotsT t = xs at *
  refine (callsIn_wide (n := 3)).1 ?_
  refine callsIn_of_wp_marks Tryz.func265 rfl trivial ?_
  simp only [Tryz.ntmps265, List.size_toArray, List.length_cons, List.length_nil, Nat.reduceAdd, Nat.reduceSub, Array.replicate_succ, Array.replicate_zero, List.push_toArray, List.append_toArray, List.nil_append, List.cons_append]
  gi_wp2_with (refine ⟨trivial, ?_⟩; gi_at_call 144; refine (inW (slots_make _ _)).mono ?_; rintro e w' ⟨rfl, rfl⟩)
  obtain ⟨W0, hW0⟩ : ∃ W0, (((w.alloc (.cells #[.pointer (some ⟨b, 0, none⟩)] 137)).alloc (.cells #[U k] 22)).alloc (.cells #[.bool false] 4)).alloc (.cells #[.pointer (some ⟨b, 0, none⟩)] 137) = W0 := ⟨_, rfl⟩
  have hs0 : W0.heap.size = w.heap.size + 4 := by rw [← hW0]; simp
  have hC0 : Ch [] w W0 := by rw [← hW0]; exact ((((Ch.refl [] w).alloc _).alloc _).alloc _).alloc _
  have b0 : W0.heap[w.heap.size]? = some (.cells #[.pointer (some ⟨b, 0, none⟩)] 137 (0, 0)) := by rw [← hW0]; simp [go_sem] <;> omega
  have b1 : W0.heap[w.heap.size + 1]? = some (.cells #[U k] 22 (0, 0)) := by rw [← hW0]; simp [go_sem] <;> omega
  have b2 : W0.heap[w.heap.size + 1 + 1]? = some (.cells #[.bool false] 4 (0, 0)) := by rw [← hW0]; simp [go_sem] <;> omega
  have b3 : W0.heap[w.heap.size + 1 + 1 + 1]? = some (.cells #[.pointer (some ⟨b, 0, none⟩)] 137 (0, 0)) := by rw [← hW0]; simp [go_sem] <;> omega
  have bb := hkeep hC0 hb
  rw [hW0]
  clear hW0 hok0 hok1
  refine range_lawO (n := 1) (xs := xs) rfl enters_slots (Y1 _ W0 bb b3) (fun _ => rfl) (by simp) (by simp <;> omega)
    (fun pre O W => (∀ x, O x ↔ x = w.heap.size + 1 + 1) ∧ pre.any (fun x => t.k x.1 == k) = false ∧ Ch [] w W ∧ W.heap[w.heap.size]? = some (.cells #[.pointer (some ⟨b, 0, none⟩)] 137 (0, 0)) ∧ W.heap[w.heap.size + 1]? = some (.cells #[U k] 22 (0, 0)) ∧ W.heap[w.heap.size + 1 + 1]? = some (.cells #[.bool false] 4 (0, 0)))
    (fun c W => c = .ret ∧ xs.any (fun x => t.k x.1 == k) = true ∧ Ch [] w W ∧ W.heap[w.heap.size + 1 + 1]? = some (.cells #[.bool true] 4 (0, 0)))
    (fun x => x = w.heap.size + 1 + 1) ?hIO ?hI ?hIx ⟨fun _ => Iff.rfl, by simp, hC0, b0, b1, b2⟩ ?a₁ ?assign ?body ?done ?stop
  case assign =>
    intro x W K hK
    gi_wp2
    exact hK
  case hIO =>
    rintro pre O A ⟨h, _, hc, _, _, h2⟩ x hx
    have hx := (h x).1 hx
    subst hx
    exact ⟨.inl (by omega), (Array.getElem?_eq_some_iff.1 h2).1, by simp; omega⟩
  case hI =>
    rintro pre O A B ⟨h0, hd, hc, h1, h2, h3⟩ hAB
    exact ⟨h0, hd, hc.trans2 hAB (by simp <;> omega), hkeepS hAB (by simp; omega) h1, hkeepS hAB (by simp; omega) h2, hkeepS hAB (by simp; omega) h3⟩
  case hIx =>
    rintro c A B ⟨rfl, hd, hc, h2⟩ hAB
    exact ⟨rfl, hd, hc.trans2 hAB (by simp <;> omega), hkeepS hAB (by simp; omega) h2⟩
  case body =>
    rintro pre O x post W hx ⟨h0, hd, hc, h1, h2, h3⟩ hsz
    go_light
    obtain ⟨hx16, -, -, -⟩ := B1.out x (by rw [hx]; simp)
    have hany := any_snoc t k pre post x hd
    rw [← hx] at hany
    obtain ⟨sl, g⟩ := x
    have HA := Lib.hid hany
    have hk7 := hcells_key t s sl hx16
    have hbW := hkeep hc hb
    have hg1 : ∀ g : Gar W, (g.1).heap[w.heap.size]? = some (.cells #[.pointer (some ⟨b, 0, none⟩)] 137 (0, 0)) := fun g => hkeep g.2 h1
    have hg2 : ∀ g : Gar W, (g.1).heap[w.heap.size + 1]? = some (.cells #[U k] 22 (0, 0)) := fun g => hkeep g.2 h2
    have hg3 : ∀ g : Gar W, (g.1).heap[b]? = some (.cells (hcells t s) 141 (0, 0)) := fun g => hkeep g.2 hbW
    have hsl0 : (0 : Int) ≤ (sl : Int) := by omega
    have hsl1 : (sl : Int) < 16 := by omega
    clear hx hany hd Y1 b0 b1 b2 b3 bb hb hbl B1
    simp only at HA
    generalize hkk : t.k sl = kk at *
    cases he : (kk == k)
    all_goals
      gi_wp2
      refine rr_gar (by kernel_rfl) (by kernel_rfl) (by kernel_rfl) (by rintro ⟨a, w, h⟩; exact h) ?_
      repeat (go_big_quiet_step (fail))
      refine wpQuiet_nil ?_
      rintro W6 ⟨g6, hw6⟩
      have hc6 : Ch [] W W6 := by rw [hw6]; exact g6.2
      clear hw6 g6 hg1 hg2 hg3
      have d1 := hkeep hc6 h1
      have d2 := hkeep hc6 h2
      have d3 := hkeep hc6 h3
      gi_wp2
    · refine ⟨⟨O, ⟨h0, HA.out.1.trans he, hc.trans hc6, d1, d2, d3⟩, fun _ h => .inl h⟩, hc6.size, fun b hb _ => hc6.block b hb (by simp)⟩
    · refine ⟨⟨rfl, HA.out.2 he, (hc.trans hc6).setCell (p := ⟨w.heap.size + 1 + 1, 0, none⟩) (.inr (by simp; omega)) _, ?_⟩, fun y hy hn => ?_⟩
      · rw [zaa, if_pos rfl, d3]; rfl
      · rw [zaa, if_neg (fun e => hn ((h0 y).2 e))]; exact hc6.block y hy (by simp)
  case done =>
    rintro O W ⟨h0, hd, hc, h1, h2, h3⟩ hdd
    gi_wp2
    refine marks_ret (v := .bool false) ?_ (zcf Tryz.results265 _ _ _ rfl (zde Tryz.underlying4 rfl _ _ (fr := (0, 0)) (t := 4) ?_)) ⟨by rw [hd], ?_⟩
    · rw [zaa, if_neg (by omega)]; exact hdd
    · simp only [heap_putObj, zaa, h3]; rw [if_neg (by omega)]; simp [zad]
    · exact (hc.setCell (p := ⟨w.heap.size + 1 + 1, 0, none⟩) (.inr (by simp; omega)) _).trans2 (zcc _ _ _) (by simp <;> omega)
  case stop =>
    rintro c W ⟨rfl, hd, hc, h2⟩ hdd
    gi_wp2
    refine marks_ret (v := .bool true) hdd (zcf Tryz.results265 _ _ _ rfl (zde Tryz.underlying4 rfl _ _ (fr := (0, 0)) (t := 4) ?_)) ⟨by rw [hd], ?_⟩
    · rw [heap_putObj, if_neg (by omega)]; exact h2
    · exact hc.trans2 (zcc _ _ _) (by simp <;> omega)
end
section
attribute [local go_sem] Oper.semAt_some zap
attribute [local go_sem] box26 zbx cell0 cell1 cell2 cell3 cell4 zci zch
attribute [local go_sem] cell5 cell6
theorem tset_ctrl (t : Tab) (g : Nat) (hg : g < 2) (x : BitVec 64) : (tcells t).setIfInBounds (5 + g) (U x) = tcells { t with c := fun i => if i = g then x else t.c i } := by
  have h := hset_ctrl t 0#64 g hg x
  have h2 := congrArg (fun a => a.extract 0 39) h
  simp only [zao] at h2
  rw [← h2, ← zao t 0#64]
  apply Array.ext_getElem?; intro i
  by_cases hi : i = 5 + g
  · subst hi
    simp [zav, show 5 + g < 39 by omega]
  · rw [Array.getElem?_setIfInBounds_ne (fun e => hi e.symm), Array.getElem?_extract, Array.getElem?_extract]
    simp only [Array.size_setIfInBounds]
    split
    · rw [Array.getElem?_setIfInBounds_ne (by omega)]
    · rfl
theorem tset5 (t : Tab) (x : BitVec 64) : (tcells t).setIfInBounds 5 (U x) = tcells { t with c := fun i => if i = 0 then x else t.c i } := tset_ctrl t 0 (by omega) x
theorem tset6 (t : Tab) (x : BitVec 64) : (tcells t).setIfInBounds 6 (U x) = tcells { t with c := fun i => if i = 1 then x else t.c i } := tset_ctrl t 1 (by omega) x
theorem zcb (a b : Tab) (T : TypeId) (fr : Nat × Nat) : laidAt 0 (tcells b) (.cells (tcells a) T fr) = .cells (tcells b) T fr := by
  rw [zal, laid_whole _ _ (by rw [zai, zai])]
theorem brow26 (ps : Array (Nat × Value)) : Instr.build 26 ps = buildRow 26 ps := rfl
theorem build_bare (c : BitVec 64) (d : Int) (p : BitVec 64) (w : World) : (buildRow 26 #[(0, U c), (1, I d), (2, U p), (3, .int .i64 14)]).run Tryz.prog w = .ok (.agg (tcells ⟨c, d, p, 14, 0, fun _ => 0#64, fun _ => 0#64, fun _ => 0#64⟩)) w := by kernel_rfl
attribute [local go_sem] tset5 tset6 build_bare
attribute [local go_sem high] zcb
attribute [local go_sem ↓] brow26
theorem tcells_congr {t t' : Tab} (h : ∀ i, i < 39 → t.cell i = t'.cell i) : tcells t = tcells t' := by
  apply Array.ext_getElem?; intro i
  rw [zat, zat]
  by_cases hi : i < 39
  · rw [if_pos hi, if_pos hi, h i hi]
  · rw [if_neg hi, if_neg hi]
theorem bare_cells (c : BitVec 64) (d : Int) (p : BitVec 64) : tcells ⟨c, d, p, 14, 0, fun i => if i = 1 then tops else if i = 0 then tops else 0#64, fun _ => 0#64, fun _ => 0#64⟩ = tcells (bareT c d p) := by
  apply tcells_congr
  intro i _
  unfold Tab.cell bareT
  split <;> first | rfl | skip
theorem bare_any (c : BitVec 64) (d : Int) (p : BitVec 64) (w : World) :
    Calls Tryz.prog 79 #[U c, I d, U p] w fun e w' => e = .returned (.agg (tcells (bareT c d p))) ∧ Ch [] w w' := by
  go_enter Tryz.func79, Tryz.ntmps79
  go_wp2
  refine wp_loop_rounds 3 ?_
  rw [rounds_succ]
  go_wp2_with (go_at_call 143; refine (cnew_any _).mono ?_; rintro e w' ⟨rfl, rfl⟩)
  rw [rounds_succ]
  go_wp2_with (go_at_call 143; refine (cnew_any _).mono ?_; rintro e w' ⟨rfl, rfl⟩)
  rw [rounds_succ]
  go_wp2
  refine bodyPost_ret (v := .agg (tcells (bareT c d p))) (zcf Tryz.results79 _ _ _ rfl (run_loadVar_row _ _ 26 26 (tcells (bareT c d p)) (0, 0) _ ?_ Tryz.underlying26 rfl (by rw [zai]; kernel_rfl))) rfl ⟨rfl, ?_⟩
  · rw [← bare_cells]
    simp [go_sem]
  · exact ((((((Ch.refl [] w).alloc _).alloc _).onObj (.inr (by simp)) _).setCell (p := ⟨w.heap.size + 1, 5, none⟩) (.inr (by simp)) _).setCell (p := ⟨w.heap.size + 1, 6, none⟩) (.inr (by simp)) _).onObj (.inr (by simp)) _
end
section
attribute [local go_sem] Oper.semAt_some zap
attribute [local go_sem] box26 zbx cell0 cell1 cell2 cell3 cell4 zci zch
attribute [local go_sem] cell5 cell6
def pairsT (t : Tab) : List (BitVec 64 × BitVec 64) := (slotsT t).map fun x => (t.k x.1, t.v x.1)
def pcells (l : List (BitVec 64 × BitVec 64)) : List Value := l.flatMap fun p => [U p.1, U p.2]
theorem pcells_snoc (l : List (BitVec 64 × BitVec 64)) (p : BitVec 64 × BitVec 64) : pcells (l ++ [p]) = pcells l ++ [U p.1, U p.2] := by
  simp [pcells]
theorem infoP : (Tryz.prog.info? 31).map (fun i => (i.zero, i.size, i.bytes)) = some (some (.agg #[.int .u64 0, .int .u64 0]), 2, 16) := by kernel_rfl
theorem build_pair (x y : BitVec 64) (w : World) : (Instr.build 31 #[(0, U x), (1, U y)]).run Tryz.prog w = .ok (.agg #[U x, U y]) w := by kernel_rfl
theorem build_slice1 (x y : BitVec 64) (w : World) : (Instr.buildSlice 27 1 #[(0, .agg #[U x, U y])]).run Tryz.prog w = .ok (.slice (some ⟨w.heap.size, 0, none⟩) 1 1) (w.alloc (.cells #[U x, U y] 31)) := by kernel_rfl
attribute [local go_sem] build_pair build_slice1
theorem own_lt {W : World} {base n size : Nat} {e : TypeId} {v : Value} {xs : List Value} (h : W.ownsRow base e size v n xs) {k : Nat} (hk : v.ownBlock = some k) : k < W.heap.size := by
  rcases h.2 with ⟨rfl, _⟩ | ⟨g, cap, cur, rfl, _, hW, _⟩
  · cases hk
  · cases hk; exact (Array.getElem?_eq_some_iff.1 hW).1
theorem cell_two_new (w : World) (x y : Value) (t : TypeId) : ∀ j u, [x, y][j]? = some u → (w.alloc (.cells #[x, y] t)).cell? ((⟨w.heap.size, 0, none⟩ : Addr).add j) = some u := by
  intro j u hj
  have hadd : (⟨w.heap.size, 0, none⟩ : Addr).add j = ⟨w.heap.size, 0 + j, none⟩ := by unfold Addr.add; split <;> simp_all
  rw [hadd, zag, zac, if_pos rfl]
  show (#[x, y] : Array Value)[0 + j]? = some u
  rw [Nat.zero_add]; simpa using hj
theorem wp_append_at {P : Program} {o : Oper} {a : Act} {K : Act → World → Prop} {Q : Exit → Act → World → Prop} (w : World) (s x : Operand) (t : TypeId) (ho : o.op = .call { callee := .builtin .append, args := #[s, x], argTypes := #[t, t] }) (v y v' : Value) (w' : World)
    (hs : a.eval s = v) (hx : a.eval x = y) (hr : (Builtin.append_ #[t, t] o.type #[v, y]).run P w = .ok v' w') (h : K (a.put o.dst v') w') : o.wp P a w K Q := by
  unfold Oper.wp execOp
  simp only [ho, resolve, invoke, builtin, Sem.run_bind, Sem.run_pure, Result.andThen_ok, List.map_toArray, List.map_cons, List.map_nil, hs, hx, hr]
  exact h
theorem pairs_any (t : Tab) (s : BitVec 64) (b : Nat) (w : World) (hok0 : ctrlOk (t.c 0) = true) (hok1 : ctrlOk (t.c 1) = true) (hb : w.heap[b]? = some (.cells (hcells t s) 141 (0, 0))) :
    Calls Tryz.prog 80 #[.pointer (some ⟨b, 0, none⟩)] w fun e w' => ∃ a c, e = .returned (.slice a (pairsT t).length c) ∧ w'.ownsRow w.heap.size 31 2 (.slice a (pairsT t).length c) (pairsT t).length (pcells (pairsT t)) ∧ Ch [] w w' := by
  have hbl := (Array.getElem?_eq_some_iff.1 hb).1
  have Y1 := fun p w hb hp => slots_yields t s b p w hok0 hok1 hb hp
  have B1 := Lib.hid (slots_bound t)
  have XL := Lib.hid (slots_len t)
  obtain ⟨i0, hi, hz0, hz1, hz2⟩ := info_parts infoP
  unfold pairsT
  generalize slotsT t = xs at *
  refine (callsIn_wide (n := 3)).1 ?_
  refine callsIn_of_wp_marks Tryz.func80 rfl trivial ?_
  simp only [Tryz.ntmps80, List.size_toArray, List.length_cons, List.length_nil, Nat.reduceAdd, Nat.reduceSub, Array.replicate_succ, Array.replicate_zero, List.push_toArray, List.append_toArray, List.nil_append, List.cons_append]
  gi_wp2_with (refine ⟨trivial, ?_⟩; gi_at_call 144; refine (inW (slots_make _ _)).mono ?_; rintro e w' ⟨rfl, rfl⟩)
  obtain ⟨W0, hW0⟩ : ∃ W0, ((w.alloc (.cells #[.pointer (some ⟨b, 0, none⟩)] 137)).alloc (.cells #[.slice none 0 0] 27)).alloc (.cells #[.pointer (some ⟨b, 0, none⟩)] 137) = W0 := ⟨_, rfl⟩
  have hs0 : W0.heap.size = w.heap.size + 3 := by rw [← hW0]; simp
  have hC0 : Ch [] w W0 := by rw [← hW0]; exact (((Ch.refl [] w).alloc _).alloc _).alloc _
  have b0 : W0.heap[w.heap.size]? = some (.cells #[.pointer (some ⟨b, 0, none⟩)] 137 (0, 0)) := by rw [← hW0]; simp [go_sem] <;> omega
  have b1 : W0.heap[w.heap.size + 1]? = some (.cells #[.slice none 0 0] 27 (0, 0)) := by rw [← hW0]; simp [go_sem] <;> omega
  have b3 : W0.heap[w.heap.size + 1 + 1]? = some (.cells #[.pointer (some ⟨b, 0, none⟩)] 137 (0, 0)) := by rw [← hW0]; simp [go_sem] <;> omega
  have bb := hkeep hC0 hb
  rw [hW0]
  clear hW0 hok0 hok1
  refine range_lawO (n := 1) (xs := xs) rfl enters_slots (Y1 _ W0 bb b3) (fun _ => rfl) (by simp) (by simp <;> omega)
    (fun pre O W => ∃ v, (∀ x, O x → x = w.heap.size + 1 ∨ v.ownBlock = some x) ∧ (O (w.heap.size + 1) ∧ ∀ x, v.ownBlock = some x → O x) ∧ Ch [] w W ∧ W.heap[w.heap.size]? = some (.cells #[.pointer (some ⟨b, 0, none⟩)] 137 (0, 0)) ∧ W.heap[w.heap.size + 1]? = some (.cells #[v] 27 (0, 0)) ∧
      W.ownsRow (W0.heap.size + 2) 31 2 v pre.length (pcells (pre.map fun x => (t.k x.1, t.v x.1))))
    (fun _ _ => False)
    (fun x => x = w.heap.size + 1) ?hIO ?hI (fun _ _ _ h _ => h.elim) ⟨_, fun x h => .inl h, ⟨rfl, fun x h => by cases h⟩, hC0, b0, b1, World.ownsRow_nil _ _ _ _⟩ ?a₁ ?assign ?body ?done (fun _ _ h _ => h.elim)
  case assign =>
    intro x W K hK
    gi_wp2
    exact hK
  case hIO =>
    rintro pre O A ⟨v, ho, _, hc, h1, h2, h3⟩ x hx
    rcases ho x hx with rfl | hv
    · exact ⟨.inl (by omega), (Array.getElem?_eq_some_iff.1 h2).1, by simp; omega⟩
    · have := own_block h3 x hv
      refine ⟨.inr this, own_lt h3 hv, by simp; omega⟩
  case hI =>
    rintro pre O A B ⟨v, ho, ho2, hc, h1, h2, h3⟩ hAB
    exact ⟨v, ho, ho2, hc.trans2 hAB (by simp <;> omega), hkeepS hAB (by simp; omega) h1, hkeepS hAB (by simp; omega) h2, own_ch h3 hAB (by simp)⟩
  case body =>
    rintro pre O x post W hx ⟨v, ho, ho2, hc, h1, h2, h3⟩ hsz
    go_light
    obtain ⟨hx16, -, -, -⟩ := B1.out x (by rw [hx]; simp)
    have hlen : pre.length + 1 ≤ 16 := by have := XL.out; rw [hx] at this; simp at this; omega
    have hob := own_block h3
    obtain ⟨sl, g⟩ := x
    have hk7 := hcells_key t s sl hx16
    have hv7 := hcells_val t s sl hx16
    have hbW := hkeep hc hb
    have hg1 : ∀ g : Gar W, (g.1).heap[w.heap.size]? = some (.cells #[.pointer (some ⟨b, 0, none⟩)] 137 (0, 0)) := fun g => hkeep g.2 h1
    have hg2 : ∀ g : Gar W, (g.1).heap[w.heap.size + 1]? = some (.cells #[v] 27 (0, 0)) := fun g => hkeep g.2 h2
    have hg3 : ∀ g : Gar W, (g.1).heap[b]? = some (.cells (hcells t s) 141 (0, 0)) := fun g => hkeep g.2 hbW
    have hsl0 : (0 : Int) ≤ (sl : Int) := by omega
    have hsl1 : (sl : Int) < 16 := by omega
    have HBL := Lib.hid hbl
    clear hx Y1 b0 b1 b3 bb hb hbl B1 XL
    gi_wp2
    refine rr_held (fun W' => W'.heap[w.heap.size]? = some (.cells #[.pointer (some ⟨b, 0, none⟩)] 137 (0, 0)) ∧ W'.heap[b]? = some (.cells (hcells t s) 141 (0, 0))) (by kernel_rfl) (by kernel_rfl) (by rintro ⟨a, w, h⟩; exact h) ⟨h1, hbW⟩ ?_
    intro hS
    simp only [List.size_toArray, List.length_cons, List.length_nil, Nat.reduceAdd]
    refine tn 1 ?_ rfl hS ?_ ?_; rotate_left
    · intro wq hSq; obtain ⟨hq1, hq3⟩ := hSq; go_simp; try with_reducible rfl
    try go_frame
    refine tn 2 ?_ rfl hS ?_ ?_; rotate_left
    · intro wq hSq; obtain ⟨hq1, hq3⟩ := hSq; go_simp; try with_reducible rfl
    try go_frame
    refine tn 3 ?_ rfl hS ?_ ?_; rotate_left
    · intro wq hSq; obtain ⟨hq1, hq3⟩ := hSq; go_simp; try with_reducible rfl
    try go_frame
    refine tn 4 ?_ rfl hS ?_ ?_; rotate_left
    · intro wq hSq; obtain ⟨hq1, hq3⟩ := hSq; go_simp; try with_reducible rfl
    try go_frame
    refine tn 5 ?_ rfl hS ?_ ?_; rotate_left
    · intro wq hSq; obtain ⟨hq1, hq3⟩ := hSq; go_simp; try with_reducible rfl
    try go_frame
    refine tn 6 ?_ rfl hS ?_ ?_; rotate_left
    · intro wq hSq; obtain ⟨hq1, hq3⟩ := hSq; go_simp; try with_reducible rfl
    try go_frame
    refine tn 7 ?_ rfl hS ?_ ?_; rotate_left
    · intro wq hSq; obtain ⟨hq1, hq3⟩ := hSq; go_simp; try with_reducible rfl
    try go_frame
    refine tn 8 ?_ rfl hS ?_ ?_; rotate_left
    · intro wq hSq; obtain ⟨hq1, hq3⟩ := hSq; go_simp; try with_reducible rfl
    try go_frame
    refine tn 9 ?_ rfl hS ?_ ?_; rotate_left
    · intro wq hSq; obtain ⟨hq1, hq3⟩ := hSq; go_simp; try with_reducible rfl
    try go_frame
    refine tn 10 ?_ rfl hS ?_ ?_; rotate_left
    · intro wq hSq; obtain ⟨hq1, hq3⟩ := hSq; go_simp; try with_reducible rfl
    try go_frame
    refine tn 11 ?_ rfl hS ?_ ?_; rotate_left
    · intro wq hSq; obtain ⟨hq1, hq3⟩ := hSq; go_simp; try with_reducible rfl
    try go_frame
    refine tn 12 ?_ rfl hS ?_ ?_; rotate_left
    · intro wq hSq; obtain ⟨hq1, hq3⟩ := hSq; go_simp; try with_reducible rfl
    try go_frame
    refine tn 13 ?_ rfl hS ?_ ?_; rotate_left
    · intro wq hSq; obtain ⟨hq1, hq3⟩ := hSq; go_simp; try with_reducible rfl
    try go_frame
    refine tn 14 ?_ rfl hS ?_ ?_; rotate_left
    · intro wq hSq; obtain ⟨hq1, hq3⟩ := hSq; go_simp; try with_reducible rfl
    try go_frame
    refine tn 15 ?_ rfl hS ?_ ?_; rotate_left
    · intro wq hSq; obtain ⟨hq1, hq3⟩ := hSq; go_simp; try with_reducible rfl
    try go_frame
    have hSa : ((W.alloc (.cells #[U (t.k sl), U (t.v sl)] 31)).drew).heap[w.heap.size]? = some (.cells #[.pointer (some ⟨b, 0, none⟩)] 137 (0, 0)) ∧ ((W.alloc (.cells #[U (t.k sl), U (t.v sl)] 31)).drew).heap[b]? = some (.cells (hcells t s) 141 (0, 0)) :=
      ⟨hkeep (((Ch.refl [] W).alloc _).drew) h1, hkeep (((Ch.refl [] W).alloc _).drew) hbW⟩
    have hne : ¬ w.heap.size + 1 = W.heap.size := by have := (Array.getElem?_eq_some_iff.1 h2).1; omega
    have hSd0 : ((W.alloc (.cells #[U (t.k sl), U (t.v sl)] 31)).drew).heap[w.heap.size + 1]? = some (.cells #[v] 27 (0, 0)) := hkeep (((Ch.refl [] W).alloc _).drew) h2
    refine wpAnyH_ready (rs := [0, 16]) (by kernel_rfl) (by simp) ?_
    refine AllReadyH.cons (o := ⟨some 9, .load 27 (.tmp 3), 27, _, _, none⟩) rfl (fun K hK => ?_) (AllReadyH.cons (o := ⟨some 25, .buildSlice 27 1 #[(0, .tmp 24)], 27, _, _, none⟩) rfl (fun K hK => ?_) AllReadyH.nil)
    · go_simp
      refine hK.out _ _ hS (fun hS2 => ?_)
      refine rd (o := ⟨some 25, .buildSlice 27 1 #[(0, .tmp 24)], 27, _, _, none⟩) 16 rfl (fun K hK => ?_); go_simp
      refine hK.out _ _ hSa (fun hS2 => ?_)
      have h3d : ((W.alloc (.cells #[U (t.k sl), U (t.v sl)] 31)).drew).ownsRow (W0.heap.size + 2) 31 2 v pre.length (pcells (pre.map fun x => (t.k x.1, t.v x.1))) := own_ch h3 (((Ch.refl [] W).alloc _).drew) (by simp)
      obtain ⟨v', w1, hrun, hown', hgrow, hnil', hloc⟩ := run_append_own_at (P := Tryz.prog) ((W.alloc (.cells #[U (t.k sl), U (t.v sl)] 31)).drew) (W0.heap.size + 2) 27 27 31 i0 (.agg #[.int .u64 0, .int .u64 0]) 2 16 Tryz.underlying27 hi hz0 hz1 hz2 rfl (by decide) v pre.length _ h3d ⟨W.heap.size, 0, none⟩ 1 1 [U (t.k sl), U (t.v sl)] rfl (cell_two_new W _ _ _) (by simp [Value.oneCell']) (by unfold maxLen; omega) (by omega) (by show _ ≤ (W.alloc _).heap.size; simp; omega)
      refine wpAnyH_ready (rs := [17]) (by kernel_rfl) (by simp) ?_
      refine AllReadyH.cons (o := ⟨some 26, .call { callee := .builtin .append, args := #[.tmp 9, .tmp 25], argTypes := #[27, 27] }, 27, _, _, none⟩) rfl (fun K2 hK2 => ?_) AllReadyH.nil
      rw [if_pos (by rfl)]
      refine wp_append_at _ (.tmp 9) (.tmp 25) 27 rfl v _ v' w1 rfl rfl hrun ?_
      simp only [Act.put, List.setIfInBounds_toArray, List.set_cons_zero, List.set_cons_succ]
      have hgr : ∀ k, k < W.heap.size → v.ownBlock ≠ some k → w1.heap[k]? = W.heap[k]? := fun k hk hne => (hgrow.block k (by show k < (W.alloc _).heap.size; simp; omega) hne.symm).trans (by show (W.alloc _).heap[k]? = _; rw [zac, if_neg (by omega)])
      have e1 : w1.heap[w.heap.size]? = some (.cells #[.pointer (some ⟨b, 0, none⟩)] 137 (0, 0)) := (hgr _ (Array.getElem?_eq_some_iff.1 h1).1 (fun e => by have := hob _ e; omega)).trans h1
      have e2 : w1.heap[w.heap.size + 1]? = some (.cells #[v] 27 (0, 0)) := (hgr _ (Array.getElem?_eq_some_iff.1 h2).1 (fun e => by have := hob _ e; omega)).trans h2
      have e3 : w1.heap[b]? = some (.cells (hcells t s) 141 (0, 0)) := (hgr _ (Array.getElem?_eq_some_iff.1 hbW).1 (fun e => by have := hob _ e; have := HBL.out; omega)).trans hbW
      refine hK2.out _ _ ⟨e1, e3⟩ (fun hS3 => ?_)
      refine wpAnyH_ready (rs := [18]) (by kernel_rfl) (by simp) ?_
      refine AllReadyH.cons (o := ⟨none, .store 27 (.tmp 3) (.tmp 26), 0, _, _, none⟩) rfl (fun K3 hK3 => ?_) AllReadyH.nil
      obtain ⟨g', cap', rfl⟩ := ownsRow_succ hown'
      go_simp
      refine hK3.out _ _ ⟨by rw [zaa, if_neg (by omega)]; exact e1, by rw [zaa, if_neg (by have := HBL.out; omega)]; exact e3⟩ (fun _ => ?_)
      refine wpAnyH_done (by kernel_rfl) ?_ _
      gi_wp2
      have hz := hc.size
      have hloc : some g' = v.ownBlock ∨ g' = W.heap.size + 1 := by
        rcases hloc with h | h
        · exact .inl h
        · right; simpa [Value.ownBlock] using h
      have hW1 : Ch (v.ownBlock.toList) W w1 := (((Ch.refl [] W).alloc _).drew.of_nil).trans2 (Ch.of_grown (S := v.ownBlock.toList) hgrow (fun k hk => by simp [hk])) (fun t ht => .inl ht)
      have hS : ∀ s ∈ v.ownBlock.toList, W0.heap.size + 2 ≤ s := fun s hs => hob s (by simpa using hs)
      have hc1 : Ch [] w w1 := hc.trans2 hW1 (fun t ht => .inr (by have := hS t ht; omega))
      have hw1 := hW1.size
      refine ⟨⟨fun y => y = w.heap.size + 1 ∨ y = g', ⟨.slice (some ⟨g', 0, none⟩) (pre.length + 1) cap', ?_, ⟨.inl rfl, fun x hx => .inr (by simpa [Value.ownBlock] using hx.symm)⟩, hc1.setCell (p := ⟨w.heap.size + 1, 0, none⟩) (.inr (by simp)) _, ?_, ?_, ?_⟩, ?_⟩, by rw [zan]; omega, ?_⟩
      · rintro x (rfl | rfl)
        · exact .inl rfl
        · exact .inr rfl
      · rw [zaa, if_neg (by omega)]
        exact e1
      · rw [zaa, if_pos rfl, e2]; rfl
      · have := own_ch (S := [w.heap.size + 1]) hown' ((Ch.refl _ w1).setCell (p := ⟨w.heap.size + 1, 0, none⟩) (.inl (by simp)) (.slice (some ⟨g', 0, none⟩) (pre.length + 1) cap')) (by simp; omega)
        rw [List.map_append, List.map_cons, List.map_nil, pcells_snoc, List.length_append]
        exact this
      · rintro x (rfl | rfl)
        · exact .inl ho2.1
        · rcases hloc with h | h
          · exact .inl (ho2.2 _ h.symm)
          · right; omega
      · intro y hy hn
        have hy1 : y ≠ w.heap.size + 1 := fun e => hn (e ▸ ho2.1)
        rw [zaa, if_neg hy1]
        exact hW1.block y hy (fun hs => hn (ho2.2 y (by simpa using hs)))
    · go_simp
      refine hK.out _ _ hSa (fun hS2 => ?_)
      refine rd (o := ⟨some 9, .load 27 (.tmp 3), 27, _, _, none⟩) 0 rfl (fun K hK => ?_); go_simp
      refine hK.out _ _ hSa (fun hS2 => ?_)
      have h3d : ((W.alloc (.cells #[U (t.k sl), U (t.v sl)] 31)).drew).ownsRow (W0.heap.size + 2) 31 2 v pre.length (pcells (pre.map fun x => (t.k x.1, t.v x.1))) := own_ch h3 (((Ch.refl [] W).alloc _).drew) (by simp)
      obtain ⟨v', w1, hrun, hown', hgrow, hnil', hloc⟩ := run_append_own_at (P := Tryz.prog) ((W.alloc (.cells #[U (t.k sl), U (t.v sl)] 31)).drew) (W0.heap.size + 2) 27 27 31 i0 (.agg #[.int .u64 0, .int .u64 0]) 2 16 Tryz.underlying27 hi hz0 hz1 hz2 rfl (by decide) v pre.length _ h3d ⟨W.heap.size, 0, none⟩ 1 1 [U (t.k sl), U (t.v sl)] rfl (cell_two_new W _ _ _) (by simp [Value.oneCell']) (by unfold maxLen; omega) (by omega) (by show _ ≤ (W.alloc _).heap.size; simp; omega)
      refine wpAnyH_ready (rs := [17]) (by kernel_rfl) (by simp) ?_
      refine AllReadyH.cons (o := ⟨some 26, .call { callee := .builtin .append, args := #[.tmp 9, .tmp 25], argTypes := #[27, 27] }, 27, _, _, none⟩) rfl (fun K2 hK2 => ?_) AllReadyH.nil
      rw [if_pos (by rfl)]
      refine wp_append_at _ (.tmp 9) (.tmp 25) 27 rfl v _ v' w1 rfl rfl hrun ?_
      simp only [Act.put, List.setIfInBounds_toArray, List.set_cons_zero, List.set_cons_succ]
      have hgr : ∀ k, k < W.heap.size → v.ownBlock ≠ some k → w1.heap[k]? = W.heap[k]? := fun k hk hne => (hgrow.block k (by show k < (W.alloc _).heap.size; simp; omega) hne.symm).trans (by show (W.alloc _).heap[k]? = _; rw [zac, if_neg (by omega)])
      have e1 : w1.heap[w.heap.size]? = some (.cells #[.pointer (some ⟨b, 0, none⟩)] 137 (0, 0)) := (hgr _ (Array.getElem?_eq_some_iff.1 h1).1 (fun e => by have := hob _ e; omega)).trans h1
      have e2 : w1.heap[w.heap.size + 1]? = some (.cells #[v] 27 (0, 0)) := (hgr _ (Array.getElem?_eq_some_iff.1 h2).1 (fun e => by have := hob _ e; omega)).trans h2
      have e3 : w1.heap[b]? = some (.cells (hcells t s) 141 (0, 0)) := (hgr _ (Array.getElem?_eq_some_iff.1 hbW).1 (fun e => by have := hob _ e; have := HBL.out; omega)).trans hbW
      refine hK2.out _ _ ⟨e1, e3⟩ (fun hS3 => ?_)
      refine wpAnyH_ready (rs := [18]) (by kernel_rfl) (by simp) ?_
      refine AllReadyH.cons (o := ⟨none, .store 27 (.tmp 3) (.tmp 26), 0, _, _, none⟩) rfl (fun K3 hK3 => ?_) AllReadyH.nil
      obtain ⟨g', cap', rfl⟩ := ownsRow_succ hown'
      go_simp
      refine hK3.out _ _ ⟨by rw [zaa, if_neg (by omega)]; exact e1, by rw [zaa, if_neg (by have := HBL.out; omega)]; exact e3⟩ (fun _ => ?_)
      refine wpAnyH_done (by kernel_rfl) ?_ _
      gi_wp2
      have hz := hc.size
      have hloc : some g' = v.ownBlock ∨ g' = W.heap.size + 1 := by
        rcases hloc with h | h
        · exact .inl h
        · right; simpa [Value.ownBlock] using h
      have hW1 : Ch (v.ownBlock.toList) W w1 := (((Ch.refl [] W).alloc _).drew.of_nil).trans2 (Ch.of_grown (S := v.ownBlock.toList) hgrow (fun k hk => by simp [hk])) (fun t ht => .inl ht)
      have hS : ∀ s ∈ v.ownBlock.toList, W0.heap.size + 2 ≤ s := fun s hs => hob s (by simpa using hs)
      have hc1 : Ch [] w w1 := hc.trans2 hW1 (fun t ht => .inr (by have := hS t ht; omega))
      have hw1 := hW1.size
      refine ⟨⟨fun y => y = w.heap.size + 1 ∨ y = g', ⟨.slice (some ⟨g', 0, none⟩) (pre.length + 1) cap', ?_, ⟨.inl rfl, fun x hx => .inr (by simpa [Value.ownBlock] using hx.symm)⟩, hc1.setCell (p := ⟨w.heap.size + 1, 0, none⟩) (.inr (by simp)) _, ?_, ?_, ?_⟩, ?_⟩, by rw [zan]; omega, ?_⟩
      · rintro x (rfl | rfl)
        · exact .inl rfl
        · exact .inr rfl
      · rw [zaa, if_neg (by omega)]
        exact e1
      · rw [zaa, if_pos rfl, e2]; rfl
      · have := own_ch (S := [w.heap.size + 1]) hown' ((Ch.refl _ w1).setCell (p := ⟨w.heap.size + 1, 0, none⟩) (.inl (by simp)) (.slice (some ⟨g', 0, none⟩) (pre.length + 1) cap')) (by simp; omega)
        rw [List.map_append, List.map_cons, List.map_nil, pcells_snoc, List.length_append]
        exact this
      · rintro x (rfl | rfl)
        · exact .inl ho2.1
        · rcases hloc with h | h
          · exact .inl (ho2.2 _ h.symm)
          · right; omega
      · intro y hy hn
        have hy1 : y ≠ w.heap.size + 1 := fun e => hn (e ▸ ho2.1)
        rw [zaa, if_neg hy1]
        exact hW1.block y hy (fun hs => hn (ho2.2 y (by simpa using hs)))
  case done =>
    rintro O W ⟨v, ho, ho2, hc, h1, h2, h3⟩ hd
    gi_wp2
    obtain ⟨a, c, hv⟩ : ∃ a c, v = .slice a xs.length c := by
      obtain ⟨_, ⟨rfl, h0⟩ | ⟨g, cap, cur, hv, _⟩⟩ := h3
      · exact ⟨none, 0, by rw [h0]⟩
      · exact ⟨_, _, hv⟩
    subst hv
    refine marks_ret (v := .slice a xs.length c) hd (results_tmp Tryz.results80 _ _ _) ⟨a, c, by simp, ?_, hc.trans2 (zcc _ _ _) (by simp <;> omega)⟩
    have := own_mono (own_ch h3 (zcc W W0.heap.size (.deferred none)) (by simp <;> omega)) (base' := w.heap.size) (by omega)
    simpa using this
end
section
attribute [local go_sem] Oper.semAt_some zap
theorem readC_at (t : Tab) (v : Value) (h : 39 < (readC t v).size) : (readC t v)[39] = v := by simp [readC]
attribute [local irreducible] readC
attribute [local go_sem] readC_at readC_39 readC_one readC_table readC_size rset_rest rset_count zdl rset_pre rset_can rset_live
theorem next_any (t : Tab) (r g o n c m : Nat) (hm : m ≤ n) (hnc : n ≤ c) (hmc : m < c) (hc : c ≤ 9223372036854775807) (w : World) (hr : w.heap[r]? = some (.cells (readC t (.slice (some ⟨g, o, none⟩) n c)) 170 (0, 0))) :
    Calls Tryz.prog 106 #[.pointer (some ⟨r, 0, none⟩), I (m : Nat)] w fun e w' => e = .returned (.slice (some ⟨g, o, none⟩) m m) ∧ w'.heap[r]? = some (.cells (readC t (.slice (some ⟨g, o + m, none⟩) (n - m) (c - m))) 170 (0, 0)) ∧ Ch [r] w w' := by
  have h1 : (m : Int) ≤ n := by omega
  have h2 : (n : Int) ≤ c := by omega
  have h3 : (c : Int) ≤ 9223372036854775807 := by omega
  have h4 : ¬ c - m = 0 := by omega
  go_enter Tryz.func106, Tryz.ntmps106
  go_wp2_with (go_at_call 107; refine (lneed_yes _).mono ?_; rintro e w' ⟨rfl, rfl⟩)
  go_ret
  refine ⟨rfl, ?_, (Ch.refl [r] w).setCell (p := ⟨r, 39, none⟩) (.inl (by simp)) _⟩
  simp [go_sem, hr]
theorem nz_any (x : BitVec 64) (w : World) : Calls Tryz.prog 111 #[U x] w fun e w' => e = .returned (.bool (x != 0#64)) ∧ w = w' := by
  have h : (N x != 0) = (x != 0#64) := neN x 0#64
  go_enter Tryz.func111, Tryz.ntmps111
  go_wp2
  go_ret
  exact ⟨by first | rfl | rw [h], rfl⟩
theorem indexNz_any (g o c : Nat) (cur : Array Value) (T : TypeId) (x y : BitVec 64) (w : World) (hb : w.heap[g]? = some (.cells cur T (0, 0))) (h0 : cur[o]? = some (U x)) (h1 : cur[o + 1]? = some (U y)) :
    Calls Tryz.prog 164 #[.slice (some ⟨g, o, none⟩) 2 c, .func (.func 111) #[] #[]] w fun e w' => ∃ n : Int, e = .returned (I n) ∧ decide (0 ≤ n) = (x != 0#64 || y != 0#64) ∧ w = w' := by
  have X := fun w => nz_any x w
  have Y := fun w => nz_any y w
  generalize (x != 0#64) = p at *
  generalize (y != 0#64) = q at *
  cases p with
  | true =>
    go_enter Tryz.func164, Tryz.ntmps164
    go_wp2
    refine wp_loop_rounds 1 ?_
    rw [rounds_succ]
    go_wp2_with fail
    refine (X _).mono ?_
    rintro e w' ⟨rfl, rfl⟩
    go_wp2
    go_ret
    exact ⟨0, rfl, rfl, rfl⟩
  | false =>
    cases q with
    | true =>
      go_enter Tryz.func164, Tryz.ntmps164
      go_wp2
      refine wp_loop_rounds 2 ?_
      rw [rounds_succ]
      go_wp2_with fail
      refine (X _).mono ?_
      rintro e w' ⟨rfl, rfl⟩
      go_wp2
      rw [rounds_succ]
      go_wp2_with fail
      refine (Y _).mono ?_
      rintro e w' ⟨rfl, rfl⟩
      go_wp2
      go_ret
      exact ⟨1, rfl, rfl, rfl⟩
    | false =>
      go_enter Tryz.func164, Tryz.ntmps164
      go_wp2
      refine wp_loop_rounds 3 ?_
      rw [rounds_succ]
      go_wp2_with fail
      refine (X _).mono ?_
      rintro e w' ⟨rfl, rfl⟩
      go_wp2
      rw [rounds_succ]
      go_wp2_with fail
      refine (Y _).mono ?_
      rintro e w' ⟨rfl, rfl⟩
      go_wp2
      rw [rounds_succ]
      go_wp2
      go_ret
      exact ⟨-1, rfl, rfl, rfl⟩
theorem containsNz_any (g o c : Nat) (cur : Array Value) (T : TypeId) (x y : BitVec 64) (w : World) (hb : w.heap[g]? = some (.cells cur T (0, 0))) (h0 : cur[o]? = some (U x)) (h1 : cur[o + 1]? = some (U y)) :
    Calls Tryz.prog 110 #[.slice (some ⟨g, o, none⟩) 2 c, .func (.func 111) #[] #[]] w fun e w' => e = .returned (.bool (x != 0#64 || y != 0#64)) ∧ w = w' := by
  have I1 := indexNz_any g o c cur T x y w hb h0 h1
  generalize (x != 0#64 || y != 0#64) = r at *
  go_enter Tryz.func110, Tryz.ntmps110
  go_wp2_with fail
  refine I1.mono ?_
  rintro e w1 ⟨n, rfl, hn, rfl⟩
  have HN := Lib.hid hn
  clear hn
  go_wp2
  all_goals
    go_ret
    refine ⟨?_, rfl⟩
    rw [← HN.out]
    first | rfl | (simp; done) | (simp; omega)
end
end Go.Proofs.Hc
