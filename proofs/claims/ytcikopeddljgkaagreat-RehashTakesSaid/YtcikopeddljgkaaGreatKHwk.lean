/- Package table: the exported functions that look at a table. -/
import Derived.Test.YtcikopeddljgkaaGreatKHtj
import Derived.Test.YtcikopeddljgkaaGreatK0
set_option linter.unusedSimpArgs false
set_option linter.unusedVariables false
set_option maxHeartbeats 1000000
set_option maxRecDepth 100000
namespace Go.Proofs.Hc
open Go.RowKit
attribute [local go_sem] zbs zca zax zbc zbn zba zbm zbo zbu signed64 signed8 zar BitVec.ofInt_add BitVec.ofInt_mul ofInt_sub' zay zaz wide8 eqN neN zbz shr1 shr7 shr56
attribute [local go_sem high] zbb zbt
attribute [local go_sem] zag zbw zah zas zad zbe zaq zal zbl zan zbd zbf
attribute [local go_sem] load26 load73 load23 store26 build73
attribute [local go_sem ↓] lrow26 lrow73 lrow23 srow26 zero26 brow73 zac zaw zbg zaa zab
attribute [local go_sem] zai zav zat zbj zbk zbp zao zau zbq zbi zbh
attribute [local go_sem] nn2 nm2 nn3 nm3 nn4 nm4 nn5 nm5 nn6 nm6 nn7 nm7 nn8 nm8
section
attribute [local go_sem] loadA loadT2 storeA storeT2 zdj zdk zcj zdi zcd zce zct zcl zcy zco zcg zcz zcp zdh zdg
attribute [local go_sem ↓] lrowA lrowT2 srowA srowT2 browA zdf zcx
attribute [local go_sem] Oper.semAt_some zap zby
attribute [local go_sem] box26 zbx cell0 cell1 cell2 cell3 cell4 zci zch
attribute [local go_sem] cell5 cell6
theorem enters_pairs (args : Array Value) (w : World) : (callFunc 80 args).run Tryz.prog w = .ok (.enter 80 args) w := by kernel_rfl
theorem may_ok {t : Tab} {s : BitVec 64} (h : mayT t s = true) : ctrlOk (t.c 0) = true ∧ ctrlOk (t.c 1) = true := by
  rw [mayT] at h
  simp only [Bool.and_eq_true] at h
  exact h.1.1.1.2
end
section
attribute [local go_sem] loadA loadT2 storeA storeT2 zdj zdk zcj zdi zcd zce zct zcl zcy zco zcg zcz zcp zdh zdg
attribute [local go_sem ↓] lrowA lrowT2 srowA srowT2 browA zdf zcx
attribute [local go_sem] Oper.semAt_some zap zby
attribute [local go_sem] box26 zbx cell0 cell1 cell2 cell3 cell4 zci zch
attribute [local go_sem] cell5 cell6
def ifMay {α : Type} (t : Tab) (s : BitVec 64) (r : Except Int α) : Except Int α := if mayT t s then r else .error 270
def placeV (r : Except Int Nat) : Value := match r with
  | .ok n => .tuple #[I n, I 0]
  | .error c => .tuple #[I 0, I c]
theorem acells_idx (a : At) (i : Nat) (h : i < (acells a).size) : (acells a)[i] = if i = 39 then I a.slot else if i = 40 then I a.many else a.t.cell i := by simp [acells]
attribute [local go_sem] acells_idx
end
section
attribute [local go_sem] loadA loadT2 storeA storeT2 zdj zdk zcj zdi zcd zce zct zcl zcy zco zcg zcz zcp zdh zdg
attribute [local go_sem ↓] lrowA lrowT2 srowA srowT2 browA zdf zcx
attribute [local go_sem] Oper.semAt_some zap zby
attribute [local go_sem] box26 zbx cell0 cell1 cell2 cell3 cell4 zci zch
attribute [local go_sem] cell5 cell6 acells_idx
attribute [local go_sem high] zcb
theorem laidAt_a (a b : At) (T : TypeId) (fr : Nat × Nat) : laidAt 0 (acells b) (.cells (acells a) T fr) = .cells (acells b) T fr := by
  rw [zal, laid_whole _ _ (by rw [zcd, zcd])]
attribute [local go_sem high] laidAt_a
theorem may_okT {t : Tab} {s : BitVec 64} (h : mayT t s = true) : OkT t 0 := by
  obtain ⟨h0, h1⟩ := may_ok h
  rw [mayT] at h
  simp only [Bool.and_eq_true, beq_iff_eq] at h
  obtain ⟨⟨⟨⟨hf, _⟩, _⟩, hl⟩, hc⟩ := h
  have := slots_len t
  refine ⟨h0, h1, ?_, ?_⟩ <;> (rw [flatT] at hf; simp only [Bool.and_eq_true, decide_eq_true_eq] at hf; omega)
end
section
attribute [local go_sem] loadA loadT2 storeA storeT2 zdj zdk zcj zdi zcd zce zct zcl zcy zco zcg zcz zcp zdh zdg
attribute [local go_sem ↓] lrowA lrowT2 srowA srowT2 browA zdf zcx
attribute [local go_sem] Oper.semAt_some zap zby
attribute [local go_sem] box26 zbx cell0 cell1 cell2 cell3 cell4 zci zch
attribute [local go_sem] cell5 cell6
attribute [local go_sem high] zcb
theorem scan_mem (f : Nat → Bool) : ∀ (l : List Nat) (n : Nat) (y : Nat × Nat), scan f n l = some y → y.1 ∈ l ∧ f y.1 = true
  | [], n, y, h => by cases h
  | x :: l, n, y, h => by
    rw [scan] at h
    by_cases hf : f x = true
    · rw [if_pos hf] at h
      cases h
      exact ⟨by simp, hf⟩
    · rw [if_neg hf] at h
      obtain ⟨h1, h2⟩ := scan_mem f l (n + 1) y h
      exact ⟨by simp [h1], h2⟩
theorem cand_lt {t : Tab} {s k : BitVec 64} {h2 : BitVec 8} {j : Nat} (h : j ∈ (rowT t s k).flatMap (candG t h2)) : j < 16 := by
  obtain ⟨g, hg, hj⟩ := List.mem_flatMap.1 h
  have := row_bound t s k g hg
  unfold candG at hj
  obtain ⟨x, hx, rfl⟩ := List.mem_map.1 hj
  have := ((mem_lanes _ _).1 hx).1
  omega
theorem foundT_lt {t : Tab} {s k : BitVec 64} {y : Nat × Nat} (h : foundT t s k = some y) : y.1 < 16 := cand_lt (scan_mem _ _ _ _ h).1
theorem foundE_lt {t : Tab} {s k : BitVec 64} {y : Nat × Nat} (h : foundE t s k = .ok y) : y.1 < 16 := by
  rw [foundE_eq] at h
  cases hf : foundT t s k with
  | none => rw [hf] at h; cases h
  | some z => rw [hf] at h; cases h; exact foundT_lt hf
theorem tup26 (r : Except Int Tab) : ∃ (y : Tab) (c : Int), tupOr (fun v => Value.agg (tcells v)) (.agg (tcells zeroT)) r = .tuple #[.agg (tcells y), I c] := by
  cases r with
  | error c => exact ⟨zeroT, c, rfl⟩
  | ok y => exact ⟨y, 0, rfl⟩
theorem results_c0t {P : Program} {fn : Func} {p q : Tmp} {T1 : TypeId} (h : fn.results = #[.cell p T1, .tmp q]) (tmps : Array Value) (a : Addr) (w : World) {x y : Value}
    (hp : tmps.getD p undef = .pointer (some a)) (hq : tmps.getD q undef = y) (h1 : (loadVar T1 a).run P w = .ok x w) :
    (results fn tmps).run P w = .ok (.tuple #[x, y]) w := by
  have hp' : tmps[p]?.getD undef = .pointer (some a) := by simpa using hp
  have hq' : tmps[q]?.getD undef = y := by simpa using hq
  simp [results, h, hp', hq', asAddr, h1]
end
section
attribute [local go_sem] loadA loadT2 storeA storeT2 zdj zdk zcj zdi zcd zce zct zcl zcy zco zcg zcz zcp zdh zdg
attribute [local go_sem ↓] lrowA lrowT2 srowA srowT2 browA zdf zcx
attribute [local go_sem] Oper.semAt_some zap zby
attribute [local go_sem] box26 zbx cell0 cell1 cell2 cell3 cell4 zci zch
attribute [local go_sem] cell5 cell6
attribute [local go_sem high] zcb
theorem enters_puts1 (args : Array Value) (w : World) : (callFunc 85 args).run Tryz.prog w = .ok (.enter 85 args) w := by kernel_rfl
theorem puts1_any (t : Tab) (s : BitVec 64) (l : List (BitVec 64 × BitVec 64)) (a : Option Addr) (c : Nat) (cur : Array Value) (b p : Nat) (w : World) (hok : OkT t 0) (hn : l.length ≤ 900)
    (hb : w.heap[b]? = some (.cells (hcells t s) 141 (0, 0))) (hp : w.heap[p]? = some (.cells #[.slice a l.length c] 27 (0, 0)))
    (hpa : PairsAt cur l) (ha : 0 < l.length → ∃ r, a = some ⟨r, 0, none⟩) (hr : ∀ r, a = some ⟨r, 0, none⟩ → w.heap[r]? = some (.cells cur 31 (0, 0))) :
    Calls Tryz.prog 85 #[.pointer (some ⟨b, 0, none⟩), .pointer (some ⟨p, 0, none⟩)] w fun e w' => e = retOr (fun y => .agg (tcells y)) (laidT s t l) ∧ Ch [] w w' := by
  have hbl := (Array.getElem?_eq_some_iff.1 hb).1
  have hpl := (Array.getElem?_eq_some_iff.1 hp).1
  obtain ⟨W0, hW0⟩ : ∃ W0, w.alloc (.cells (tcells zeroT) 26) = W0 := ⟨_, rfl⟩
  have hC0 : Ch [] w W0 := by rw [← hW0]; exact (Ch.refl [] w).alloc _
  have b0 : W0.heap[w.heap.size]? = some (.cells (tcells zeroT) 26 (0, 0)) := by rw [← hW0]; simp [go_sem]
  have bb := hkeep hC0 hb
  have bp := hkeep hC0 hp
  have hgb : ∀ q : Gar W0, (q.1).heap[b]? = some (.cells (hcells t s) 141 (0, 0)) := fun q => hkeep q.2 bb
  have hgp : ∀ q : Gar W0, (q.1).heap[p]? = some (.cells #[.slice a l.length c] 27 (0, 0)) := fun q => hkeep q.2 bp
  have L1 : ∀ (W : World), Ch [] w W → W.heap[b]? = some (.cells (hcells t s) 141 (0, 0)) → Calls Tryz.prog 78 #[.pointer (some ⟨b, 0, none⟩), .agg (tcells t), .slice a l.length c] W fun e w' => e = retOr (fun x => .agg (tcells x)) (laidT s t l) ∧ Ch [] W w' :=
    fun W hc hb => laid_walk t t s l 0 a c cur b W hok (by omega) hb hpa ha (fun r hra => hkeep hc (hr r hra))
  generalize laidT s t l = r at *
  generalize l.length = n at *
  clear hr ha hpa hb hp hn hok hbl hpl bb bp
  go_enter Tryz.func85, Tryz.ntmps85
  go_wp2
  refine zcw 6 (by kernel_rfl) (by kernel_rfl) ?_
  simp only [List.take_succ_cons, List.take_zero, List.drop_succ_cons, List.drop_zero]
  repeat (go_big_quiet_step (fail))
  refine wpQuiet_nil ?_
  rintro W6 ⟨g6, hw6⟩
  have hc6 : Ch [] W0 W6 := by rw [hw6]; exact g6.2
  have e0 := hkeep hc6 b0
  have eb : W6.heap[b]? = some (.cells (hcells t s) 141 (0, 0)) := by rw [hw6]; exact hgb g6
  clear hw6 g6 hgb hgp b0
  have hCw : Ch [] w W6 := hC0.trans hc6
  cases r with
  | error e =>
    go_wp2_with (go_at_call 78; refine (L1 _ hCw eb).mono ?_; rintro e w1 ⟨rfl, hc1⟩; simp only [retOr])
    exact ⟨rfl, rfl, hCw.trans hc1⟩
  | ok y =>
    go_wp2_with (go_at_call 78; refine (L1 _ hCw eb).mono ?_; rintro e w1 ⟨rfl, hc1⟩; simp only [retOr]; have f0 := hkeep hc1 e0)
    refine bodyPost_ret (v := .agg (tcells y)) (zcf Tryz.results85 _ _ _ rfl (run_loadVar_row _ _ 26 26 (tcells y) (0, 0) _ ?_ Tryz.underlying26 rfl (by rw [zai]; kernel_rfl))) rfl ⟨rfl, ?_⟩
    · simp only [zab, if_true, f0, Option.map_some, zcb]
    · exact (hCw.trans hc1).onObj (.inr (Nat.le_refl _)) _
theorem Puts_any (t : Tab) (s : BitVec 64) (l : List (BitVec 64 × BitVec 64)) (a : Option Addr) (c : Nat) (cur : Array Value) (w : World) (hn : l.length ≤ 900)
    (hpa : PairsAt cur l) (ha : 0 < l.length → ∃ r, a = some ⟨r, 0, none⟩) (hr : ∀ r, a = some ⟨r, 0, none⟩ → w.heap[r]? = some (.cells cur 31 (0, 0))) :
    Calls Tryz.prog 17 #[U s, .agg (tcells t), .slice a l.length c] w fun e w' => e = .returned (tupOr (fun v => .agg (tcells v)) (.agg (tcells zeroT)) (ifMay t s (laidT s t l))) ∧ Ch [] w w' := by
  have T1 : ∀ (w : World) (cap : Array Value), _ → Calls Tryz.prog 76 #[U s, .agg (tcells t), .func (.func 85) #[] cap] w fun e w' => e = .returned (tupOr (fun v => .agg (tcells v)) (.agg (tcells zeroT)) (ifMay t s (laidT s t l))) ∧ Ch [] w w' := fun w cap hd => tries26_any t s 85 cap (laidT s t l) w enters_puts1 hd
  have D1 := fun b p w hok hb hp hr => puts1_any t s l a c cur b p w hok hn hb hp hpa ha hr
  have hm := fun h => may_okT (t := t) (s := s) h
  generalize ifMay t s (laidT s t l) = R at *
  generalize laidT s t l = r at *
  generalize l.length = n at *
  obtain ⟨y, e0, htup⟩ := tup26 R
  rw [htup]
  have HR := Lib.hid hr
  clear hr ha hpa hn
  obtain ⟨W0, hW0⟩ : ∃ W0, ((w.alloc (.cells (tcells t) 26)).alloc (.cells #[.slice a n c] 27)).alloc (.cells (tcells zeroT) 26) = W0 := ⟨_, rfl⟩
  have hC0 : Ch [] w W0 := by rw [← hW0]; exact (((Ch.refl [] w).alloc _).alloc _).alloc _
  have b0 : W0.heap[w.heap.size]? = some (.cells (tcells t) 26 (0, 0)) := by rw [← hW0]; simp [go_sem]
  have b1 : W0.heap[w.heap.size + 1]? = some (.cells #[.slice a n c] 27 (0, 0)) := by rw [← hW0]; simp [go_sem]
  have b2 : W0.heap[w.heap.size + 1 + 1]? = some (.cells (tcells zeroT) 26 (0, 0)) := by rw [← hW0]; simp [go_sem]
  go_enter Tryz.func17, Tryz.ntmps17
  go_wp2_with fail
  refine (T1 W0 #[.pointer (some ⟨w.heap.size + 1, 0, none⟩)] ?_).mono ?_
  · intro hmt b w1 hb hc hle
    refine (D1 b (w.heap.size + 1) w1 (hm hmt) hb (hkeep hc b1) (fun r hra => hkeep (hC0.trans hc) (HR.out r hra))).mono ?_
    rintro e w2 ⟨rfl, hc2⟩
    exact ⟨rfl, hc2.of_nil⟩
  · rintro e w1 ⟨rfl, hc1⟩
    have d2 := hkeep hc1 b2
    clear T1 D1 hm b0 b1 b2
    rw [htup]
    clear htup
    go_wp2
    refine bodyPost_ret (v := .tuple #[.agg (tcells y), I e0]) (results_c0t Tryz.results17 _ _ _ rfl rfl (run_loadVar_row _ _ 26 26 (tcells y) (0, 0) _ ?_ Tryz.underlying26 rfl (by rw [zai]; kernel_rfl))) rfl ⟨rfl, ?_⟩
    · simp only [zab, if_true, d2, Option.map_some, zcb]
    · exact (hC0.trans hc1).onObj (.inr (by omega)) _
end
section
attribute [local go_sem] loadA loadT2 storeA storeT2 zdj zdk zcj zdi zcd zce zct zcl zcy zco zcg zcz zcp zdh zdg
attribute [local go_sem ↓] lrowA lrowT2 srowA srowT2 browA zdf zcx
attribute [local go_sem] Oper.semAt_some zap zby
attribute [local go_sem] box26 zbx cell0 cell1 cell2 cell3 cell4 zci zch
attribute [local go_sem] cell5 cell6
attribute [local go_sem high] zcb
theorem enters_anew1 (args : Array Value) (w : World) : (callFunc 77 args).run Tryz.prog w = .ok (.enter 77 args) w := by kernel_rfl
def anewT (t : Tab) (s : BitVec 64) : Except Int Tab := laidT s (bareT t.count t.depth t.pre) (pairsT t)
theorem bare_ok (c : BitVec 64) (d : Int) (p : BitVec 64) : OkT (bareT c d p) 0 := ⟨by kernel_rfl, by kernel_rfl, by show -((0 : Nat) : Int) ≤ 14 ∧ (14 : Int) ≤ 14; omega, by show (0 : Int) ≤ 0 ∧ (0 : Int) ≤ 14 + ((0 : Nat) : Int); omega⟩
theorem pairs_le (t : Tab) : (pairsT t).length ≤ 16 := by
  have := slots_len t
  unfold pairsT
  rw [List.length_map]; omega
theorem anew1_any (t : Tab) (s : BitVec 64) (b : Nat) (w : World) (hok : OkT t 0)
    (hb : w.heap[b]? = some (.cells (hcells t s) 141 (0, 0))) :
    Calls Tryz.prog 77 #[.pointer (some ⟨b, 0, none⟩)] w fun e w' => e = retOr (fun y => .agg (tcells y)) (anewT t s) ∧ Ch [] w w' := by
  have hbl := (Array.getElem?_eq_some_iff.1 hb).1
  obtain ⟨W0, hW0⟩ : ∃ W0, w.alloc (.cells (tcells zeroT) 26) = W0 := ⟨_, rfl⟩
  have hC0 : Ch [] w W0 := by rw [← hW0]; exact (Ch.refl [] w).alloc _
  have b0 : W0.heap[w.heap.size]? = some (.cells (tcells zeroT) 26 (0, 0)) := by rw [← hW0]; simp [go_sem]
  have bb := hkeep hC0 hb
  have hn := pairs_le t
  have B1 := fun W => bare_any t.count t.depth t.pre W
  have P1 := fun (W : World) hb => pairs_any t s b W hok.c0 hok.c1 hb
  have L1 : ∀ (W : World) a c base, W.ownsRow base 31 2 (.slice a (pairsT t).length c) (pairsT t).length (pcells (pairsT t)) → W.heap[b]? = some (.cells (hcells t s) 141 (0, 0)) →
      Calls Tryz.prog 78 #[.pointer (some ⟨b, 0, none⟩), .agg (tcells (bareT t.count t.depth t.pre)), .slice a (pairsT t).length c] W fun e w' => e = retOr (fun x => .agg (tcells x)) (anewT t s) ∧ Ch [] W w' := by
    intro W a c base hown hb
    obtain ⟨cur, h1, h2, h3⟩ := pairs_at rfl hown
    exact laid_walk t _ s (pairsT t) 0 a c cur b W (bare_ok _ _ _) (by omega) hb h1 h2 (fun r hr => (h3 r hr).2)
  generalize anewT t s = R at *
  generalize pairsT t = l at *
  generalize bareT t.count t.depth t.pre = bare at *
  generalize pcells l = pc at *
  generalize l.length = n at *
  clear hn hok hb hbl
  rcases R with e | y
  all_goals
    go_enter Tryz.func77, Tryz.ntmps77
    go_wp2
    have hS : (fun W' : World => W'.heap[b]? = some (.cells (hcells t s) 141 (0, 0))) W0.drew := bb
    refine wp_region_held_drew (S := fun W' => W'.heap[b]? = some (.cells (hcells t s) 141 (0, 0))) (by kernel_rfl) hS ?_
    intro _
    simp only [List.size_toArray, List.length_cons, List.length_nil, Nat.reduceAdd]
    refine tk 0 3 ?_ rfl bb ?_ ?_; rotate_left
    · intro _ _; go_simp; try with_reducible rfl
    try go_frame
    refine tk 1 4 ?_ rfl bb ?_ ?_; rotate_left
    · intro _ _; go_simp; try with_reducible rfl
    try go_frame
    refine tk 2 5 ?_ rfl bb ?_ ?_; rotate_left
    · intro _ _; go_simp; try with_reducible rfl
    try go_frame
    refine tk 3 6 ?_ rfl bb ?_ ?_; rotate_left
    · intro _ _; go_simp; try with_reducible rfl
    try go_frame
    refine tk 4 7 ?_ rfl bb ?_ ?_; rotate_left
    · intro _ _; go_simp; try with_reducible rfl
    try go_frame
    refine tk 5 8 ?_ rfl bb ?_ ?_; rotate_left
    · intro _ _; go_simp; try with_reducible rfl
    try go_frame
    refine tk 6 9 ?_ rfl bb ?_ ?_; rotate_left
    · intro _ _; go_simp; try with_reducible rfl
    try go_frame
    refine tk 7 10 ?_ rfl bb ?_ ?_; rotate_left
    · intro _ _; go_simp; try with_reducible rfl
    try go_frame
    refine tk 8 11 ?_ rfl bb ?_ ?_; rotate_left
    · intro _ _; go_simp; try with_reducible rfl
    try go_frame
    refine tk 9 12 ?_ rfl bb ?_ ?_; rotate_left
    · intro _ _; go_simp; try with_reducible rfl
    try go_frame
    refine tk 10 13 ?_ rfl bb ?_ ?_; rotate_left
    · intro _ _; go_simp; try with_reducible rfl
    try go_frame
    refine tk 11 14 ?_ rfl bb ?_ ?_; rotate_left
    · intro _ _; go_simp; try with_reducible rfl
    try go_frame
    refine tk 12 15 ?_ rfl bb ?_ ?_; rotate_left
    · intro _ _; go_simp; try with_reducible rfl
    try go_frame
    refine tk 13 16 ?_ rfl bb ?_ ?_; rotate_left
    · intro _ _; go_simp; try with_reducible rfl
    try go_frame
    refine tk 14 17 ?_ rfl bb ?_ ?_; rotate_left
    · intro _ _; go_simp; try with_reducible rfl
    try go_frame
    refine tk 15 18 ?_ rfl bb ?_ ?_; rotate_left
    · intro _ _; go_simp; try with_reducible rfl
    try go_frame
    refine tk 17 20 ?_ rfl bb ?_ ?_; rotate_left
    · intro _ _; go_simp; try with_reducible rfl
    try go_frame
    refine rd 16 rfl (fun K hK => ?_); go_simp
    refine (B1 _).mono ?_
    rintro e W1 ⟨rfl, hc1⟩
    have d1 := hkeep hc1 (show W0.drew.heap[b]? = _ from bb)
    refine hK.out _ _ d1 (fun _ => ?_)
    clear hK K
    refine rd 18 rfl (fun K hK => ?_); go_simp
    refine (P1 _ d1).mono ?_
    rintro e W2 ⟨a, c, rfl, hown, hc2⟩
    have d2 := hkeep hc2 d1
    refine hK.out _ _ d2 (fun _ => ?_)
    clear hK K
    have HL := L1 W2 a c _ hown d2
    have HC2 : Ch [] w W2 := ((hC0.drew).trans hc1).trans hc2
    have f0 := hkeep hc2 (hkeep hc1 (show W0.drew.heap[w.heap.size]? = _ from b0))
    clear hown hc1 hc2 d1 b0 L1 P1 B1
    refine rd 19 rfl (fun K hK => ?_); go_simp
    refine HL.mono ?_
    rintro e W3 ⟨rfl, hc3⟩
    simp only [retOr]
  · exact ⟨rfl, rfl, HC2.trans hc3⟩
  · have d3 := hkeep hc3 d2
    have g0 := hkeep hc3 f0
    refine hK.out _ _ d3 (fun _ => ?_)
    clear hK K
    refine rd (o := ⟨none, .store 26 (.tmp 2) (.tmp 22), 0, _, _, none⟩) 20 rfl (fun K hK => ?_); go_simp
    have hbne : ¬ b = w.heap.size := by intro e; rw [e] at d3; rw [g0] at d3; have := congrArg (fun o => match o with | some (Obj.cells c _ _) => c.size | _ => 0) d3; simp [zav, zai] at this
    have d4 : (World.onObj W3 w.heap.size (laidAt 0 (tcells y))).heap[b]? = some (.cells (hcells t s) 141 (0, 0)) := by rw [zab, if_neg hbne]; exact d3
    refine hK.out _ _ d4 (fun _ => ?_)
    refine wpAnyH_done (by kernel_rfl) ?_ _
    have HC3 := HC2.trans hc3
    clear hK K
    go_wp2
    refine bodyPost_ret (v := .agg (tcells y)) (zcf Tryz.results77 _ _ _ rfl (run_loadVar_row _ _ 26 26 (tcells y) (0, 0) _ ?_ Tryz.underlying26 rfl (by rw [zai]; kernel_rfl))) rfl ⟨rfl, ?_⟩
    · simp only [zab, if_true, g0, Option.map_some, zcb]
    · exact HC3.onObj (.inr (Nat.le_refl _)) _
theorem Anew_any (t : Tab) (s : BitVec 64) (w : World) :
    Calls Tryz.prog 15 #[U s, .agg (tcells t)] w fun e w' => e = .returned (tupOr (fun v => .agg (tcells v)) (.agg (tcells zeroT)) (ifMay t s (anewT t s))) ∧ Ch [] w w' := by
  have T1 : ∀ (w : World) (cap : Array Value), _ → Calls Tryz.prog 76 #[U s, .agg (tcells t), .func (.func 77) #[] cap] w fun e w' => e = .returned (tupOr (fun v => .agg (tcells v)) (.agg (tcells zeroT)) (ifMay t s (anewT t s))) ∧ Ch [] w w' := fun w cap hd => tries26_any t s 77 cap (anewT t s) w enters_anew1 hd
  have D1 := fun b w hok hb => anew1_any t s b w hok hb
  have hm := fun h => may_okT (t := t) (s := s) h
  generalize ifMay t s (anewT t s) = R at *
  generalize anewT t s = r at *
  obtain ⟨y, e0, htup⟩ := tup26 R
  rw [htup]
  obtain ⟨W0, hW0⟩ : ∃ W0, (w.alloc (.cells (tcells t) 26)).alloc (.cells (tcells zeroT) 26) = W0 := ⟨_, rfl⟩
  have hC0 : Ch [] w W0 := by rw [← hW0]; exact ((Ch.refl [] w).alloc _).alloc _
  have b0 : W0.heap[w.heap.size]? = some (.cells (tcells t) 26 (0, 0)) := by rw [← hW0]; simp [go_sem]
  have b2 : W0.heap[w.heap.size + 1]? = some (.cells (tcells zeroT) 26 (0, 0)) := by rw [← hW0]; simp [go_sem]
  go_enter Tryz.func15, Tryz.ntmps15
  go_wp2_with fail
  refine (T1 W0 #[] ?_).mono ?_
  · intro hmt b w1 hb hc hle
    refine (D1 b w1 (hm hmt) hb).mono ?_
    rintro e w2 ⟨rfl, hc2⟩
    exact ⟨rfl, hc2.of_nil⟩
  · rintro e w1 ⟨rfl, hc1⟩
    have d2 := hkeep hc1 b2
    clear T1 D1 hm b0 b2
    rw [htup]
    clear htup
    go_wp2
    refine bodyPost_ret (v := .tuple #[.agg (tcells y), I e0]) (results_c0t Tryz.results15 _ _ _ rfl rfl (run_loadVar_row _ _ 26 26 (tcells y) (0, 0) _ ?_ Tryz.underlying26 rfl (by rw [zai]; kernel_rfl))) rfl ⟨rfl, ?_⟩
    · simp only [zab, if_true, d2, Option.map_some, zcb]
    · exact (hC0.trans hc1).onObj (.inr (by omega)) _
end
section
attribute [local go_sem] loadA loadT2 storeA storeT2 zdj zdk zcj zdi zcd zce zct zcl zcy zco zcg zcz zcp zdh zdg
attribute [local go_sem ↓] lrowA lrowT2 srowA srowT2 browA zdf zcx
attribute [local go_sem] Oper.semAt_some zap zby
attribute [local go_sem] box26 zbx cell0 cell1 cell2 cell3 cell4 zci zch
attribute [local go_sem] cell5 cell6
attribute [local go_sem] loadP storeP allOne_pair
attribute [local go_sem ↓] lrowP srowP zeroP
attribute [local go_sem high] zcb laidAt_p
theorem laidAt_t2 (a b : T2) (T : TypeId) (fr : Nat × Nat) : laidAt 0 (t2cells b) (.cells (t2cells a) T fr) = .cells (t2cells b) T fr := by
  rw [zal, laid_whole _ _ (by rw [zce, zce])]
attribute [local go_sem high] laidAt_t2
end
section
attribute [local go_sem] loadA loadT2 storeA storeT2 zdj zdk zcj zdi zcd zce zct zcl zcy zco zcg zcz zcp zdh zdg
attribute [local go_sem ↓] lrowA lrowT2 srowA srowT2 browA zdf zcx
attribute [local go_sem] Oper.semAt_some zap zby
attribute [local go_sem] box26 zbx cell0 cell1 cell2 cell3 cell4 zci zch
attribute [local go_sem] cell5 cell6 acells_idx zcg
attribute [local go_sem high] zcb laidAt_a laidAt_t2
def okOr : Except Int Tab → Tab
  | .ok x => x
  | .error _ => zeroT
theorem okOr_ok (x : Tab) : okOr (.ok x) = x := rfl
end
end Go.Proofs.Hc
