/- Package table: does who looks for a key come to a group? -/
import Derived.Test.YtcikopeddljgkaaGreatKHxh
set_option linter.unusedSimpArgs false
set_option linter.unusedVariables false
set_option maxHeartbeats 1000000
set_option maxRecDepth 100000
namespace Go.Proofs.Hc
open Go.RowKit
attribute [local go_sem] zbv zcb zba zbf zbr zbd zbq zbs zbx signed64 signed8 zap BitVec.ofInt_add BitVec.ofInt_mul ofInt_sub' zbb zbc wide8 eqN neN zca shr1 shr7 shr56
attribute [local go_sem high] zbe zbw
attribute [local go_sem] zaw zby zaj zas zae zay zar zak zbn zam zax zaz
attribute [local go_sem] load26 load73 load23 store26 build73
attribute [local go_sem ↓] lrow26 lrow73 lrow23 srow26 zero26 brow73 zac zbk zbg zaa zab
attribute [local go_sem] zai zav zau zbj zbl zbo zaq zat zbp zbi zbh
attribute [local go_sem] nn2 nm2 nn3 nm3 nn4 nm4 nn5 nm5 nn6 nm6 nn7 nm7 nn8 nm8
section
attribute [local go_sem] Oper.semAt_some zao
attribute [local go_sem] box26 zcc cell0 cell1 cell2 cell3 cell4 zcn zcm
theorem results_cell1 {P : Program} {fn : Func} {p : Tmp} {T1 : TypeId} (h : fn.results = #[.cell p T1]) (tmps : Array Value) (a : Addr) (w : World) {x : Value}
    (hp : tmps.getD p undef = .pointer (some a)) (h1 : (loadVar T1 a).run P w = .ok x w) : (results fn tmps).run P w = .ok x w := by
  have hp' : tmps[p]?.getD undef = .pointer (some a) := by simpa using hp
  simp [results, h, hp', asAddr, h1]
theorem reaches_any (t : Tab) (s k : BitVec 64) (b : Nat) (d : Nat) (w : World) (hok0 : ctrlOk (t.c 0) = true) (hok1 : ctrlOk (t.c 1) = true) (hb : w.heap[b]? = some (.cells (hcells t s) 141 (0, 0))) :
    Calls Tryz.prog 170 #[.pointer (some ⟨b, 0, none⟩), U k, I d] w fun e w' => e = .returned (.bool (decide (d ∈ rowT t s k))) ∧ Ch [] w w' := by
  have hbl := (Array.getElem?_eq_some_iff.1 hb).1
  have Y1 := fun p q w hb hp hq => row_yields t s k b p q w hok0 hok1 hb hp hq
  generalize rowT t s k = xs at *
  refine (callsIn_wide (n := 3)).1 ?_
  refine callsIn_of_wp_marks Tryz.func170 rfl trivial ?_
  simp only [Tryz.ntmps170, List.size_toArray, List.length_cons, List.length_nil, Nat.reduceAdd, Nat.reduceSub, Array.replicate_succ, Array.replicate_zero, List.push_toArray, List.append_toArray, List.nil_append, List.cons_append]
  gi_wp2_with (refine ⟨trivial, ?_⟩; gi_at_call 207; refine (callsIn_wide.2 (row_make _ _ _)).mono ?_; rintro e w' ⟨rfl, rfl⟩)
  obtain ⟨W0, hW0⟩ : ∃ W0, (((w.alloc (.cells #[I d] 3)).alloc (.cells #[.bool false] 4)).alloc (.cells #[.pointer (some ⟨b, 0, none⟩)] 137)).alloc (.cells #[U k] 22) = W0 := ⟨_, rfl⟩
  have hs0 : W0.heap.size = w.heap.size + 4 := by rw [← hW0]; simp
  have hC0 : Ch [] w W0 := by rw [← hW0]; exact ((((Ch.refl [] w).alloc _).alloc _).alloc _).alloc _
  have b0 : W0.heap[w.heap.size]? = some (.cells #[I d] 3 (0, 0)) := by rw [← hW0]; simp [go_sem] <;> omega
  have b1 : W0.heap[w.heap.size + 1]? = some (.cells #[.bool false] 4 (0, 0)) := by rw [← hW0]; simp [go_sem] <;> omega
  have b2 : W0.heap[w.heap.size + 1 + 1]? = some (.cells #[.pointer (some ⟨b, 0, none⟩)] 137 (0, 0)) := by rw [← hW0]; simp [go_sem] <;> omega
  have b3 : W0.heap[w.heap.size + 1 + 1 + 1]? = some (.cells #[U k] 22 (0, 0)) := by rw [← hW0]; simp [go_sem] <;> omega
  have bb := (hC0.block b hbl (by simp)).trans hb
  rw [hW0]
  clear hW0
  refine range_lawO (n := 1) (xs := xs) rfl enters_row (Y1 _ _ W0 bb b2 b3) (fun _ => rfl) (by simp) (by simp <;> omega)
    (fun pre O W => (∀ x, O x ↔ x = w.heap.size + 1) ∧ d ∉ pre ∧ Ch [] w W ∧ W.heap[w.heap.size]? = some (.cells #[I d] 3 (0, 0)) ∧ W.heap[w.heap.size + 1]? = some (.cells #[.bool false] 4 (0, 0)))
    (fun c W => c = .ret ∧ d ∈ xs ∧ Ch [] w W ∧ W.heap[w.heap.size + 1]? = some (.cells #[.bool true] 4 (0, 0)))
    (fun x => x = w.heap.size + 1) ?hIO ?hI ?hIx ⟨fun _ => Iff.rfl, by simp, hC0, b0, b1⟩ ?a₁ ?assign ?body ?done ?stop
  case hIO =>
    rintro pre O A ⟨h, _, hc, _, h2⟩ x hx
    have hx := (h x).1 hx
    subst hx
    exact ⟨.inl (by omega), (Array.getElem?_eq_some_iff.1 h2).1, by simp; omega⟩
  case hI =>
    rintro pre O A B ⟨h0, hd, hc, h1, h2⟩ hAB
    exact ⟨h0, hd, hc.trans2 hAB (by simp <;> omega), (hAB.block _ (Array.getElem?_eq_some_iff.1 h1).1 (by simp <;> omega)).trans h1, (hAB.block _ (Array.getElem?_eq_some_iff.1 h2).1 (by simp <;> omega)).trans h2⟩
  case hIx =>
    rintro c A B ⟨rfl, hd, hc, h2⟩ hAB
    exact ⟨rfl, hd, hc.trans2 hAB (by simp <;> omega), (hAB.block _ (Array.getElem?_eq_some_iff.1 h2).1 (by simp <;> omega)).trans h2⟩
  case a₁ => exact fun x => { tmps := #[.pointer (some ⟨b, 0, none⟩), U k, I d, undef, undef, .pointer (some ⟨w.heap.size, 0, none⟩), .pointer (some ⟨w.heap.size + 1, 0, none⟩), I x, .pointer (some ⟨b, 0, none⟩), U k, .func (.func 258) #[] #[.pointer (some ⟨w.heap.size + 1 + 1, 0, none⟩), .pointer (some ⟨w.heap.size + 1 + 1 + 1, 0, none⟩)], I x, undef, undef, undef], defers := [] }
  case assign =>
    intro x W K hK
    gi_wp2
    exact hK
  case body =>
    rintro pre O x post W hx ⟨h0, hd, hc, h1, h2⟩ hsz
    have HX := Lib.hid hx
    clear hx
    by_cases hxd : x = d
    · subst hxd
      have he : (decide ((x : Int) = x)) = true := by simp
      gi_wp2
      refine ⟨⟨rfl, by rw [HX.out]; simp, hc.setCell (p := ⟨w.heap.size + 1, 0, none⟩) (.inr (by simp)) _, ?_⟩, fun y _ hy => ?_⟩
      · rw [zaa, if_pos rfl, h2]; rfl
      · rw [zaa, if_neg (fun e => hy ((h0 y).2 e))]
    · have he : ((x : Int) == (d : Int)) = false := by simp; omega
      gi_wp2
      exact ⟨⟨O, ⟨h0, by simp [hd]; omega, hc, h1, h2⟩, fun _ h => .inl h⟩, Nat.le_refl _, fun _ _ _ => rfl⟩
  case done =>
    rintro O W ⟨h0, hd, hc, h1, h2⟩ hdd
    gi_wp2
    refine marks_ret (v := .bool false) ?_ (results_cell1 Tryz.results170 _ _ _ rfl (load_one Tryz.underlying4 rfl _ _ (fr := (0, 0)) (t := 4) ?_)) ⟨by simp [hd], ?_⟩
    · rw [zaa, if_neg (by omega)]; exact hdd
    · simp only [heap_putObj, zaa, h2]; rw [if_neg (by omega)]; simp [zae]
    · exact (hc.setCell (p := ⟨w.heap.size + 1, 0, none⟩) (.inr (by simp)) _).trans2 (zcg _ _ _) (by simp <;> omega)
  case stop =>
    rintro c W ⟨rfl, hd, hc, h2⟩ hdd
    gi_wp2
    refine marks_ret (v := .bool true) hdd (results_cell1 Tryz.results170 _ _ _ rfl (load_one Tryz.underlying4 rfl _ _ (fr := (0, 0)) (t := 4) ?_)) ⟨by simp [hd], ?_⟩
    · rw [heap_putObj, if_neg (by omega)]; exact h2
    · exact hc.trans2 (zcg _ _ _) (by simp <;> omega)
end
section
attribute [local go_sem] Oper.semAt_some zao
attribute [local go_sem] box26 zcc cell0 cell1 cell2 cell3 cell4 zcn zcm
attribute [local go_sem] cell5 cell6
attribute [local go_sem] index2_0 index2_1
theorem inR {P : Program} {f : FuncId} {args : Array Value} {w : World} {R : Ending → World → Prop} {l n : Nat} (h : Calls P f args w R) : CallsIn (Wd.inRound l) n P f args w R := CallsIn.inRound l (callsIn_wide.2 h)
theorem inW {P : Program} {f : FuncId} {args : Array Value} {w : World} {R : Ending → World → Prop} {n : Nat} (h : Calls P f args w R) : CallsIn Wd n P f args w R := callsIn_wide.2 h
theorem hkeep {W W' : World} (hc : Ch [] W W') {k : Nat} {o : Obj} (h : W.heap[k]? = some o) : W'.heap[k]? = some o := (hc.block k (Array.getElem?_eq_some_iff.1 h).1 (by simp)).trans h
theorem hkeepS {S : List Nat} {W W' : World} (hc : Ch S W W') {k : Nat} {o : Obj} (hk : k ∉ S) (h : W.heap[k]? = some o) : W'.heap[k]? = some o := (hc.block k (Array.getElem?_eq_some_iff.1 h).1 hk).trans h
def filledL (c : BitVec 64) : Nat := (lanesOf (fullM c ||| delM c)).length
def slotOk (t : Tab) (s : BitVec 64) (x : Nat × Nat) : Bool :=
  byteAt (t.c x.2) (x.1 % 8) == hash2 (hashOf s (t.k x.1)) && (hasT t (hashOf s (t.k x.1)) && decide (x.2 ∈ rowT t s (t.k x.1)))
def goodAll (t : Tab) (s : BitVec 64) : List (BitVec 64) → List (Nat × Nat) → Bool
  | _, [] => true
  | seen, x :: l => !(seen.contains (t.k x.1)) && slotOk t s x && goodAll t s (t.k x.1 :: seen) l
def mayT (t : Tab) (s : BitVec 64) : Bool :=
  flatT t && (ctrlOk (t.c 0) && ctrlOk (t.c 1)) && goodAll t s [] (slotsT t) && (t.live == ((slotsT t).length : Int)) && (t.can == 14 - ((filledL (t.c 0) + filledL (t.c 1) : Nat) : Int))
theorem may_flat (t : Tab) (s : BitVec 64) (b : Nat) (w : World) (hf : flatT t = false) (hb : w.heap[b]? = some (.cells (hcells t s) 141 (0, 0))) :
    Calls Tryz.prog 112 #[.pointer (some ⟨b, 0, none⟩)] w fun e w' => e = .returned (.bool false) ∧ Ch [] w w' := by
  have H1 := fun w => words_bad t hf w
  have hbl := (Array.getElem?_eq_some_iff.1 hb).1
  obtain ⟨W0, hW0⟩ : ∃ W0, ((w.alloc (.cells #[.pointer (some ⟨b, 0, none⟩)] 137)).alloc (.cells #[.bool false] 4)) = W0 := ⟨_, rfl⟩
  have hC0 : Ch [] w W0 := by rw [← hW0]; exact ((Ch.refl [] w).alloc _).alloc _
  have b0 : W0.heap[w.heap.size]? = some (.cells #[.pointer (some ⟨b, 0, none⟩)] 137 (0, 0)) := by rw [← hW0]; simp [go_sem]
  have b1 : W0.heap[w.heap.size + 1]? = some (.cells #[.bool false] 4 (0, 0)) := by rw [← hW0]; simp [go_sem]
  have bb := hkeep hC0 hb
  clear hf hbl hb
  refine (callsIn_wide (n := 3)).1 ?_
  refine callsIn_of_wp Tryz.func112 rfl trivial ?_
  simp only [Tryz.ntmps112, List.size_toArray, List.length_cons, List.length_nil, Nat.reduceAdd, Nat.reduceSub, Array.replicate_succ, Array.replicate_zero, List.push_toArray, List.append_toArray, List.nil_append, List.cons_append]
  gi_wp2_with (refine ⟨trivial, ?_⟩; gi_at_call 74; refine (inW (H1 _)).mono ?_; rintro e W1 ⟨rfl, hc1⟩; have d0 := hkeep hc1 b0; have d1 := hkeep hc1 b1; clear bb b0 b1 hW0)
  refine bodyPost_ret (results_cell1 Tryz.results112 _ _ _ rfl (load_one Tryz.underlying4 rfl _ _ (fr := (0, 0)) (t := 4) (x := .bool false) ?_)) rfl ⟨rfl, ?_⟩
  · simp only [zaa, d1]; rfl
  · exact (hC0.trans hc1).setCell (.inr (by simp)) _
theorem may_bad0 (t : Tab) (s : BitVec 64) (b : Nat) (w : World) (hf : flatT t = true) (hc : ctrlOk (t.c 0) = false) (hb : w.heap[b]? = some (.cells (hcells t s) 141 (0, 0))) :
    Calls Tryz.prog 112 #[.pointer (some ⟨b, 0, none⟩)] w fun e w' => e = .returned (.bool false) ∧ Ch [] w w' := by
  have H1 := fun w => words_ok t hf w
  have C0 := fun w => ccheck_any (t.c 0) w
  rw [hc] at C0
  clear hc
  have hbl := (Array.getElem?_eq_some_iff.1 hb).1
  obtain ⟨W0, hW0⟩ : ∃ W0, ((w.alloc (.cells #[.pointer (some ⟨b, 0, none⟩)] 137)).alloc (.cells #[.bool false] 4)) = W0 := ⟨_, rfl⟩
  have hC0 : Ch [] w W0 := by rw [← hW0]; exact ((Ch.refl [] w).alloc _).alloc _
  have b0 : W0.heap[w.heap.size]? = some (.cells #[.pointer (some ⟨b, 0, none⟩)] 137 (0, 0)) := by rw [← hW0]; simp [go_sem]
  have b1 : W0.heap[w.heap.size + 1]? = some (.cells #[.bool false] 4 (0, 0)) := by rw [← hW0]; simp [go_sem]
  have bb := hkeep hC0 hb
  clear hf hbl hb
  refine (callsIn_wide (n := 3)).1 ?_
  refine callsIn_of_wp Tryz.func112 rfl trivial ?_
  simp only [Tryz.ntmps112, List.size_toArray, List.length_cons, List.length_nil, Nat.reduceAdd, Nat.reduceSub, Array.replicate_succ, Array.replicate_zero, List.push_toArray, List.append_toArray, List.nil_append, List.cons_append]
  gi_wp2_with (refine ⟨trivial, ?_⟩; gi_at_call 74; refine (inW (H1 _)).mono ?_; rintro e W1 ⟨v0, rfl, hc1⟩; have d0 := hkeep hc1 b0; have d1 := hkeep hc1 b1; have db := hkeep hc1 bb; clear bb b0 b1 hW0)
  have hC1 := hC0.trans hc1
  clear hc1 hC0
  refine wpIn_loop_rounds 3 ?_
  rw [roundsIn_succ]
  gi_wp2_with (refine ⟨trivial, ?_⟩; gi_at_call 165; refine (inW (C0 _)).mono ?_; rintro e w' ⟨rfl, rfl⟩)
  refine bodyPost_ret (results_cell1 Tryz.results112 _ _ _ rfl (load_one Tryz.underlying4 rfl _ _ (fr := (0, 0)) (t := 4) (x := .bool false) ?_)) rfl ⟨rfl, ?_⟩
  · simp only [zaa, d1]; rfl
  · exact hC1.setCell (.inr (by simp)) _
theorem may_bad1 (t : Tab) (s : BitVec 64) (b : Nat) (w : World) (hf : flatT t = true) (hc0 : ctrlOk (t.c 0) = true) (hc : ctrlOk (t.c 1) = false) (hb : w.heap[b]? = some (.cells (hcells t s) 141 (0, 0))) :
    Calls Tryz.prog 112 #[.pointer (some ⟨b, 0, none⟩)] w fun e w' => e = .returned (.bool false) ∧ Ch [] w w' := by
  have H1 := fun w => words_ok t hf w
  have C0 := fun w => ccheck_any (t.c 0) w
  have C1 := fun w => ccheck_any (t.c 1) w
  have S0 := fun w => sets_ok (t.c 0) hc0 w
  have A0 := fun w => all_any (fullM (t.c 0) ||| delM (t.c 0)) w
  have L0 := lanes_le (fullM (t.c 0) ||| delM (t.c 0))
  rw [hc0] at C0
  rw [hc] at C1
  generalize lanesOf (fullM (t.c 0) ||| delM (t.c 0)) = l0 at *
  clear hc hc0
  have hbl := (Array.getElem?_eq_some_iff.1 hb).1
  obtain ⟨W0, hW0⟩ : ∃ W0, ((w.alloc (.cells #[.pointer (some ⟨b, 0, none⟩)] 137)).alloc (.cells #[.bool false] 4)) = W0 := ⟨_, rfl⟩
  have hC0 : Ch [] w W0 := by rw [← hW0]; exact ((Ch.refl [] w).alloc _).alloc _
  have b0 : W0.heap[w.heap.size]? = some (.cells #[.pointer (some ⟨b, 0, none⟩)] 137 (0, 0)) := by rw [← hW0]; simp [go_sem]
  have b1 : W0.heap[w.heap.size + 1]? = some (.cells #[.bool false] 4 (0, 0)) := by rw [← hW0]; simp [go_sem]
  have bb := hkeep hC0 hb
  clear hf hbl hb
  refine (callsIn_wide (n := 3)).1 ?_
  refine callsIn_of_wp Tryz.func112 rfl trivial ?_
  simp only [Tryz.ntmps112, List.size_toArray, List.length_cons, List.length_nil, Nat.reduceAdd, Nat.reduceSub, Array.replicate_succ, Array.replicate_zero, List.push_toArray, List.append_toArray, List.nil_append, List.cons_append]
  gi_wp2_with (refine ⟨trivial, ?_⟩; gi_at_call 74; refine (inW (H1 _)).mono ?_; rintro e W1 ⟨v0, rfl, hc1⟩; have d0 := hkeep hc1 b0; have d1 := hkeep hc1 b1; have db := hkeep hc1 bb; clear bb b0 b1 hW0)
  have hC1 := hC0.trans hc1
  clear hc1 hC0
  refine wpIn_loop_rounds 3 ?_
  rw [roundsIn_succ]
  gi_wp2_with (first
    | (refine ⟨trivial, ?_⟩; gi_at_call 165; refine (inW (C0 _)).mono ?_; rintro e w' ⟨rfl, rfl⟩)
    | (refine ⟨trivial, ?_⟩; gi_at_call 166; refine (inW (S0 _)).mono ?_; rintro e W2 ⟨rfl, hc2⟩; have e0 := hkeep hc2 d0; have e1 := hkeep hc2 d1; have eb := hkeep hc2 db; clear d0 d1 db)
    | (refine ⟨trivial, ?_⟩; gi_at_call 167; refine (inW (A0 _)).mono ?_; rintro e W3 ⟨v, rfl, hown, hc3⟩; obtain ⟨a, cap, cur, rfl, _, _⟩ := own_slice hown; clear hown; have d0 := hkeep hc3 e0; have d1 := hkeep hc3 e1; have db := hkeep hc3 eb; clear e0 e1 eb))
  have hC3 := (hC1.trans hc2).trans hc3
  clear hC1 hc2 hc3
  rw [roundsIn_succ]
  gi_wp2_with (refine ⟨trivial, ?_⟩; gi_at_call 165; refine (inW (C1 _)).mono ?_; rintro e w' ⟨rfl, rfl⟩)
  refine bodyPost_ret (results_cell1 Tryz.results112 _ _ _ rfl (load_one Tryz.underlying4 rfl _ _ (fr := (0, 0)) (t := 4) (x := .bool false) ?_)) rfl ⟨rfl, ?_⟩
  · simp only [zaa, d1]; rfl
  · exact hC3.setCell (.inr (by simp)) _
end
section
attribute [local go_sem] zap
attribute [local go_sem] box26 zcc cell0 cell1 cell2 cell3 cell4 cell5 cell6
def rwords (t : Tab) (a b : Nat) : List (BitVec 64) :=
  [t.count, BitVec.ofInt 64 t.depth + 256#64 * t.pre, BitVec.ofInt 64 t.can, BitVec.ofInt 64 t.live, t.c 0, t.c 1] ++ (List.range a).map t.k ++ (List.range b).map t.v
theorem rwords_k (t : Tab) (a : Nat) : rwords t a 0 ++ [t.k a] = rwords t (a + 1) 0 := by
  unfold rwords
  rw [List.range_succ, List.map_append]
  simp
theorem rwords_v (t : Tab) (a b : Nat) : rwords t a b ++ [t.v b] = rwords t a (b + 1) := by
  unfold rwords
  rw [List.range_succ, List.map_append]
  simp
theorem rwords_len (t : Tab) (a b : Nat) : (rwords t a b).length = 6 + a + b := by unfold rwords; simp; omega
theorem index16 (av : Array Value) (n : Nat) (x : BitVec 64) (hn : n < 16) (h : av[n]? = some (U x)) (w : World) : (Instr.index 24 (.agg av) (.int .i64 (n : Int))).run Tryz.prog w = .ok (U x) w := by
  simp [Instr.index, run_underlying Tryz.underlying24, asIntOf, go_sem, h, hn]
theorem r16Words_any (t : Tab) (w : World) : Calls Tryz.prog 182 #[.agg (tcells t)] w fun e w' => ∃ v, e = .returned v ∧ w'.ownsRow w.heap.size 22 1 v 40 ((rwords t 16 16 ++ [0#64, 0#64]).map fun x => U x) ∧ Ch [] w w' := by
  obtain ⟨i0, hi, hz0, hz1, hz2⟩ := info_parts infoU
  have hka : ∀ j, j < 16 → (#[t.cell 7, t.cell 8, t.cell 9, t.cell 10, t.cell 11, t.cell 12, t.cell 13, t.cell 14, t.cell 15, t.cell 16, t.cell 17, t.cell 18, t.cell 19, t.cell 20, t.cell 21, t.cell 22] : Array Value)[j]? = some (U (t.k j)) := by
    intro j hj
    match j, hj with
    | 0, _ => rfl | 1, _ => rfl | 2, _ => rfl | 3, _ => rfl | 4, _ => rfl | 5, _ => rfl | 6, _ => rfl | 7, _ => rfl
    | 8, _ => rfl | 9, _ => rfl | 10, _ => rfl | 11, _ => rfl | 12, _ => rfl | 13, _ => rfl | 14, _ => rfl | 15, _ => rfl
    | n + 16, h => exact absurd h (by omega)
  have hva : ∀ j, j < 16 → (#[t.cell 23, t.cell 24, t.cell 25, t.cell 26, t.cell 27, t.cell 28, t.cell 29, t.cell 30, t.cell 31, t.cell 32, t.cell 33, t.cell 34, t.cell 35, t.cell 36, t.cell 37, t.cell 38] : Array Value)[j]? = some (U (t.v j)) := by
    intro j hj
    match j, hj with
    | 0, _ => rfl | 1, _ => rfl | 2, _ => rfl | 3, _ => rfl | 4, _ => rfl | 5, _ => rfl | 6, _ => rfl | 7, _ => rfl
    | 8, _ => rfl | 9, _ => rfl | 10, _ => rfl | 11, _ => rfl | 12, _ => rfl | 13, _ => rfl | 14, _ => rfl | 15, _ => rfl
    | n + 16, h => exact absurd h (by omega)
  obtain ⟨WA, hWA⟩ : ∃ W, w.alloc (.cells (tcells t) 26) = W := ⟨_, rfl⟩
  have hsA : w.heap.size + 1 = WA.heap.size := by rw [← hWA]; simp
  have hCA : Ch [] w WA := by rw [← hWA]; exact (Ch.refl [] w).alloc _
  have hbA : WA.heap[w.heap.size]? = some (.cells (tcells t) 26 (0, 0)) := by rw [← hWA]; simp [go_sem]
  have hcel : ∀ (w : World) (xs : List Value), ∀ j u, xs[j]? = some u → (w.alloc (.cells xs.toArray 22)).cell? ((⟨w.heap.size, 0, none⟩ : Addr).add j) = some u := fun w xs j u hj => by
    rw [Addr.add_lit, zaw, zac, if_pos rfl, Option.bind_some, zaj, Nat.zero_add]
    simpa using hj
  go_enter Tryz.func182, Tryz.ntmps182
  go_wp2
  obtain ⟨ka, hk⟩ : ∃ ka : Array Value, #[t.cell 7, t.cell 8, t.cell 9, t.cell 10, t.cell 11, t.cell 12, t.cell 13, t.cell 14, t.cell 15, t.cell 16, t.cell 17, t.cell 18, t.cell 19, t.cell 20, t.cell 21, t.cell 22] = ka := ⟨_, rfl⟩
  rw [hk] at hka
  rw [hk]
  have hks : ka.size = 16 := by rw [← hk]; rfl
  clear hk
  obtain ⟨R0, hR0⟩ : ∃ R : Array Value, #[U t.count, .int .u64 (N (BitVec.ofInt 64 t.depth + 256#64 * t.pre)), .int .u64 (N (BitVec.ofInt 64 t.can)), .int .u64 (N (BitVec.ofInt 64 t.live)), U (t.c 0), U (t.c 1)] = R := ⟨_, rfl⟩
  have hR : R0.size = 6 ∧ R0.toList = (rwords t 0 0).map fun x => U x := by rw [← hR0]; exact ⟨rfl, rfl⟩
  rw [hR0]
  clear hR0
  have h0 : (WA.alloc (.cells R0 22)).ownsRow WA.heap.size 22 1 (.slice (some ⟨WA.heap.size, 0, none⟩) 6 6) 6 ((rwords t 0 0).map fun x => U x) :=
    ⟨by rw [List.length_map, rwords_len], .inr ⟨WA.heap.size, 6, R0, rfl, Nat.le_refl _, by rw [zac, if_pos rfl], by omega, by unfold maxLen; omega, by rw [hR.1], by rw [← hR.2, List.take_of_length_le (by rw [Array.length_toList, hR.1]; omega)]⟩⟩
  have hC0 : Ch [] WA (WA.alloc (.cells R0 22)) := (Ch.refl [] WA).alloc _
  clear hR
  generalize WA.alloc (.cells R0 22) = W1 at *
  go_loopw [3, 32] (fun v i wr => ∃ j : Nat, i = .int .i64 j ∧ j ≤ 16 ∧ wr.ownsRow WA.heap.size 22 1 v (6 + j) ((rwords t j 0).map fun x => U x) ∧ Ch [] WA wr) (fun _ i _ => 16 - (intOf i).toNat)
  case atStart => exact ⟨0, rfl, by omega, h0, hC0⟩
  case round =>
    obtain ⟨j, hj, hj8, hown, hcr⟩ := hrel
    subst hj
    have hz := hcr.size
    clear h0 hC0
    by_cases hlt : j < 16
    · have hob := own_block hown
      have hkj := hka j hlt
      have HS := Lib.hid (rwords_k t j)
      have HL := Lib.hid (rwords_len t j 0)
      have hltI : (j : Int) < 16 := by omega
      have X1 := fun w => index16 ka j _ hlt hkj w
      clear hka hva
      obtain ⟨ys, hys⟩ : ∃ ys, rwords t j 0 = ys := ⟨_, rfl⟩
      rw [hys] at hown HS HL
      obtain ⟨kj, hkk⟩ : ∃ x, t.k j = x := ⟨_, rfl⟩
      rw [hkk] at hkj HS X1
      go_wp2_with (at_builtin; refine wpList_append_own _ rfl _ _ 44 rfl WA.heap.size 22 i0 (U 0#64) 1 8 Tryz.underlying44 hi hz0 hz1 hz2 rfl (by decide) _ _ _ rfl (hown.alloc _) ⟨wr.heap.size, 0, none⟩ 1 1 [U kj] rfl rfl (hcel _ [U kj]) (by simp [Value.oneCell']) (by unfold maxLen; omega) (by omega) (by simp; omega) ?_; intro v' w1 hown' hgrow _; have HO := Lib.hid hown'; have HG := Lib.hid hgrow; clear hown' hgrow)
      have hgr : (wr.alloc (.cells #[U kj] 22)).grownBy w1 u3.ownBlock := HG.out
      have hW1 : Ch (u3.ownBlock.toList) wr w1 := (((Ch.refl [] wr).alloc (.cells #[U kj] 22)).of_nil).trans2 (Ch.of_grown (S := u3.ownBlock.toList) hgr (fun k hk => by simp [hk])) (fun t ht => .inl ht)
      have hSS : ∀ s ∈ u3.ownBlock.toList, WA.heap.size ≤ s := fun s hs => hob s (by simpa using hs)
      have HO2 : w1.ownsRow WA.heap.size 22 1 v' (6 + j + 1) (ys.map (fun x => U x) ++ [U kj]) := HO.out
      go_roundw
      case rel => exact ⟨j + 1, by go_num, hlt, by rw [← HS.out, List.map_append]; exact HO2, hcr.trans2 hW1 (fun t ht => .inr (hSS t ht))⟩
      case measure => simp [intOf]; omega
    · have hj16 : j = 16 := by omega
      rw [hj16] at hown
      have hnI : ¬ (j : Int) < 16 := by omega
      clear hj16 hlt hj8
      have hbW : wr.heap[w.heap.size]? = some (.cells (tcells t) 26 (0, 0)) := hkeep hcr hbA
      clear hka
      go_wp2
      obtain ⟨va, hv⟩ : ∃ va : Array Value, #[t.cell 23, t.cell 24, t.cell 25, t.cell 26, t.cell 27, t.cell 28, t.cell 29, t.cell 30, t.cell 31, t.cell 32, t.cell 33, t.cell 34, t.cell 35, t.cell 36, t.cell 37, t.cell 38] = va := ⟨_, rfl⟩
      rw [hv] at hva
      rw [hv]
      have hvs : va.size = 16 := by rw [← hv]; rfl
      clear hv hbW
      have HO1 := Lib.hid hown
      have HC1 := Lib.hid hcr
      clear hown hcr hz
      go_loopw [3, 42] (fun v i wr => ∃ j : Nat, i = .int .i64 j ∧ j ≤ 16 ∧ wr.ownsRow WA.heap.size 22 1 v (22 + j) ((rwords t 16 j).map fun x => U x) ∧ Ch [] WA wr) (fun _ i _ => 16 - (intOf i).toNat)
      case atStart => exact ⟨0, rfl, by omega, HO1.out, HC1.out⟩
      case round =>
        obtain ⟨j, hj, hj8, hown, hcr⟩ := hrel
        subst hj
        have hz := hcr.size
        clear HO1 HC1
        by_cases hlt : j < 16
        · have hob := own_block hown
          have hkj := hva j hlt
          have HS := Lib.hid (rwords_v t 16 j)
          have HL := Lib.hid (rwords_len t 16 j)
          have hltI : (j : Int) < 16 := by omega
          have X1 := fun w => index16 va j _ hlt hkj w
          clear hva
          obtain ⟨ys, hys⟩ : ∃ ys, rwords t 16 j = ys := ⟨_, rfl⟩
          rw [hys] at hown HS HL
          obtain ⟨kj, hkk⟩ : ∃ x, t.v j = x := ⟨_, rfl⟩
          rw [hkk] at hkj HS X1
          go_wp2_with (at_builtin; refine wpList_append_own _ rfl _ _ 44 rfl WA.heap.size 22 i0 (U 0#64) 1 8 Tryz.underlying44 hi hz0 hz1 hz2 rfl (by decide) _ _ _ rfl (hown.alloc _) ⟨wr.heap.size, 0, none⟩ 1 1 [U kj] rfl rfl (hcel _ [U kj]) (by simp [Value.oneCell']) (by unfold maxLen; omega) (by omega) (by simp; omega) ?_; intro v' w1 hown' hgrow _; have HO := Lib.hid hown'; have HG := Lib.hid hgrow; clear hown' hgrow)
          have hgr : (wr.alloc (.cells #[U kj] 22)).grownBy w1 u3.ownBlock := HG.out
          have hW1 : Ch (u3.ownBlock.toList) wr w1 := (((Ch.refl [] wr).alloc (.cells #[U kj] 22)).of_nil).trans2 (Ch.of_grown (S := u3.ownBlock.toList) hgr (fun k hk => by simp [hk])) (fun t ht => .inl ht)
          have hSS : ∀ s ∈ u3.ownBlock.toList, WA.heap.size ≤ s := fun s hs => hob s (by simpa using hs)
          have HO2 : w1.ownsRow WA.heap.size 22 1 v' (22 + j + 1) (ys.map (fun x => U x) ++ [U kj]) := HO.out
          go_roundw
          case rel => exact ⟨j + 1, by go_num, hlt, by rw [← HS.out, List.map_append]; exact HO2, hcr.trans2 hW1 (fun t ht => .inr (hSS t ht))⟩
          case measure => simp [intOf]; omega
        · have hj16 : j = 16 := by omega
          subst hj16
          have hob := own_block hown
          go_wp2_with (at_builtin; refine wpList_append_own _ rfl _ _ 44 rfl WA.heap.size 22 i0 (U 0#64) 1 8 Tryz.underlying44 hi hz0 hz1 hz2 rfl (by decide) _ _ _ rfl (hown.alloc _) ⟨wr.heap.size, 0, none⟩ 2 2 [U 0#64, U 0#64] rfl rfl (hcel _ [U 0#64, U 0#64]) (by simp [Value.oneCell']) (by unfold maxLen; omega) (by omega) (by simp; omega) ?_; intro v' w1 hown' hgrow _; have HO := Lib.hid hown'; have HG := Lib.hid hgrow; clear hown' hgrow)
          have hgr : (wr.alloc (.cells #[U 0#64, U 0#64] 22)).grownBy w1 u3.ownBlock := HG.out
          have hW1 : Ch (u3.ownBlock.toList) wr w1 := (((Ch.refl [] wr).alloc (.cells #[U 0#64, U 0#64] 22)).of_nil).trans2 (Ch.of_grown (S := u3.ownBlock.toList) hgr (fun k hk => by simp [hk])) (fun t ht => .inl ht)
          have hSS : ∀ s ∈ u3.ownBlock.toList, WA.heap.size ≤ s := fun s hs => hob s (by simpa using hs)
          have HO2 : w1.ownsRow WA.heap.size 22 1 v' 40 ((rwords t 16 16).map (fun x => U x) ++ [U 0#64, U 0#64]) := HO.out
          go_ret
          refine ⟨v', rfl, ?_, hCA.trans (hcr.trans2 hW1 (fun t ht => .inr (hSS t ht)))⟩
          rw [List.map_append]
          exact ⟨HO2.1, HO2.2.elim .inl (fun ⟨g, cap, cur, a, b, c⟩ => .inr ⟨g, cap, cur, a, by omega, c⟩)⟩
end
end Go.Proofs.Hc
