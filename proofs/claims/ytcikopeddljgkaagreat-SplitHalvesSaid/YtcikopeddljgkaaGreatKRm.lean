/- Package table: does who looks for a key come to a group? -/
import Derived.Test.YtcikopeddljgkaaGreatKHsl
import Derived.OpenShut
import Derived.ProofKit
set_option linter.unusedSimpArgs false
set_option linter.unusedVariables false
set_option maxRecDepth 100000
namespace Go.Proofs.Hc
open Go.RowKit
attribute [local go_sem] zbr zcd zat zaz zbn zax zbm zbo zbw signed64 signed8 zar BitVec.ofInt_add BitVec.ofInt_mul ofInt_sub' zav zaw wide8 eqN neN zcc shr1 shr7 shr56
attribute [local go_sem high] zay zbv
attribute [local go_sem] zau zbx zai zal zac zbd zan zah zbk zaj zbc zbe
attribute [local go_sem] load26 load73 load23 store26 build73
attribute [local go_sem ↓] lrow26 lrow73 lrow23 srow26 zero26 brow73 zab zba zbb zaa zae
attribute [local go_sem] zag zap zaf zbf zbi zbp zam zaq zbq zbh zbg
attribute [local go_sem] nn2 nm2 nn3 nm3 nn4 nm4 nn5 nm5 nn6 nm6 nn7 nm7 nn8 nm8
section
attribute [local go_sem] Oper.semAt_some zak
attribute [local go_sem] box26 zbz cell0 cell1 cell2 cell3 cell4 zcb zca
theorem zcp {P : Program} {fn : Func} {p : Tmp} {T1 : TypeId} (h : fn.results = #[.cell p T1]) (tmps : Array Value) (a : Addr) (w : World) {x : Value}
    (hp : tmps.getD p undef = .pointer (some a)) (h1 : (loadVar T1 a).run P w = .ok x w) : (results fn tmps).run P w = .ok x w := by
  have hp' : tmps[p]?.getD undef = .pointer (some a) := by simpa using hp
  simp [results, h, hp', asAddr, h1]
theorem reaches_any (t : Tab) (s k : BitVec 64) (b : Nat) (d : Nat) (w : World) (hok0 : ctrlOk (t.c 0) = true) (hok1 : ctrlOk (t.c 1) = true) (hb : w.heap[b]? = some (.cells (hcells t s) 141 (0, 0))) :
    Calls Tryz.prog 170 #[.pointer (some ⟨b, 0, none⟩), U k, I d] w fun e w' => e = .returned (.bool (decide (d ∈ rowT t s k))) ∧ Ch [] w w' := by
  have hbl := (Array.getElem?_eq_some_iff.1 hb).1
  have Y1 := fun p q w hb hp hq => row_yields t s k b p q w hok0 hok1 hb hp hq
  generalize rowT t s k = xs at *
  refine (callsIn_wide (n := 3)).1 ?_
  refine callsIn_of_wp_marks Tryz.func170 rfl trivial ?_
  simp only [Tryz.ntmps170, List.size_toArray, List.length_cons, List.length_nil, Nat.reduceAdd, Nat.reduceSub, Array.replicate_succ, Array.replicate_zero, List.push_toArray, List.append_toArray, List.nil_append, List.cons_append]
  gi_wp2_with (refine ⟨trivial, ?_⟩; gi_at_call 207; refine (callsIn_wide.2 (row_make _ _ _)).mono ?_; rintro e w' ⟨rfl, rfl⟩)
  obtain ⟨W0, hW0⟩ : ∃ W0, (((w.alloc (.cells #[I d] 3)).alloc (.cells #[.bool false] 4)).alloc (.cells #[.pointer (some ⟨b, 0, none⟩)] 137)).alloc (.cells #[U k] 22) = W0 := ⟨_, rfl⟩
  have hs0 : W0.heap.size = w.heap.size + 4 := by rw [← hW0]; simp
  have hC0 : Ch [] w W0 := by rw [← hW0]; exact ((((Ch.refl [] w).alloc _).alloc _).alloc _).alloc _
  have b0 : W0.heap[w.heap.size]? = some (.cells #[I d] 3 (0, 0)) := by rw [← hW0]; simp [go_sem] <;> omega
  have b1 : W0.heap[w.heap.size + 1]? = some (.cells #[.bool false] 4 (0, 0)) := by rw [← hW0]; simp [go_sem] <;> omega
  have b2 : W0.heap[w.heap.size + 1 + 1]? = some (.cells #[.pointer (some ⟨b, 0, none⟩)] 137 (0, 0)) := by rw [← hW0]; simp [go_sem] <;> omega
  have b3 : W0.heap[w.heap.size + 1 + 1 + 1]? = some (.cells #[U k] 22 (0, 0)) := by rw [← hW0]; simp [go_sem] <;> omega
  have bb := (hC0.block b hbl (by simp)).trans hb
  rw [hW0]
  clear hW0
  refine range_lawO (n := 1) (xs := xs) rfl enters_row (Y1 _ _ W0 bb b2 b3) (fun _ => rfl) (by simp) (by simp <;> omega)
    (fun pre O W => (∀ x, O x ↔ x = w.heap.size + 1) ∧ d ∉ pre ∧ Ch [] w W ∧ W.heap[w.heap.size]? = some (.cells #[I d] 3 (0, 0)) ∧ W.heap[w.heap.size + 1]? = some (.cells #[.bool false] 4 (0, 0)))
    (fun c W => c = .ret ∧ d ∈ xs ∧ Ch [] w W ∧ W.heap[w.heap.size + 1]? = some (.cells #[.bool true] 4 (0, 0)))
    (fun x => x = w.heap.size + 1) ?hIO ?hI ?hIx ⟨fun _ => Iff.rfl, by simp, hC0, b0, b1⟩ ?a₁ ?assign ?body ?done ?stop
  case hIO =>
    rintro pre O A ⟨h, _, hc, _, h2⟩ x hx
    have hx := (h x).1 hx
    subst hx
    exact ⟨.inl (by omega), (Array.getElem?_eq_some_iff.1 h2).1, by simp; omega⟩
  case hI =>
    rintro pre O A B ⟨h0, hd, hc, h1, h2⟩ hAB
    exact ⟨h0, hd, hc.trans2 hAB (by simp <;> omega), (hAB.block _ (Array.getElem?_eq_some_iff.1 h1).1 (by simp <;> omega)).trans h1, (hAB.block _ (Array.getElem?_eq_some_iff.1 h2).1 (by simp <;> omega)).trans h2⟩
  case hIx =>
    rintro c A B ⟨rfl, hd, hc, h2⟩ hAB
    exact ⟨rfl, hd, hc.trans2 hAB (by simp <;> omega), (hAB.block _ (Array.getElem?_eq_some_iff.1 h2).1 (by simp <;> omega)).trans h2⟩
  case a₁ => exact fun x => { tmps := #[.pointer (some ⟨b, 0, none⟩), U k, I d, undef, undef, .pointer (some ⟨w.heap.size, 0, none⟩), .pointer (some ⟨w.heap.size + 1, 0, none⟩), I x, .pointer (some ⟨b, 0, none⟩), U k, .func (.func 258) #[] #[.pointer (some ⟨w.heap.size + 1 + 1, 0, none⟩), .pointer (some ⟨w.heap.size + 1 + 1 + 1, 0, none⟩)], I x, undef, undef, undef], defers := [] }
  case assign =>
    intro x W K hK
    gi_wp2
    exact hK
  case body =>
    rintro pre O x post W hx ⟨h0, hd, hc, h1, h2⟩ hsz
    have HX := Lib.hid hx
    clear hx
    by_cases hxd : x = d
    · subst hxd
      have he : (decide ((x : Int) = x)) = true := by simp
      gi_wp2
      refine ⟨⟨rfl, by rw [HX.out]; simp, hc.setCell (p := ⟨w.heap.size + 1, 0, none⟩) (.inr (by simp)) _, ?_⟩, fun y _ hy => ?_⟩
      · rw [zaa, if_pos rfl, h2]; rfl
      · rw [zaa, if_neg (fun e => hy ((h0 y).2 e))]
    · have he : ((x : Int) == (d : Int)) = false := by simp; omega
      gi_wp2
      exact ⟨⟨O, ⟨h0, by simp [hd]; omega, hc, h1, h2⟩, fun _ h => .inl h⟩, Nat.le_refl _, fun _ _ _ => rfl⟩
  case done =>
    rintro O W ⟨h0, hd, hc, h1, h2⟩ hdd
    gi_wp2
    refine marks_ret (v := .bool false) ?_ (zcp Tryz.results170 _ _ _ rfl (load_one Tryz.underlying4 rfl _ _ (fr := (0, 0)) (t := 4) ?_)) ⟨by simp [hd], ?_⟩
    · rw [zaa, if_neg (by omega)]; exact hdd
    · simp only [heap_putObj, zaa, h2]; rw [if_neg (by omega)]; simp [zac]
    · exact (hc.setCell (p := ⟨w.heap.size + 1, 0, none⟩) (.inr (by simp)) _).trans2 (zby _ _ _) (by simp <;> omega)
  case stop =>
    rintro c W ⟨rfl, hd, hc, h2⟩ hdd
    gi_wp2
    refine marks_ret (v := .bool true) hdd (zcp Tryz.results170 _ _ _ rfl (load_one Tryz.underlying4 rfl _ _ (fr := (0, 0)) (t := 4) ?_)) ⟨by simp [hd], ?_⟩
    · rw [heap_putObj, if_neg (by omega)]; exact h2
    · exact hc.trans2 (zby _ _ _) (by simp <;> omega)
end
section
attribute [local go_sem] Oper.semAt_some zak
attribute [local go_sem] box26 zbz cell0 cell1 cell2 cell3 cell4 zcb zca
attribute [local go_sem] cell5 cell6
attribute [local go_sem] index2_0 index2_1
theorem inR {P : Program} {f : FuncId} {args : Array Value} {w : World} {R : Ending → World → Prop} {l n : Nat} (h : Calls P f args w R) : CallsIn (Wd.inRound l) n P f args w R := CallsIn.inRound l (callsIn_wide.2 h)
theorem inW {P : Program} {f : FuncId} {args : Array Value} {w : World} {R : Ending → World → Prop} {n : Nat} (h : Calls P f args w R) : CallsIn Wd n P f args w R := callsIn_wide.2 h
theorem hkeep {W W' : World} (hc : Ch [] W W') {k : Nat} {o : Obj} (h : W.heap[k]? = some o) : W'.heap[k]? = some o := (hc.block k (Array.getElem?_eq_some_iff.1 h).1 (by simp)).trans h
theorem hkeepS {S : List Nat} {W W' : World} (hc : Ch S W W') {k : Nat} {o : Obj} (hk : k ∉ S) (h : W.heap[k]? = some o) : W'.heap[k]? = some o := (hc.block k (Array.getElem?_eq_some_iff.1 h).1 hk).trans h
def filledL (c : BitVec 64) : Nat := (lanesOf (fullM c ||| delM c)).length
def slotOk (t : Tab) (s : BitVec 64) (x : Nat × Nat) : Bool :=
  byteAt (t.c x.2) (x.1 % 8) == hash2 (hashOf s (t.k x.1)) && (hasT t (hashOf s (t.k x.1)) && decide (x.2 ∈ rowT t s (t.k x.1)))
def goodAll (t : Tab) (s : BitVec 64) : List (BitVec 64) → List (Nat × Nat) → Bool
  | _, [] => true
  | seen, x :: l => !(seen.contains (t.k x.1)) && slotOk t s x && goodAll t s (t.k x.1 :: seen) l
def mayT (t : Tab) (s : BitVec 64) : Bool :=
  flatT t && (ctrlOk (t.c 0) && ctrlOk (t.c 1)) && goodAll t s [] (slotsT t) && (t.live == ((slotsT t).length : Int)) && (t.can == 14 - ((filledL (t.c 0) + filledL (t.c 1) : Nat) : Int))
theorem may_flat (t : Tab) (s : BitVec 64) (b : Nat) (w : World) (hf : flatT t = false) (hb : w.heap[b]? = some (.cells (hcells t s) 141 (0, 0))) :
    Calls Tryz.prog 112 #[.pointer (some ⟨b, 0, none⟩)] w fun e w' => e = .returned (.bool false) ∧ Ch [] w w' := by
  have H1 := fun w => words_bad t hf w
  have hbl := (Array.getElem?_eq_some_iff.1 hb).1
  obtain ⟨W0, hW0⟩ : ∃ W0, ((w.alloc (.cells #[.pointer (some ⟨b, 0, none⟩)] 137)).alloc (.cells #[.bool false] 4)) = W0 := ⟨_, rfl⟩
  have hC0 : Ch [] w W0 := by rw [← hW0]; exact ((Ch.refl [] w).alloc _).alloc _
  have b0 : W0.heap[w.heap.size]? = some (.cells #[.pointer (some ⟨b, 0, none⟩)] 137 (0, 0)) := by rw [← hW0]; simp [go_sem]
  have b1 : W0.heap[w.heap.size + 1]? = some (.cells #[.bool false] 4 (0, 0)) := by rw [← hW0]; simp [go_sem]
  have bb := hkeep hC0 hb
  clear hf hbl hb
  refine (callsIn_wide (n := 3)).1 ?_
  refine callsIn_of_wp Tryz.func112 rfl trivial ?_
  simp only [Tryz.ntmps112, List.size_toArray, List.length_cons, List.length_nil, Nat.reduceAdd, Nat.reduceSub, Array.replicate_succ, Array.replicate_zero, List.push_toArray, List.append_toArray, List.nil_append, List.cons_append]
  gi_wp2_with (refine ⟨trivial, ?_⟩; gi_at_call 74; refine (inW (H1 _)).mono ?_; rintro e W1 ⟨rfl, hc1⟩; have d0 := hkeep hc1 b0; have d1 := hkeep hc1 b1; clear bb b0 b1 hW0)
  refine bodyPost_ret (zcp Tryz.results112 _ _ _ rfl (load_one Tryz.underlying4 rfl _ _ (fr := (0, 0)) (t := 4) (x := .bool false) ?_)) rfl ⟨rfl, ?_⟩
  · simp only [zaa, d1]; rfl
  · exact (hC0.trans hc1).setCell (.inr (by simp)) _
theorem may_bad0 (t : Tab) (s : BitVec 64) (b : Nat) (w : World) (hf : flatT t = true) (hc : ctrlOk (t.c 0) = false) (hb : w.heap[b]? = some (.cells (hcells t s) 141 (0, 0))) :
    Calls Tryz.prog 112 #[.pointer (some ⟨b, 0, none⟩)] w fun e w' => e = .returned (.bool false) ∧ Ch [] w w' := by
  have H1 := fun w => words_ok t hf w
  have C0 := fun w => ccheck_any (t.c 0) w
  rw [hc] at C0
  clear hc
  have hbl := (Array.getElem?_eq_some_iff.1 hb).1
  obtain ⟨W0, hW0⟩ : ∃ W0, ((w.alloc (.cells #[.pointer (some ⟨b, 0, none⟩)] 137)).alloc (.cells #[.bool false] 4)) = W0 := ⟨_, rfl⟩
  have hC0 : Ch [] w W0 := by rw [← hW0]; exact ((Ch.refl [] w).alloc _).alloc _
  have b0 : W0.heap[w.heap.size]? = some (.cells #[.pointer (some ⟨b, 0, none⟩)] 137 (0, 0)) := by rw [← hW0]; simp [go_sem]
  have b1 : W0.heap[w.heap.size + 1]? = some (.cells #[.bool false] 4 (0, 0)) := by rw [← hW0]; simp [go_sem]
  have bb := hkeep hC0 hb
  clear hf hbl hb
  refine (callsIn_wide (n := 3)).1 ?_
  refine callsIn_of_wp Tryz.func112 rfl trivial ?_
  simp only [Tryz.ntmps112, List.size_toArray, List.length_cons, List.length_nil, Nat.reduceAdd, Nat.reduceSub, Array.replicate_succ, Array.replicate_zero, List.push_toArray, List.append_toArray, List.nil_append, List.cons_append]
  gi_wp2_with (refine ⟨trivial, ?_⟩; gi_at_call 74; refine (inW (H1 _)).mono ?_; rintro e W1 ⟨v0, rfl, hc1⟩; have d0 := hkeep hc1 b0; have d1 := hkeep hc1 b1; have db := hkeep hc1 bb; clear bb b0 b1 hW0)
  have hC1 := hC0.trans hc1
  clear hc1 hC0
  refine wpIn_loop_rounds 3 ?_
  rw [roundsIn_succ]
  gi_wp2_with (refine ⟨trivial, ?_⟩; gi_at_call 165; refine (inW (C0 _)).mono ?_; rintro e w' ⟨rfl, rfl⟩)
  refine bodyPost_ret (zcp Tryz.results112 _ _ _ rfl (load_one Tryz.underlying4 rfl _ _ (fr := (0, 0)) (t := 4) (x := .bool false) ?_)) rfl ⟨rfl, ?_⟩
  · simp only [zaa, d1]; rfl
  · exact hC1.setCell (.inr (by simp)) _
theorem may_bad1 (t : Tab) (s : BitVec 64) (b : Nat) (w : World) (hf : flatT t = true) (hc0 : ctrlOk (t.c 0) = true) (hc : ctrlOk (t.c 1) = false) (hb : w.heap[b]? = some (.cells (hcells t s) 141 (0, 0))) :
    Calls Tryz.prog 112 #[.pointer (some ⟨b, 0, none⟩)] w fun e w' => e = .returned (.bool false) ∧ Ch [] w w' := by
  have H1 := fun w => words_ok t hf w
  have C0 := fun w => ccheck_any (t.c 0) w
  have C1 := fun w => ccheck_any (t.c 1) w
  have S0 := fun w => sets_ok (t.c 0) hc0 w
  have A0 := fun w => all_any (fullM (t.c 0) ||| delM (t.c 0)) w
  have L0 := lanes_le (fullM (t.c 0) ||| delM (t.c 0))
  rw [hc0] at C0
  rw [hc] at C1
  generalize lanesOf (fullM (t.c 0) ||| delM (t.c 0)) = l0 at *
  clear hc hc0
  have hbl := (Array.getElem?_eq_some_iff.1 hb).1
  obtain ⟨W0, hW0⟩ : ∃ W0, ((w.alloc (.cells #[.pointer (some ⟨b, 0, none⟩)] 137)).alloc (.cells #[.bool false] 4)) = W0 := ⟨_, rfl⟩
  have hC0 : Ch [] w W0 := by rw [← hW0]; exact ((Ch.refl [] w).alloc _).alloc _
  have b0 : W0.heap[w.heap.size]? = some (.cells #[.pointer (some ⟨b, 0, none⟩)] 137 (0, 0)) := by rw [← hW0]; simp [go_sem]
  have b1 : W0.heap[w.heap.size + 1]? = some (.cells #[.bool false] 4 (0, 0)) := by rw [← hW0]; simp [go_sem]
  have bb := hkeep hC0 hb
  clear hf hbl hb
  refine (callsIn_wide (n := 3)).1 ?_
  refine callsIn_of_wp Tryz.func112 rfl trivial ?_
  simp only [Tryz.ntmps112, List.size_toArray, List.length_cons, List.length_nil, Nat.reduceAdd, Nat.reduceSub, Array.replicate_succ, Array.replicate_zero, List.push_toArray, List.append_toArray, List.nil_append, List.cons_append]
  gi_wp2_with (refine ⟨trivial, ?_⟩; gi_at_call 74; refine (inW (H1 _)).mono ?_; rintro e W1 ⟨v0, rfl, hc1⟩; have d0 := hkeep hc1 b0; have d1 := hkeep hc1 b1; have db := hkeep hc1 bb; clear bb b0 b1 hW0)
  have hC1 := hC0.trans hc1
  clear hc1 hC0
  refine wpIn_loop_rounds 3 ?_
  rw [roundsIn_succ]
  gi_wp2_with (first
    | (refine ⟨trivial, ?_⟩; gi_at_call 165; refine (inW (C0 _)).mono ?_; rintro e w' ⟨rfl, rfl⟩)
    | (refine ⟨trivial, ?_⟩; gi_at_call 166; refine (inW (S0 _)).mono ?_; rintro e W2 ⟨rfl, hc2⟩; have e0 := hkeep hc2 d0; have e1 := hkeep hc2 d1; have eb := hkeep hc2 db; clear d0 d1 db)
    | (refine ⟨trivial, ?_⟩; gi_at_call 167; refine (inW (A0 _)).mono ?_; rintro e W3 ⟨v, rfl, hown, hc3⟩; obtain ⟨a, cap, cur, rfl, _, _⟩ := own_slice hown; clear hown; have d0 := hkeep hc3 e0; have d1 := hkeep hc3 e1; have db := hkeep hc3 eb; clear e0 e1 eb))
  have hC3 := (hC1.trans hc2).trans hc3
  clear hC1 hc2 hc3
  rw [roundsIn_succ]
  gi_wp2_with (refine ⟨trivial, ?_⟩; gi_at_call 165; refine (inW (C1 _)).mono ?_; rintro e w' ⟨rfl, rfl⟩)
  refine bodyPost_ret (zcp Tryz.results112 _ _ _ rfl (load_one Tryz.underlying4 rfl _ _ (fr := (0, 0)) (t := 4) (x := .bool false) ?_)) rfl ⟨rfl, ?_⟩
  · simp only [zaa, d1]; rfl
  · exact hC3.setCell (.inr (by simp)) _
end
section
attribute [local go_sem] Oper.semAt_some zak
theorem assert_wrong (v : Value) (w : World) : (Instr.typeAssert (.iface 244 v) 20 244 true).run Tryz.prog w = .ok (.tuple #[v, .bool true]) w := by kernel_rfl
attribute [local go_sem] assert_wrong
theorem lneed_yes (w : World) : Calls Tryz.prog 107 #[.bool true] w fun e w' => e = .returned (.tuple #[]) ∧ w = w' := by
  go_enter Tryz.func107, Tryz.ntmps107
  go_wp2
  go_end0
  exact ⟨rfl, rfl⟩
theorem lneed_no (w : World) : Calls Tryz.prog 107 #[.bool false] w fun e w' => e = .panicked [{ v := .iface 244 (.agg #[]), recovered := false }] ∧ w = w' := by
  go_enter Tryz.func107, Tryz.ntmps107
  go_wp2
  exact ⟨rfl, rfl, rfl⟩
theorem lcatch_idle (p : Nat) (w : World) :
    CallsD Tryz.prog 162 #[.pointer (some ⟨p, 0, none⟩)] .returning w fun e u' w' => e = .returned (.tuple #[]) ∧ u' = .returning ∧ w = w' := by
  refine callsD_of_wpS Tryz.func162 rfl fun c₀ cs hu => ?_
  simp only [Tryz.ntmps162, List.size_toArray, List.length_cons, List.length_nil, Nat.reduceAdd, Nat.reduceSub, Array.replicate_succ, Array.replicate_zero, List.push_toArray, List.append_toArray, List.nil_append, List.cons_append]
  apply wpS_seq
  apply wpS_region
  simp [wpOpsS, go_sem, recoverD, hu, Exit.thenS]
  refine wpS_of_wp ?_
  go_wp2_with fail
  exact ⟨rfl, .returning, by cases c₀; simp_all, _, results_none rfl _ _ _, rfl, rfl, rfl⟩
theorem lcatch_panic (p : Nat) (c : Value) (w : World) (hp : w.heap[p]? = some (.cells #[c] 4 (0, 0))) :
    CallsD Tryz.prog 162 #[.pointer (some ⟨p, 0, none⟩)] (.panicking [{ v := .iface 244 (.agg #[]), recovered := false }]) w fun e u' w' =>
      e = .returned (.tuple #[]) ∧ u' = .panicking [{ v := .iface 244 (.agg #[]), recovered := true }] ∧ Ch [p] w w' ∧ w'.heap[p]? = some (.cells #[.bool false] 4 (0, 0)) := by
  have hp1 : ¬ p = w.heap.size := by have := (Array.getElem?_eq_some_iff.1 hp).1; omega
  refine callsD_of_wpS Tryz.func162 rfl fun c₀ cs hu => ?_
  simp only [Tryz.ntmps162, List.size_toArray, List.length_cons, List.length_nil, Nat.reduceAdd, Nat.reduceSub, Array.replicate_succ, Array.replicate_zero, List.push_toArray, List.append_toArray, List.nil_append, List.cons_append]
  apply wpS_seq
  apply wpS_region
  simp [wpOpsS, go_sem, recoverD, hu, Exit.thenS]
  refine wpS_of_wp ?_
  go_wp2_with fail
  refine ⟨rfl, _, rfl, _, results_none rfl _ _ _, rfl, rfl, ?_, ?_⟩
  · exact ((Ch.refl [p] w).alloc _).setCell (p := ⟨p, 0, none⟩) (.inl (by simp)) _
  · simp only [zaa, zab, if_neg hp1, hp, if_true, Option.map_some, zac]
    rfl
theorem ltries_ok (df : Nat) (cap : Array Value) (ob : Nat) (oo : Obj) (w : World) (ho : ob < w.heap.size)
    (hdf : ∀ args w, (callFunc df args).run Tryz.prog w = .ok (.enter df args) w)
    (hdoes : ∀ w1, Ch [] w w1 → Calls Tryz.prog df cap w1 fun e w2 => e = .returned (.tuple #[]) ∧ Ch [ob] w1 w2 ∧ w2.heap[ob]? = some oo) :
    Calls Tryz.prog 104 #[.func (.func df) #[] cap] w fun e w' => e = .returned (.bool true) ∧ Ch [ob] w w' ∧ w'.heap[ob]? = some oo := by
  have C0 : Ch [] w (w.alloc (.cells #[.bool false] 4)) := (Ch.refl [] w).alloc _
  have hd := hdoes _ C0
  go_enter_defers Tryz.func104, Tryz.ntmps104
  go_wp2_with fail
  refine hd.mono ?_
  rintro e w2 ⟨rfl, hc2, h2⟩
  have hz2 := hc2.size
  simp only [World.size_alloc] at hz2
  have h6 : w2.heap[w.heap.size]? = some (.cells #[.bool false] 4 (0, 0)) := (hc2.block _ (by simp) (by simp; omega)).trans (by simp [go_sem])
  go_wp2
  refine leaves_cons (f := 162) (args := #[.pointer (some ⟨w.heap.size, 0, none⟩)]) (by simp) (by simp [go_sem]) ?_
  refine (lcatch_idle _ _).mono ?_
  rintro e u' w3 ⟨rfl, rfl, rfl⟩
  have e6 : (w2.setCell ⟨w.heap.size, 0, none⟩ (.bool true)).heap[w.heap.size]? = some (.cells #[.bool true] 4 (0, 0)) := by
    simp only [zaa, h6, if_true, Option.map_some, zac]
    rfl
  refine ⟨_, zcp Tryz.results104 _ _ _ rfl (load_one Tryz.underlying4 rfl _ _ e6), rfl, ?_, ?_⟩
  · exact (C0.of_nil.trans hc2).setCell (p := ⟨w.heap.size, 0, none⟩) (.inr (by simp)) _
  · rw [zaa, if_neg (by show ¬ ob = w.heap.size; omega)]; exact h2
theorem ltries_no (df : Nat) (cap : Array Value) (w : World)
    (hdf : ∀ args w, (callFunc df args).run Tryz.prog w = .ok (.enter df args) w)
    (hdoes : ∀ w1, Ch [] w w1 → Calls Tryz.prog df cap w1 fun e w2 => e = .panicked [{ v := .iface 244 (.agg #[]), recovered := false }] ∧ Ch [] w1 w2) :
    Calls Tryz.prog 104 #[.func (.func df) #[] cap] w fun e w' => e = .returned (.bool false) ∧ Ch [] w w' := by
  have C0 : Ch [] w (w.alloc (.cells #[.bool false] 4)) := (Ch.refl [] w).alloc _
  have hd := hdoes _ C0
  go_enter_defers Tryz.func104, Tryz.ntmps104
  go_wp2_with fail
  refine hd.mono ?_
  rintro e w2 ⟨rfl, hc2⟩
  have h6 : w2.heap[w.heap.size]? = some (.cells #[.bool false] 4 (0, 0)) := (hc2.block _ (by simp) (by simp)).trans (by simp [go_sem])
  refine leaves_cons (f := 162) (args := #[.pointer (some ⟨w.heap.size, 0, none⟩)]) (by simp) (by simp [go_sem]) ?_
  refine (lcatch_panic _ _ _ h6).mono ?_
  rintro e u' w3 ⟨rfl, rfl, hc3, h1⟩
  refine ⟨_, zcp Tryz.results104 _ _ _ rfl (load_one Tryz.underlying4 rfl _ _ h1), rfl, ?_⟩
  exact (C0.trans hc2).trans2 hc3 (by simp)
def readC (t : Tab) (v : Value) : Array Value := Array.ofFn (n := 40) fun i => if i.1 = 39 then v else t.cell i.1
theorem readC_size (t : Tab) (v : Value) : (readC t v).size = 40 := by simp [readC]
theorem readC_get (t : Tab) (v : Value) (i : Nat) : (readC t v)[i]? = if i < 40 then some (if i = 39 then v else t.cell i) else none := by
  unfold readC; rw [Array.getElem?_ofFn]; simp
theorem readC_39 (t : Tab) (a : Option Addr) (n c : Nat) : (readC t (.slice a n c))[39]? = some (.slice a n c) := by rw [readC_get]; rfl
theorem readC_one (t : Tab) (a : Option Addr) (n c : Nat) : allOne (readC t (.slice a n c)) = true := by
  unfold allOne
  simp only [readC, Array.all_eq_true_iff_forall_mem, Array.mem_ofFn]; rintro v ⟨i, rfl⟩; split; rfl; exact cell_one ..
theorem readC_table (t : Tab) (v : Value) : (readC t v).extract 0 39 = tcells t := by
  apply Array.ext_getElem?; intro i
  rw [Array.getElem?_extract, zaf, readC_get, readC_size]
  by_cases h : i < 39
  · simp [h, show i < 40 by omega, show i ≠ 39 by omega]
  · simp [h]
theorem rset {t t' : Tab} {v : Value} {j : Nat} {x : Value} (hj : j < 39) (hx : t'.cell j = x) (ho : ∀ i, i < 39 → i ≠ j → t'.cell i = t.cell i) :
    (readC t v).setIfInBounds j x = readC t' v := by
  apply Array.ext_getElem?; intro i
  rw [Array.getElem?_setIfInBounds, readC_get, readC_get, readC_size]
  by_cases h : j = i
  · subst h; simp [show j < 40 by omega, show j ≠ 39 by omega, hx]
  · rw [if_neg h]
    by_cases h2 : i < 40
    · simp only [h2, if_true]
      by_cases h3 : i = 39
      · simp [h3]
      · simp only [h3, if_false]; rw [ho i (by omega) (fun e => h e.symm)]
    · simp [h2]
theorem zdl (t : Tab) (v : Value) (x : BitVec 64) : (readC t v).setIfInBounds 0 (U x) = readC { t with count := x } v :=
  rset (by omega) rfl (fun i _ h => by unfold Tab.cell; split <;> first | rfl | omega)
theorem zdk (t : Tab) (v : Value) (x : Int) : (readC t v).setIfInBounds 1 (I x) = readC { t with depth := x } v :=
  rset (by omega) rfl (fun i _ h => by unfold Tab.cell; split <;> first | rfl | omega)
theorem rset_pre (t : Tab) (v : Value) (x : BitVec 64) : (readC t v).setIfInBounds 2 (U x) = readC { t with pre := x } v :=
  rset (by omega) rfl (fun i _ h => by unfold Tab.cell; split <;> first | rfl | omega)
theorem rset_can (t : Tab) (v : Value) (x : Int) : (readC t v).setIfInBounds 3 (I x) = readC { t with can := x } v :=
  rset (by omega) rfl (fun i _ h => by unfold Tab.cell; split <;> first | rfl | omega)
theorem rset_live (t : Tab) (v : Value) (x : Int) : (readC t v).setIfInBounds 4 (I x) = readC { t with live := x } v :=
  rset (by omega) rfl (fun i _ h => by unfold Tab.cell; split <;> first | rfl | omega)
theorem rset_rest (t : Tab) (v x : Value) : (readC t v).setIfInBounds 39 x = readC t x := by
  apply Array.ext_getElem?; intro i
  rw [Array.getElem?_setIfInBounds, readC_get, readC_get, readC_size]
  by_cases h : 39 = i
  · subst h; rfl
  · rw [if_neg h]
    by_cases h2 : i < 40
    · rw [if_pos h2, if_pos h2, if_neg (fun e => h e.symm), if_neg (fun e => h e.symm)]
    · rw [if_neg h2, if_neg h2]
theorem rsplice {t t' : Tab} {v : Value} {o n : Nat} {f : Nat → BitVec 64} (hn : o + n ≤ 39) (hx : ∀ i, i < n → t'.cell (o + i) = U (f i)) (ho : ∀ i, i < 39 → ¬ (o ≤ i ∧ i < o + n) → t'.cell i = t.cell i) :
    ((readC t v).toList.take o ++ (List.range n).map (fun i => U (f i)) ++ (readC t v).toList.drop (o + ((List.range n).map (fun i => U (f i))).length)).toArray = readC t' v := by
  have hl1 : ((readC t v).toList.take o).length = o := by simp [readC_size]; omega
  have hl2 : ((List.range n).map (fun i => U (f i))).length = n := by simp
  apply Array.ext_getElem?; intro i
  rw [List.getElem?_toArray, hl2, readC_get t' v]
  by_cases h1 : i < o
  · rw [List.append_assoc, List.getElem?_append_left (by rw [hl1]; exact h1), List.getElem?_take, if_pos h1, Array.getElem?_toList, readC_get, if_pos (show i < 40 by omega), if_neg (show ¬ i = 39 by omega), if_pos (show i < 40 by omega), if_neg (show ¬ i = 39 by omega), ho i (by omega) (by omega)]
  · by_cases h2 : i < o + n
    · rw [List.append_assoc, List.getElem?_append_right (by rw [hl1]; omega), hl1, List.getElem?_append_left (by rw [hl2]; omega), List.getElem?_map, List.getElem?_range (by omega), if_pos (show i < 40 by omega), if_neg (show ¬ i = 39 by omega)]
      have := hx (i - o) (by omega)
      rw [show o + (i - o) = i by omega] at this
      rw [this]; rfl
    · rw [List.getElem?_append_right (by rw [List.length_append, hl1, hl2]; omega), List.length_append, hl1, hl2, List.getElem?_drop, Array.getElem?_toList, show o + n + (i - (o + n)) = i by omega, readC_get]
      by_cases h3 : i < 40
      · rw [if_pos h3, if_pos h3]
        by_cases h4 : i = 39
        · rw [if_pos h4, if_pos h4]
        · rw [if_neg h4, if_neg h4, ho i (by omega) (by omega)]
      · rw [if_neg h3, if_neg h3]
theorem rsplice_c (t : Tab) (v : Value) (f : Nat → BitVec 64) : ((readC t v).toList.take 5 ++ (List.range 2).map (fun i => U (f i)) ++ (readC t v).toList.drop (5 + ((List.range 2).map (fun i => U (f i))).length)).toArray = readC { t with c := fun g => if g < 2 then f g else 0#64 } v := by
  refine rsplice (by omega) (fun i hi => ?_) (fun i hi h => ?_)
  · match i, hi with
    | 0, _ => rfl
    | 1, _ => rfl
  · match i, hi with
    | 0, _ => rfl
    | 1, _ => rfl
    | 2, _ => rfl
    | 3, _ => rfl
    | 4, _ => rfl
    | 5, _ => exact absurd ⟨by omega, by omega⟩ h
    | 6, _ => exact absurd ⟨by omega, by omega⟩ h
    | i + 7, _ => rfl
theorem rsplice_k (t : Tab) (v : Value) (f : Nat → BitVec 64) : ((readC t v).toList.take 7 ++ (List.range 16).map (fun i => U (f i)) ++ (readC t v).toList.drop (7 + ((List.range 16).map (fun i => U (f i))).length)).toArray = readC { t with k := fun g => if g < 16 then f g else 0#64 } v := by
  refine rsplice (by omega) (fun i hi => ?_) (fun i hi h => ?_)
  · rw [Nat.add_comm]
    show (if i < 16 then U (if i < 16 then f i else 0#64) else _) = _
    rw [if_pos hi, if_pos hi]
  · match i, hi with
    | 0, _ => rfl
    | 1, _ => rfl
    | 2, _ => rfl
    | 3, _ => rfl
    | 4, _ => rfl
    | 5, _ => rfl
    | 6, _ => rfl
    | i + 7, _ =>
      show (if i < 16 then _ else U (t.v (i - 16))) = if i < 16 then _ else U (t.v (i - 16))
      rw [if_neg (by omega), if_neg (by omega)]
theorem rsplice_v (t : Tab) (v : Value) (f : Nat → BitVec 64) : ((readC t v).toList.take 23 ++ (List.range 16).map (fun i => U (f i)) ++ (readC t v).toList.drop (23 + ((List.range 16).map (fun i => U (f i))).length)).toArray = readC { t with v := fun g => if g < 16 then f g else 0#64 } v := by
  refine rsplice (by omega) (fun i hi => ?_) (fun i hi h => ?_)
  · rw [show 23 + i = (16 + i) + 7 by omega]
    show (if 16 + i < 16 then _ else U (if 16 + i - 16 < 16 then f (16 + i - 16) else 0#64)) = _
    rw [if_neg (by omega), if_pos (by omega), show 16 + i - 16 = i by omega]
  · match i, hi with
    | 0, _ => rfl
    | 1, _ => rfl
    | 2, _ => rfl
    | 3, _ => rfl
    | 4, _ => rfl
    | 5, _ => rfl
    | 6, _ => rfl
    | i + 7, _ =>
      show (if i < 16 then U (t.k i) else _) = if i < 16 then U (t.k i) else _
      rw [if_pos (by omega), if_pos (by omega)]
theorem small_i64 (x : BitVec 64) (h : x.toNat ≤ 200) : IntKind.i64.wrap (N x) = N x := by
  unfold N
  have : x.toNat = 0 ∨ True := .inr trivial
  simp only [IntKind.wrap, IntKind.signed, IntKind.bits]
  simp
  omega
theorem number_yes (x : BitVec 64) (h : x.toNat ≤ 14) (w : World) : Calls Tryz.prog 108 #[U x, I 14] w fun e w' => e = .returned (I (x.toNat : Int)) ∧ w = w' := by
  have h1 : N x ≤ N (14#64) := by show ((x.toNat : Nat) : Int) ≤ ((14 : Nat) : Int); omega
  have h2 := small_i64 x (by omega)
  go_enter Tryz.func108, Tryz.ntmps108
  go_wp2_with (go_at_call 107; refine (lneed_yes _).mono ?_; rintro e w' ⟨rfl, rfl⟩)
  go_ret
  exact ⟨rfl, rfl⟩
theorem number_no (x : BitVec 64) (h : 14 < x.toNat) (w : World) : Calls Tryz.prog 108 #[U x, I 14] w fun e w' => e = .panicked [{ v := .iface 244 (.agg #[]), recovered := false }] ∧ w = w' := by
  have h1 : ¬ N x ≤ N (14#64) := by show ¬ ((x.toNat : Nat) : Int) ≤ ((14 : Nat) : Int); omega
  go_enter Tryz.func108, Tryz.ntmps108
  go_wp2_with (go_at_call 107; refine (lneed_no _).mono ?_; rintro e w' ⟨rfl, rfl⟩)
  exact ⟨rfl, rfl, rfl⟩
end
end Go.Proofs.Hc
