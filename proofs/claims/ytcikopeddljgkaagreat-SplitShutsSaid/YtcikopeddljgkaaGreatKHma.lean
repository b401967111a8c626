/- Package table: does who looks for a key come to a group? -/
import Derived.Test.YtcikopeddljgkaaGreatKHtc
set_option linter.unusedSimpArgs false
set_option linter.unusedVariables false
set_option maxRecDepth 100000
namespace Go.Proofs.Hc
open Go.RowKit
attribute [local go_sem] zbr zby zau zba zbl zay zbk zbm zbu signed64 signed8 zas BitVec.ofInt_add BitVec.ofInt_mul ofInt_sub' zaw zax wide8 eqN neN zbx shr1 shr7 shr56
attribute [local go_sem high] zaz zbt
attribute [local go_sem] zan zbv zae zal zad zbd zao zag zbj zaj zbc zbe
attribute [local go_sem] load26 load73 load23 store26 build73
attribute [local go_sem ↓] lrow26 lrow73 lrow23 srow26 zero26 brow73 zab zav zbb zaa zac
attribute [local go_sem] zah zaq zat zbf zbg zbp zam zar zbq zbi zbh
attribute [local go_sem] nn2 nm2 nn3 nm3 nn4 nm4 nn5 nm5 nn6 nm6 nn7 nm7 nn8 nm8
section
attribute [local go_sem] Oper.semAt_some zak
attribute [local go_sem] box26 zbz cell0 cell1 cell2 cell3 cell4 zcb zca
theorem zcl {P : Program} {fn : Func} {p : Tmp} {T1 : TypeId} (h : fn.results = #[.cell p T1]) (tmps : Array Value) (a : Addr) (w : World) {x : Value}
    (hp : tmps.getD p undef = .pointer (some a)) (h1 : (loadVar T1 a).run P w = .ok x w) : (results fn tmps).run P w = .ok x w := by
  have hp' : tmps[p]?.getD undef = .pointer (some a) := by simpa using hp
  simp [results, h, hp', asAddr, h1]
theorem reaches_any (t : Tab) (s k : BitVec 64) (b : Nat) (d : Nat) (w : World) (hok0 : ctrlOk (t.c 0) = true) (hok1 : ctrlOk (t.c 1) = true) (hb : w.heap[b]? = some (.cells (hcells t s) 141 (0, 0))) :
    Calls Tryz.prog 170 #[.pointer (some ⟨b, 0, none⟩), U k, I d] w fun e w' => e = .returned (.bool (decide (d ∈ rowT t s k))) ∧ Ch [] w w' := by
  have hbl := (Array.getElem?_eq_some_iff.1 hb).1
  have Y1 := fun p q w hb hp hq => row_yields t s k b p q w hok0 hok1 hb hp hq
  generalize rowT t s k = xs at *
  refine (callsIn_wide (n := 3)).1 ?_
  refine callsIn_of_wp_marks Tryz.func170 rfl trivial ?_
  simp only [Tryz.ntmps170, List.size_toArray, List.length_cons, List.length_nil, Nat.reduceAdd, Nat.reduceSub, Array.replicate_succ, Array.replicate_zero, List.push_toArray, List.append_toArray, List.nil_append, List.cons_append]
  gi_wp2_with (refine ⟨trivial, ?_⟩; gi_at_call 207; refine (callsIn_wide.2 (row_make _ _ _)).mono ?_; rintro e w' ⟨rfl, rfl⟩)
  obtain ⟨W0, hW0⟩ : ∃ W0, (((w.alloc (.cells #[I d] 3)).alloc (.cells #[.bool false] 4)).alloc (.cells #[.pointer (some ⟨b, 0, none⟩)] 137)).alloc (.cells #[U k] 22) = W0 := ⟨_, rfl⟩
  have hs0 : W0.heap.size = w.heap.size + 4 := by rw [← hW0]; simp
  have hC0 : Ch [] w W0 := by rw [← hW0]; exact ((((Ch.refl [] w).alloc _).alloc _).alloc _).alloc _
  have b0 : W0.heap[w.heap.size]? = some (.cells #[I d] 3 (0, 0)) := by rw [← hW0]; simp [go_sem] <;> omega
  have b1 : W0.heap[w.heap.size + 1]? = some (.cells #[.bool false] 4 (0, 0)) := by rw [← hW0]; simp [go_sem] <;> omega
  have b2 : W0.heap[w.heap.size + 1 + 1]? = some (.cells #[.pointer (some ⟨b, 0, none⟩)] 137 (0, 0)) := by rw [← hW0]; simp [go_sem] <;> omega
  have b3 : W0.heap[w.heap.size + 1 + 1 + 1]? = some (.cells #[U k] 22 (0, 0)) := by rw [← hW0]; simp [go_sem] <;> omega
  have bb := (hC0.block b hbl (by simp)).trans hb
  rw [hW0]
  clear hW0
  refine range_lawO (n := 1) (xs := xs) rfl enters_row (Y1 _ _ W0 bb b2 b3) (fun _ => rfl) (by simp) (by simp <;> omega)
    (fun pre O W => (∀ x, O x ↔ x = w.heap.size + 1) ∧ d ∉ pre ∧ Ch [] w W ∧ W.heap[w.heap.size]? = some (.cells #[I d] 3 (0, 0)) ∧ W.heap[w.heap.size + 1]? = some (.cells #[.bool false] 4 (0, 0)))
    (fun c W => c = .ret ∧ d ∈ xs ∧ Ch [] w W ∧ W.heap[w.heap.size + 1]? = some (.cells #[.bool true] 4 (0, 0)))
    (fun x => x = w.heap.size + 1) ?hIO ?hI ?hIx ⟨fun _ => Iff.rfl, by simp, hC0, b0, b1⟩ ?a₁ ?assign ?body ?done ?stop
  case hIO =>
    rintro pre O A ⟨h, _, hc, _, h2⟩ x hx
    have hx := (h x).1 hx
    subst hx
    exact ⟨.inl (by omega), (Array.getElem?_eq_some_iff.1 h2).1, by simp; omega⟩
  case hI =>
    rintro pre O A B ⟨h0, hd, hc, h1, h2⟩ hAB
    exact ⟨h0, hd, hc.trans2 hAB (by simp <;> omega), (hAB.block _ (Array.getElem?_eq_some_iff.1 h1).1 (by simp <;> omega)).trans h1, (hAB.block _ (Array.getElem?_eq_some_iff.1 h2).1 (by simp <;> omega)).trans h2⟩
  case hIx =>
    rintro c A B ⟨rfl, hd, hc, h2⟩ hAB
    exact ⟨rfl, hd, hc.trans2 hAB (by simp <;> omega), (hAB.block _ (Array.getElem?_eq_some_iff.1 h2).1 (by simp <;> omega)).trans h2⟩
  case a₁ => exact fun x => { tmps := #[.pointer (some ⟨b, 0, none⟩), U k, I d, undef, undef, .pointer (some ⟨w.heap.size, 0, none⟩), .pointer (some ⟨w.heap.size + 1, 0, none⟩), I x, .pointer (some ⟨b, 0, none⟩), U k, .func (.func 258) #[] #[.pointer (some ⟨w.heap.size + 1 + 1, 0, none⟩), .pointer (some ⟨w.heap.size + 1 + 1 + 1, 0, none⟩)], I x, undef, undef, undef], defers := [] }
  case assign =>
    intro x W K hK
    gi_wp2
    exact hK
  case body =>
    rintro pre O x post W hx ⟨h0, hd, hc, h1, h2⟩ hsz
    have HX := Lib.hid hx
    clear hx
    by_cases hxd : x = d
    · subst hxd
      have he : (decide ((x : Int) = x)) = true := by simp
      gi_wp2
      refine ⟨⟨rfl, by rw [HX.out]; simp, hc.setCell (p := ⟨w.heap.size + 1, 0, none⟩) (.inr (by simp)) _, ?_⟩, fun y _ hy => ?_⟩
      · rw [zaa, if_pos rfl, h2]; rfl
      · rw [zaa, if_neg (fun e => hy ((h0 y).2 e))]
    · have he : ((x : Int) == (d : Int)) = false := by simp; omega
      gi_wp2
      exact ⟨⟨O, ⟨h0, by simp [hd]; omega, hc, h1, h2⟩, fun _ h => .inl h⟩, Nat.le_refl _, fun _ _ _ => rfl⟩
  case done =>
    rintro O W ⟨h0, hd, hc, h1, h2⟩ hdd
    gi_wp2
    refine marks_ret (v := .bool false) ?_ (zcl Tryz.results170 _ _ _ rfl (load_one Tryz.underlying4 rfl _ _ (fr := (0, 0)) (t := 4) ?_)) ⟨by simp [hd], ?_⟩
    · rw [zaa, if_neg (by omega)]; exact hdd
    · simp only [zcr, zaa, h2]; rw [if_neg (by omega)]; simp [zad]
    · exact (hc.setCell (p := ⟨w.heap.size + 1, 0, none⟩) (.inr (by simp)) _).trans2 (zbs _ _ _) (by simp <;> omega)
  case stop =>
    rintro c W ⟨rfl, hd, hc, h2⟩ hdd
    gi_wp2
    refine marks_ret (v := .bool true) hdd (zcl Tryz.results170 _ _ _ rfl (load_one Tryz.underlying4 rfl _ _ (fr := (0, 0)) (t := 4) ?_)) ⟨by simp [hd], ?_⟩
    · rw [zcr, if_neg (by omega)]; exact h2
    · exact hc.trans2 (zbs _ _ _) (by simp <;> omega)
end
section
attribute [local go_sem] Oper.semAt_some zak
attribute [local go_sem] box26 zbz cell0 cell1 cell2 cell3 cell4 zcb zca
attribute [local go_sem] cell5 cell6
attribute [local go_sem] index2_0 index2_1
theorem inR {P : Program} {f : FuncId} {args : Array Value} {w : World} {R : Ending → World → Prop} {l n : Nat} (h : Calls P f args w R) : CallsIn (Wd.inRound l) n P f args w R := CallsIn.inRound l (callsIn_wide.2 h)
theorem inW {P : Program} {f : FuncId} {args : Array Value} {w : World} {R : Ending → World → Prop} {n : Nat} (h : Calls P f args w R) : CallsIn Wd n P f args w R := callsIn_wide.2 h
theorem hkeep {W W' : World} (hc : Ch [] W W') {k : Nat} {o : Obj} (h : W.heap[k]? = some o) : W'.heap[k]? = some o := (hc.block k (Array.getElem?_eq_some_iff.1 h).1 (by simp)).trans h
theorem hkeepS {S : List Nat} {W W' : World} (hc : Ch S W W') {k : Nat} {o : Obj} (hk : k ∉ S) (h : W.heap[k]? = some o) : W'.heap[k]? = some o := (hc.block k (Array.getElem?_eq_some_iff.1 h).1 hk).trans h
def filledL (c : BitVec 64) : Nat := (lanesOf (fullM c ||| delM c)).length
def slotOk (t : Tab) (s : BitVec 64) (x : Nat × Nat) : Bool :=
  byteAt (t.c x.2) (x.1 % 8) == hash2 (hashOf s (t.k x.1)) && (hasT t (hashOf s (t.k x.1)) && decide (x.2 ∈ rowT t s (t.k x.1)))
def goodAll (t : Tab) (s : BitVec 64) : List (BitVec 64) → List (Nat × Nat) → Bool
  | _, [] => true
  | seen, x :: l => !(seen.contains (t.k x.1)) && slotOk t s x && goodAll t s (t.k x.1 :: seen) l
def mayT (t : Tab) (s : BitVec 64) : Bool :=
  flatT t && (ctrlOk (t.c 0) && ctrlOk (t.c 1)) && goodAll t s [] (slotsT t) && (t.live == ((slotsT t).length : Int)) && (t.can == 14 - ((filledL (t.c 0) + filledL (t.c 1) : Nat) : Int))
theorem may_flat (t : Tab) (s : BitVec 64) (b : Nat) (w : World) (hf : flatT t = false) (hb : w.heap[b]? = some (.cells (hcells t s) 141 (0, 0))) :
    Calls Tryz.prog 112 #[.pointer (some ⟨b, 0, none⟩)] w fun e w' => e = .returned (.bool false) ∧ Ch [] w w' := by
  have H1 := fun w => words_bad t hf w
  have hbl := (Array.getElem?_eq_some_iff.1 hb).1
  obtain ⟨W0, hW0⟩ : ∃ W0, ((w.alloc (.cells #[.pointer (some ⟨b, 0, none⟩)] 137)).alloc (.cells #[.bool false] 4)) = W0 := ⟨_, rfl⟩
  have hC0 : Ch [] w W0 := by rw [← hW0]; exact ((Ch.refl [] w).alloc _).alloc _
  have b0 : W0.heap[w.heap.size]? = some (.cells #[.pointer (some ⟨b, 0, none⟩)] 137 (0, 0)) := by rw [← hW0]; simp [go_sem]
  have b1 : W0.heap[w.heap.size + 1]? = some (.cells #[.bool false] 4 (0, 0)) := by rw [← hW0]; simp [go_sem]
  have bb := hkeep hC0 hb
  clear hf hbl hb
  refine (callsIn_wide (n := 3)).1 ?_
  refine callsIn_of_wp Tryz.func112 rfl trivial ?_
  simp only [Tryz.ntmps112, List.size_toArray, List.length_cons, List.length_nil, Nat.reduceAdd, Nat.reduceSub, Array.replicate_succ, Array.replicate_zero, List.push_toArray, List.append_toArray, List.nil_append, List.cons_append]
  gi_wp2_with (refine ⟨trivial, ?_⟩; gi_at_call 74; refine (inW (H1 _)).mono ?_; rintro e W1 ⟨rfl, hc1⟩; have d0 := hkeep hc1 b0; have d1 := hkeep hc1 b1; clear bb b0 b1 hW0)
  refine bodyPost_ret (zcl Tryz.results112 _ _ _ rfl (load_one Tryz.underlying4 rfl _ _ (fr := (0, 0)) (t := 4) (x := .bool false) ?_)) rfl ⟨rfl, ?_⟩
  · simp only [zaa, d1]; rfl
  · exact (hC0.trans hc1).setCell (.inr (by simp)) _
theorem may_bad0 (t : Tab) (s : BitVec 64) (b : Nat) (w : World) (hf : flatT t = true) (hc : ctrlOk (t.c 0) = false) (hb : w.heap[b]? = some (.cells (hcells t s) 141 (0, 0))) :
    Calls Tryz.prog 112 #[.pointer (some ⟨b, 0, none⟩)] w fun e w' => e = .returned (.bool false) ∧ Ch [] w w' := by
  have H1 := fun w => words_ok t hf w
  have C0 := fun w => ccheck_any (t.c 0) w
  rw [hc] at C0
  clear hc
  have hbl := (Array.getElem?_eq_some_iff.1 hb).1
  obtain ⟨W0, hW0⟩ : ∃ W0, ((w.alloc (.cells #[.pointer (some ⟨b, 0, none⟩)] 137)).alloc (.cells #[.bool false] 4)) = W0 := ⟨_, rfl⟩
  have hC0 : Ch [] w W0 := by rw [← hW0]; exact ((Ch.refl [] w).alloc _).alloc _
  have b0 : W0.heap[w.heap.size]? = some (.cells #[.pointer (some ⟨b, 0, none⟩)] 137 (0, 0)) := by rw [← hW0]; simp [go_sem]
  have b1 : W0.heap[w.heap.size + 1]? = some (.cells #[.bool false] 4 (0, 0)) := by rw [← hW0]; simp [go_sem]
  have bb := hkeep hC0 hb
  clear hf hbl hb
  refine (callsIn_wide (n := 3)).1 ?_
  refine callsIn_of_wp Tryz.func112 rfl trivial ?_
  simp only [Tryz.ntmps112, List.size_toArray, List.length_cons, List.length_nil, Nat.reduceAdd, Nat.reduceSub, Array.replicate_succ, Array.replicate_zero, List.push_toArray, List.append_toArray, List.nil_append, List.cons_append]
  gi_wp2_with (refine ⟨trivial, ?_⟩; gi_at_call 74; refine (inW (H1 _)).mono ?_; rintro e W1 ⟨v0, rfl, hc1⟩; have d0 := hkeep hc1 b0; have d1 := hkeep hc1 b1; have db := hkeep hc1 bb; clear bb b0 b1 hW0)
  have hC1 := hC0.trans hc1
  clear hc1 hC0
  refine wpIn_loop_rounds 3 ?_
  rw [roundsIn_succ]
  gi_wp2_with (refine ⟨trivial, ?_⟩; gi_at_call 165; refine (inW (C0 _)).mono ?_; rintro e w' ⟨rfl, rfl⟩)
  refine bodyPost_ret (zcl Tryz.results112 _ _ _ rfl (load_one Tryz.underlying4 rfl _ _ (fr := (0, 0)) (t := 4) (x := .bool false) ?_)) rfl ⟨rfl, ?_⟩
  · simp only [zaa, d1]; rfl
  · exact hC1.setCell (.inr (by simp)) _
theorem may_bad1 (t : Tab) (s : BitVec 64) (b : Nat) (w : World) (hf : flatT t = true) (hc0 : ctrlOk (t.c 0) = true) (hc : ctrlOk (t.c 1) = false) (hb : w.heap[b]? = some (.cells (hcells t s) 141 (0, 0))) :
    Calls Tryz.prog 112 #[.pointer (some ⟨b, 0, none⟩)] w fun e w' => e = .returned (.bool false) ∧ Ch [] w w' := by
  have H1 := fun w => words_ok t hf w
  have C0 := fun w => ccheck_any (t.c 0) w
  have C1 := fun w => ccheck_any (t.c 1) w
  have S0 := fun w => sets_ok (t.c 0) hc0 w
  have A0 := fun w => all_any (fullM (t.c 0) ||| delM (t.c 0)) w
  have L0 := lanes_le (fullM (t.c 0) ||| delM (t.c 0))
  rw [hc0] at C0
  rw [hc] at C1
  generalize lanesOf (fullM (t.c 0) ||| delM (t.c 0)) = l0 at *
  clear hc hc0
  have hbl := (Array.getElem?_eq_some_iff.1 hb).1
  obtain ⟨W0, hW0⟩ : ∃ W0, ((w.alloc (.cells #[.pointer (some ⟨b, 0, none⟩)] 137)).alloc (.cells #[.bool false] 4)) = W0 := ⟨_, rfl⟩
  have hC0 : Ch [] w W0 := by rw [← hW0]; exact ((Ch.refl [] w).alloc _).alloc _
  have b0 : W0.heap[w.heap.size]? = some (.cells #[.pointer (some ⟨b, 0, none⟩)] 137 (0, 0)) := by rw [← hW0]; simp [go_sem]
  have b1 : W0.heap[w.heap.size + 1]? = some (.cells #[.bool false] 4 (0, 0)) := by rw [← hW0]; simp [go_sem]
  have bb := hkeep hC0 hb
  clear hf hbl hb
  refine (callsIn_wide (n := 3)).1 ?_
  refine callsIn_of_wp Tryz.func112 rfl trivial ?_
  simp only [Tryz.ntmps112, List.size_toArray, List.length_cons, List.length_nil, Nat.reduceAdd, Nat.reduceSub, Array.replicate_succ, Array.replicate_zero, List.push_toArray, List.append_toArray, List.nil_append, List.cons_append]
  gi_wp2_with (refine ⟨trivial, ?_⟩; gi_at_call 74; refine (inW (H1 _)).mono ?_; rintro e W1 ⟨v0, rfl, hc1⟩; have d0 := hkeep hc1 b0; have d1 := hkeep hc1 b1; have db := hkeep hc1 bb; clear bb b0 b1 hW0)
  have hC1 := hC0.trans hc1
  clear hc1 hC0
  refine wpIn_loop_rounds 3 ?_
  rw [roundsIn_succ]
  gi_wp2_with (first
    | (refine ⟨trivial, ?_⟩; gi_at_call 165; refine (inW (C0 _)).mono ?_; rintro e w' ⟨rfl, rfl⟩)
    | (refine ⟨trivial, ?_⟩; gi_at_call 166; refine (inW (S0 _)).mono ?_; rintro e W2 ⟨rfl, hc2⟩; have e0 := hkeep hc2 d0; have e1 := hkeep hc2 d1; have eb := hkeep hc2 db; clear d0 d1 db)
    | (refine ⟨trivial, ?_⟩; gi_at_call 167; refine (inW (A0 _)).mono ?_; rintro e W3 ⟨v, rfl, hown, hc3⟩; obtain ⟨a, cap, cur, rfl, _, _⟩ := own_slice hown; clear hown; have d0 := hkeep hc3 e0; have d1 := hkeep hc3 e1; have db := hkeep hc3 eb; clear e0 e1 eb))
  have hC3 := (hC1.trans hc2).trans hc3
  clear hC1 hc2 hc3
  rw [roundsIn_succ]
  gi_wp2_with (refine ⟨trivial, ?_⟩; gi_at_call 165; refine (inW (C1 _)).mono ?_; rintro e w' ⟨rfl, rfl⟩)
  refine bodyPost_ret (zcl Tryz.results112 _ _ _ rfl (load_one Tryz.underlying4 rfl _ _ (fr := (0, 0)) (t := 4) (x := .bool false) ?_)) rfl ⟨rfl, ?_⟩
  · simp only [zaa, d1]; rfl
  · exact hC3.setCell (.inr (by simp)) _
end
end Go.Proofs.Hc
