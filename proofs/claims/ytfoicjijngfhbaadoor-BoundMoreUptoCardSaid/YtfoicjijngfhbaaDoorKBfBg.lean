/- Package script: Takes, words, all of three words. -/
import Derived.Test.YtfoicjijngfhbaaDoorKBd
import Derived.Deep.Cut
import Derived.Laws.EntriesVeiled
set_option linter.unusedSimpArgs false
set_option linter.unusedVariables false
namespace Go.Proofs.Hc
open Go.RowKit
set_option linter.unusedVariables false
attribute [local go_sem] wrap_u64 wrap_u8 bits_xor64 bits_and64 bits_or64 bits_not64 bits_xor8 bits_and8 bits_or8 signed64 signed8 ofInt_N BitVec.ofInt_add BitVec.ofInt_mul ofInt_sub' ofInt8_N64 ofInt64_N8 wide8 eqN neN shr_pow shr1 shr7 shr56
attribute [local go_sem high] bits_com64 shl_wrap
attribute [local go_sem] nn2 nm2 nn3 nm3 nn4 nm4 nn5 nm5 nn6 nm6 nn7 nm7 nn8 nm8
attribute [local go_sem] Oper.semAt_some make_func1 make_funcB
/-- How many words a call takes, by its Op. -/
def takesL : List Int := [-1, 1, 2, 1, 3, 2, 0, 0]
def takesE (op : Int) : Int := if 0 ≤ op ∧ op < 8 then takesL.getD op.toNat 0 else -1
/-- The table of takes lies in block 0. -/
def TakesAt (w : World) : Prop := 0 < w.heap.size ∧ ∀ i, i < 8 → w.cell? ⟨0, i, none⟩ = some (I (takesL.getD i 0))
theorem TakesAt.ch {w w' : World} (h : TakesAt w) (c : Ch [] w w') : TakesAt w' := ⟨Nat.lt_of_lt_of_le h.1 c.size, fun i hi => (c.cell _ _ h.1).trans (h.2 i hi)⟩
theorem stakes_any (op : Int) (w : World) (h : TakesAt w) : Calls Tryd.prog 60 #[I op] w fun e w' => e = .returned (I (takesE op)) ∧ w = w' := by
  by_cases h0 : 0 ≤ op
  · by_cases h8 : op < 8
    · obtain ⟨n, rfl⟩ : ∃ n : Nat, op = n := ⟨op.toNat, by omega⟩
      have e : takesE n = takesL.getD n 0 := by unfold takesE; rw [if_pos ⟨h0, h8⟩]; rfl
      have hc := h.2 n (by omega)
      rw [e]
      have hn8 : n < 8 := by omega
      obtain ⟨v, hv⟩ : ∃ v, takesL.getD n 0 = v := ⟨_, rfl⟩
      rw [hv] at hc ⊢
      clear hv e h h0
      go_enter Tryd.func60, Tryd.ntmps60
      go_wp2
      go_ret
      exact ⟨rfl, rfl⟩
    · have e : takesE op = -1 := by unfold takesE; rw [if_neg (by omega)]
      rw [e]
      clear h e
      go_enter Tryd.func60, Tryd.ntmps60
      go_wp2
      go_ret
      exact ⟨rfl, rfl⟩
  · have e : takesE op = -1 := by unfold takesE; rw [if_neg (by omega)]
    rw [e]
    clear h e
    go_enter Tryd.func60, Tryd.ntmps60
    go_wp2
    go_ret
    exact ⟨rfl, rfl⟩
theorem sright1_any (b o : Nat) (x : BitVec 64) (w : World) (h : w.cell? ⟨b, o, none⟩ = some (U x)) : Calls Tryd.prog 63 #[.pointer (some ⟨b, o, none⟩)] w fun e w' => e = .returned (.bool (N x == 0)) ∧ w = w' := by
  go_enter Tryd.func63, Tryd.ntmps63
  go_wp2
  go_ret
  exact ⟨rfl, rfl⟩
/-- What all[*uint64] asks of one. -/
theorem sallw1_any (b o g : Nat) (x : BitVec 64) (w : World) (h : w.cell? ⟨b, o, none⟩ = some (U x)) (hg : w.cell? ⟨g, 0, none⟩ = some (.func (.func 63) #[] #[])) :
    Calls Tryd.prog 79 #[.pointer (some ⟨b, o, none⟩), .pointer (some ⟨g, 0, none⟩)] w fun e w' => e = .returned (.bool (!(N x == 0))) ∧ w = w' := by
  have S1 := fun w h => sright1_any b o x w h
  go_enter Tryd.func79, Tryd.ntmps79
  go_wp2_with (go_at_call 63; refine (S1 _ h).mono ?_; rintro e w' ⟨rfl, rfl⟩)
  go_ret
  exact ⟨rfl, rfl⟩
set_option maxRecDepth 100000 in
theorem sidxw_any (a o n c g : Nat) (P : Nat → Nat × Nat) (X : Nat → BitVec 64) (w : World) (hn : n ≤ 3) (hp : ∀ i, i < n → w.cell? ⟨a, o + i, none⟩ = some (.pointer (some ⟨(P i).1, (P i).2, none⟩))) (hx : ∀ i, i < n → w.cell? ⟨(P i).1, (P i).2, none⟩ = some (U (X i)))
    (hg : w.cell? ⟨g, 0, none⟩ = some (.func (.func 63) #[] #[])) :
    Calls Tryd.prog 86 #[.slice (some ⟨a, o, none⟩) n c, .func (.func 79) #[] #[.pointer (some ⟨g, 0, none⟩)]] w fun e w' => ∃ r : Int, e = .returned (I r) ∧ ((r = -1 ∧ ∀ i, i < n → X i = 0#64) ∨ (0 ≤ r ∧ ∃ i, i < n ∧ X i ≠ 0#64)) ∧ w = w' := by
  go_enter Tryd.func86, Tryd.ntmps86
  go_wp2
  go_loopw [8] (fun i wr => ∃ j : Nat, i = I j ∧ j ≤ n ∧ (∀ i, i < j → X i = 0#64) ∧ wr = w) (fun i _ => n - (intOf i).toNat)
  case atStart => exact ⟨0, rfl, by omega, fun i h => absurd h (by omega), rfl⟩
  case round =>
    obtain ⟨j, hi, hj, hz, hwr⟩ := hrel
    subst hi hwr
    have HZ := Lib.hid hz
    have HP := Lib.hid hp
    have HX := Lib.hid hx
    clear hz hp hx
    rcases (show j = n ∨ j < n by omega) with rfl | hlt
    · go_wp2
      go_ret
      exact ⟨_, rfl, .inl ⟨rfl, HZ.out⟩, rfl⟩
    · have hpj := HP.out j hlt
      have hxj := HX.out j hlt
      have S1 := fun w h hg => sallw1_any (P j).1 (P j).2 g (X j) w h hg
      obtain ⟨pb, hpb⟩ : ∃ x, (P j).1 = x := ⟨_, rfl⟩
      obtain ⟨po, hpo⟩ : ∃ x, (P j).2 = x := ⟨_, rfl⟩
      obtain ⟨x, hx⟩ : ∃ x, X j = x := ⟨_, rfl⟩
      rw [hpb, hpo] at hpj
      rw [hpb, hpo, hx] at hxj
      rw [hpb, hpo, hx] at S1
      have hjn : (j : Int) < n := by omega
      by_cases h0 : x = 0#64
      · have hb : (!(N x == 0)) = false := by rw [h0]; decide
        go_wp2_with (go_at_call 79; refine (S1 _ hxj hg).mono ?_; rintro e w' ⟨rfl, rfl⟩)
        go_roundw
        case rel =>
          refine ⟨j + 1, by go_num, by omega, fun i hi => ?_, trivial⟩
          rcases (show i < j ∨ i = j by omega) with h | h
          · exact HZ.out i h
          · rw [h, hx, h0]
        case measure => simp [intOf]; omega
      · have hb : (!(N x == 0)) = true := by
          have : ¬ N x = 0 := fun h => h0 ((N_inj x 0#64).1 (by rw [h]; rfl))
          simpa using this
        go_wp2_with (go_at_call 79; refine (S1 _ hxj hg).mono ?_; rintro e w' ⟨rfl, rfl⟩)
        go_ret
        exact ⟨_, rfl, .inr ⟨by omega, j, hlt, by rw [hx]; exact h0⟩, rfl⟩
end Go.Proofs.Hc
/- Package script: words, right. -/
namespace Go.Proofs.Hc
open Go.RowKit
set_option linter.unusedVariables false
attribute [local go_sem] wrap_u64 wrap_u8 bits_xor64 bits_and64 bits_or64 bits_not64 bits_xor8 bits_and8 bits_or8 signed64 signed8 ofInt_N BitVec.ofInt_add BitVec.ofInt_mul ofInt_sub' ofInt8_N64 ofInt64_N8 wide8 eqN neN shr_pow shr1 shr7 shr56
attribute [local go_sem high] bits_com64 shl_wrap
attribute [local go_sem] nn2 nm2 nn3 nm3 nn4 nm4 nn5 nm5 nn6 nm6 nn7 nm7 nn8 nm8
attribute [local go_sem] Oper.semAt_some make_func1 make_funcB
theorem results_cellB1 {P : Program} {fn : Func} {p : Tmp} {T1 : TypeId} (h : fn.results = #[.cell p T1]) (tmps : Array Value) (a : Addr) (w : World) {x : Value}
    (hp : tmps.getD p undef = .pointer (some a)) (h1 : (loadVar T1 a).run P w = .ok x w) : (results fn tmps).run P w = .ok x w := by
  have hp' : tmps[p]?.getD undef = .pointer (some a) := by simpa using hp
  simp [results, h, hp', asAddr, h1]
theorem sconw_any (a o n c g : Nat) (P : Nat → Nat × Nat) (X : Nat → BitVec 64) (w : World) (hn : n ≤ 3) (hp : ∀ i, i < n → w.cell? ⟨a, o + i, none⟩ = some (.pointer (some ⟨(P i).1, (P i).2, none⟩))) (hx : ∀ i, i < n → w.cell? ⟨(P i).1, (P i).2, none⟩ = some (U (X i)))
    (hg : w.cell? ⟨g, 0, none⟩ = some (.func (.func 63) #[] #[])) (b : Bool) (hb : b = true ↔ ∃ i, i < n ∧ X i ≠ 0#64) :
    Calls Tryd.prog 78 #[.slice (some ⟨a, o, none⟩) n c, .func (.func 79) #[] #[.pointer (some ⟨g, 0, none⟩)]] w fun e w' => e = .returned (.bool b) ∧ w = w' := by
  have I1 := sidxw_any a o n c g P X w hn hp hx hg
  clear hp hx hg
  have HB := Lib.hid hb
  clear hb
  go_enter Tryd.func78, Tryd.ntmps78
  go_wp2_with fail
  refine I1.mono ?_
  rintro e w' ⟨r, rfl, hr, rfl⟩
  rcases hr with ⟨rfl, hz⟩ | ⟨hr, hz⟩
  · have e : b = false := by
      cases b with
      | false => rfl
      | true => obtain ⟨i, hi, hne⟩ := HB.out.1 rfl; exact absurd (hz i hi) hne
    subst e
    clear hz
    go_wp2
    go_ret
    exact ⟨rfl, rfl⟩
  · have e : b = true := HB.out.2 hz
    subst e
    clear hz
    go_wp2
    go_ret
    exact ⟨rfl, rfl⟩
attribute [local go_sem] cell_heap ice_heap cellAt_cells iceAt_cells setAt_cells size_setCell rowAt_cells canLay_cells laidAt_cells size_onObj rowRes_some layRes_true
attribute [local go_sem ↓] heap_alloc heap_drew heap_drewN heap_setCell heap_putObj heap_onObj
theorem sallws_any (a o n c : Nat) (P : Nat → Nat × Nat) (X : Nat → BitVec 64) (w : World) (hn : n ≤ 3) (hp : ∀ i, i < n → w.cell? ⟨a, o + i, none⟩ = some (.pointer (some ⟨(P i).1, (P i).2, none⟩))) (hx : ∀ i, i < n → w.cell? ⟨(P i).1, (P i).2, none⟩ = some (U (X i)))
    (b : Bool) (hb : b = true ↔ ∃ i, i < n ∧ X i ≠ 0#64) (ha : a < w.heap.size) (hP : ∀ i, i < n → (P i).1 < w.heap.size) :
    Calls Tryd.prog 62 #[.slice (some ⟨a, o, none⟩) n c, .func (.func 63) #[] #[]] w fun e w' => e = .returned (.bool (!b)) ∧ Ch [] w w' := by
  have C : Ch [] w (w.alloc (.cells #[.func (.func 63) #[] #[]] 92)) := (Ch.refl [] w).alloc _
  have hg : (w.alloc (.cells #[.func (.func 63) #[] #[]] 92)).cell? ⟨w.heap.size, 0, none⟩ = some (.func (.func 63) #[] #[]) := by
    rw [cell_heap, heap_alloc, if_pos rfl]; rfl
  have I1 := sconw_any a o n c w.heap.size P X _ hn (fun i hi => (C.cell _ _ ha).trans (hp i hi)) (fun i hi => (C.cell _ _ (hP i hi)).trans (hx i hi)) hg b hb
  clear hp hx hg hb hP
  go_enter Tryd.func62, Tryd.ntmps62
  go_wp2_with fail
  refine I1.mono ?_
  rintro e w' ⟨rfl, rfl⟩
  go_wp2
  go_ret
  exact ⟨rfl, C⟩
theorem srow3p (a : Addr) (v : Value) : storeVar 87 a v = storeRow 87 a v := rfl
theorem store3p (g o : Nat) (vs : Array Value) (w : World) : (storeRow 87 ⟨g, o, none⟩ (.agg vs)).run Tryd.prog w = layRes Tryd.prog 87 g o vs w (((w.heap[g]?).map (canLay o 3 vs)).getD false) :=
  run_lay (by kernel_rfl) g o vs w
theorem brow3p (ps : Array (Nat × Value)) : Instr.build 87 ps = buildRow 87 ps := rfl
theorem build3p (a b c : Option Addr) (w : World) : (buildRow 87 #[(0, .pointer a), (1, .pointer b), (2, .pointer c)]).run Tryd.prog w = .ok (.agg #[.pointer a, .pointer b, .pointer c]) w := by kernel_rfl
theorem one3p (a b c : Option Addr) : allOne #[.pointer a, .pointer b, .pointer c] = true := by simp [allOne, Value.oneCell']
attribute [local go_sem] store3p build3p one3p
attribute [local go_sem ↓] srow3p brow3p
def wp3 (B : Nat) : Array Value := #[.pointer (some ⟨B, 1, none⟩), .pointer (some ⟨B, 2, none⟩), .pointer (some ⟨B, 3, none⟩)]
theorem w3_world (B : Nat) (w : World) : ∃ W, w.alloc (.cells #[.pointer none, .pointer none, .pointer none] 87) = W ∧ Ch [] w W ∧ W.heap[w.heap.size]? = some (.cells #[.pointer none, .pointer none, .pointer none] 87 (0, 0)) :=
  ⟨_, rfl, (Ch.refl [] w).alloc _, by rw [heap_alloc, if_pos rfl]⟩
set_option maxRecDepth 100000 in
theorem swords_any (B : Nat) (w : World) :
    Calls Tryd.prog 61 #[.pointer (some ⟨B, 0, none⟩)] w fun e w' => e = .returned (.agg (wp3 B)) ∧ Ch [] w w' := by
  obtain ⟨W, hW, C, h0⟩ := w3_world B w
  go_enter Tryd.func61, Tryd.ntmps61
  go_wp2_with fail
  try rw [hW]
  clear hW
  have sP : (fun W' : World => Ch [] w W' ∧ W'.heap[w.heap.size]? = some (.cells #[.pointer none, .pointer none, .pointer none] 87 (0, 0))) W.drew := ⟨C.drew, h0⟩
  refine wp_region_held_drew (S := fun W' : World => Ch [] w W' ∧ ∃ cs, W'.heap[w.heap.size]? = some (.cells cs 87 (0, 0)) ∧ (cs = #[.pointer none, .pointer none, .pointer none] ∨ cs = wp3 B)) (by kernel_rfl) ⟨sP.1, _, sP.2, .inl rfl⟩ ?_
  intro _
  simp only [List.size_toArray, List.length_cons, List.length_nil, Nat.reduceAdd]
  clear C h0
  generalize W.drew = w2 at *
  refine wpAnyH_take (i := 0) (oi := ⟨some 3, _, _, _, _, none⟩) (v := ?_) rfl (by kernel_rfl) (by kernel_rfl) (by kernel_rfl) (fun _ _ _ h => h) (Or.inl ⟨by rfl, ?_⟩) ⟨sP.1, _, sP.2, .inl rfl⟩ ?_
  rotate_left
  · intro wq hSq
    first | (go_simp; done) | (go_simp; with_reducible rfl)
  try simp only [Act.put, List.setIfInBounds_toArray, List.set_cons_zero, List.set_cons_succ]
  refine wpAnyH_take (i := 1) (oi := ⟨some 4, _, _, _, _, none⟩) (v := ?_) rfl (by kernel_rfl) (by kernel_rfl) (by kernel_rfl) (fun _ _ _ h => h) (Or.inl ⟨by rfl, ?_⟩) ⟨sP.1, _, sP.2, .inl rfl⟩ ?_
  rotate_left
  · intro wq hSq
    first | (go_simp; done) | (go_simp; with_reducible rfl)
  try simp only [Act.put, List.setIfInBounds_toArray, List.set_cons_zero, List.set_cons_succ]
  refine wpAnyH_take (i := 2) (oi := ⟨some 5, _, _, _, _, none⟩) (v := ?_) rfl (by kernel_rfl) (by kernel_rfl) (by kernel_rfl) (fun _ _ _ h => h) (Or.inl ⟨by rfl, ?_⟩) ⟨sP.1, _, sP.2, .inl rfl⟩ ?_
  rotate_left
  · intro wq hSq
    first | (go_simp; done) | (go_simp; with_reducible rfl)
  try simp only [Act.put, List.setIfInBounds_toArray, List.set_cons_zero, List.set_cons_succ]
  refine wpAnyH_take (i := 3) (oi := ⟨some 6, _, _, _, _, none⟩) (v := ?_) rfl (by kernel_rfl) (by kernel_rfl) (by kernel_rfl) (fun _ _ _ h => h) (Or.inl ⟨by rfl, ?_⟩) ⟨sP.1, _, sP.2, .inl rfl⟩ ?_
  rotate_left
  · intro wq hSq
    first | (go_simp; done) | (go_simp; with_reducible rfl)
  try simp only [Act.put, List.setIfInBounds_toArray, List.set_cons_zero, List.set_cons_succ]
  refine wpAnyH_take (i := 4) (oi := ⟨some 7, _, _, _, _, none⟩) (v := ?_) rfl (by kernel_rfl) (by kernel_rfl) (by kernel_rfl) (fun _ _ _ h => h) (Or.inl ⟨by rfl, ?_⟩) ⟨sP.1, _, sP.2, .inl rfl⟩ ?_
  rotate_left
  · intro wq hSq
    first | (go_simp; done) | (go_simp; with_reducible rfl)
  try simp only [Act.put, List.setIfInBounds_toArray, List.set_cons_zero, List.set_cons_succ]
  refine wpAnyH_take (i := 5) (oi := ⟨some 8, _, _, _, _, none⟩) (v := ?_) rfl (by kernel_rfl) (by kernel_rfl) (by kernel_rfl) (fun _ _ _ h => h) (Or.inl ⟨by rfl, ?_⟩) ⟨sP.1, _, sP.2, .inl rfl⟩ ?_
  rotate_left
  · intro wq hSq
    first | (go_simp; done) | (go_simp; with_reducible rfl)
  try simp only [Act.put, List.setIfInBounds_toArray, List.set_cons_zero, List.set_cons_succ]
  refine wpAnyH_take (i := 6) (oi := ⟨some 9, _, _, _, _, none⟩) (v := ?_) rfl (by kernel_rfl) (by kernel_rfl) (by kernel_rfl) (fun _ _ _ h => h) (Or.inl ⟨by rfl, ?_⟩) ⟨sP.1, _, sP.2, .inl rfl⟩ ?_
  rotate_left
  · intro wq hSq
    first | (go_simp; done) | (go_simp; with_reducible rfl)
  try simp only [Act.put, List.setIfInBounds_toArray, List.set_cons_zero, List.set_cons_succ]
  refine wpAnyH_take (i := 7) (oi := ⟨some 10, _, _, _, _, none⟩) (v := ?_) rfl (by kernel_rfl) (by kernel_rfl) (by kernel_rfl) (fun _ _ _ h => h) (Or.inl ⟨by rfl, ?_⟩) ⟨sP.1, _, sP.2, .inl rfl⟩ ?_
  rotate_left
  · intro wq hSq
    first | (go_simp; done) | (go_simp; with_reducible rfl)
  try simp only [Act.put, List.setIfInBounds_toArray, List.set_cons_zero, List.set_cons_succ]
  refine wpAnyH_take (i := 8) (oi := ⟨some 11, _, _, _, _, none⟩) (v := ?_) rfl (by kernel_rfl) (by kernel_rfl) (by kernel_rfl) (fun _ _ _ h => h) (Or.inl ⟨by rfl, ?_⟩) ⟨sP.1, _, sP.2, .inl rfl⟩ ?_
  rotate_left
  · intro wq hSq
    first | (go_simp; done) | (go_simp; with_reducible rfl)
  try simp only [Act.put, List.setIfInBounds_toArray, List.set_cons_zero, List.set_cons_succ]
  refine wpAnyH_take (i := 9) (oi := ⟨some 12, _, _, _, _, none⟩) (v := ?_) rfl (by kernel_rfl) (by kernel_rfl) (by kernel_rfl) (fun _ _ _ h => h) (Or.inl ⟨by rfl, ?_⟩) ⟨sP.1, _, sP.2, .inl rfl⟩ ?_
  rotate_left
  · intro wq hSq
    first | (go_simp; done) | (go_simp; with_reducible rfl)
  try simp only [Act.put, List.setIfInBounds_toArray, List.set_cons_zero, List.set_cons_succ]
  have q2 := sP.2
  refine wpAnyH_ready (rs := [10]) (by kernel_rfl) (by simp) ?_
  refine AllReadyH.cons rfl (fun K hK => ?_) AllReadyH.nil
  go_simp
  have sQ : (fun W' : World => Ch [] w W' ∧ ∃ cs, W'.heap[w.heap.size]? = some (.cells cs 87 (0, 0)) ∧ (cs = #[.pointer none, .pointer none, .pointer none] ∨ cs = wp3 B)) (World.onObj w2 w.heap.size (laidAt 0 (wp3 B))) := by
    refine ⟨sP.1.onObj (.inr (Nat.le_refl _)) _, wp3 B, ?_, .inr rfl⟩
    rw [heap_onObj, if_pos rfl, sP.2]
    rfl
  refine hK.out _ _ sQ (fun _ => ?_)
  clear hK K
  refine wpAnyH_done (by kernel_rfl) ?_ _
  have hq : (World.onObj w2 w.heap.size (laidAt 0 (wp3 B))).heap[w.heap.size]? = some (.cells (wp3 B) 87 (0, 0)) := by
    rw [heap_onObj, if_pos rfl, sP.2]
    rfl
  go_wp2
  exact bodyPost_ret (v := .agg (wp3 B)) (results_cellB1 Tryd.results61 _ _ _ rfl (run_loadVar_row _ _ 87 87 (wp3 B) (0, 0) _ hq Tryd.underlying87 rfl (by kernel_rfl))) rfl ⟨rfl, sQ.1⟩
end Go.Proofs.Hc
