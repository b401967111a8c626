/- Package table: where a key is put. -/
import Derived.Test.YtcikopeddljgkaaGreatKHpa
import Derived.Test.YtcikopeddljgkaaGreatK0
set_option linter.unusedSimpArgs false
set_option linter.unusedVariables false
set_option maxHeartbeats 1000000
set_option maxRecDepth 100000
namespace Go.Proofs.Hc
open Go.RowKit
attribute [local go_sem] zbs zca zax zbc zbn zba zbm zbo zbu signed64 signed8 zar BitVec.ofInt_add BitVec.ofInt_mul ofInt_sub' zay zaz wide8 eqN neN zbz shr1 shr7 shr56
attribute [local go_sem high] zbb zbt
attribute [local go_sem] zag zbw zah zas zad zbe zaq zal zbl zan zbd zbf
attribute [local go_sem] load26 load73 load23 store26 build73
attribute [local go_sem ↓] lrow26 lrow73 lrow23 srow26 zero26 brow73 zac zaw zbg zaa zab
attribute [local go_sem] zai zav zat zbj zbk zbp zao zau zbq zbi zbh
attribute [local go_sem] nn2 nm2 nn3 nm3 nn4 nm4 nn5 nm5 nn6 nm6 nn7 nm7 nn8 nm8
section
attribute [local go_sem] Oper.semAt_some zap zby
attribute [local go_sem] box26 zbx cell0 cell1 cell2 cell3 cell4 zci zch
attribute [local go_sem] cell5 cell6
def freeM (c : BitVec 64) : BitVec 8 := emptyM c ||| delM c
def freeIn (t : Tab) (g : Nat) : Option (Nat × Nat) := (lanesOf (freeM (t.c g))).head?.map fun x => (g, x)
def freeAt (t : Tab) (l : List Nat) : Option (Nat × Nat) := l.findSome? (freeIn t)
def placeT (t : Tab) (s k : BitVec 64) : Except Int Nat :=
  if hasT t (hashOf s k) then
    if hasKT t k then .error 5
    else match freeAt t (rowT t s k) with
      | none => .error 6
      | some (g, x) => if (delM (t.c g) &&& laneM x != 0#8) || decide (0 < t.can) then .ok (8 * g + x) else .error 6
  else .error 2
theorem row_bound (t : Tab) (s k : BitVec 64) : ∀ g ∈ rowT t s k, g < 2 := by
  have h := g0_lt (hash1 (hashOf s k))
  intro g hg
  unfold rowT gOf at hg
  split at hg <;> simp at hg <;> omega
theorem findSome_skip {α β : Type} (f : α → Option β) (l post : List α) (h : ∀ g ∈ l, f g = none) : (l ++ post).findSome? f = post.findSome? f := by
  induction l with
  | nil => rfl
  | cons g l ih =>
    rw [List.cons_append, List.findSome?_cons, h g (by simp)]
    exact ih fun g' hg' => h g' (by simp [hg'])
theorem freeAt_none (t : Tab) (l : List Nat) (h : ∀ g ∈ l, freeIn t g = none) : freeAt t l = none := by
  have := findSome_skip (freeIn t) l [] h
  rw [List.append_nil] at this
  exact this
theorem freeAt_hit (t : Tab) (l post : List Nat) (g : Nat) (y : Nat × Nat) (h : ∀ g ∈ l, freeIn t g = none) (hg : freeIn t g = some y) : freeAt t (l ++ g :: post) = some y := by
  have h1 := findSome_skip (freeIn t) l (g :: post) h
  have h2 : (g :: post).findSome? (freeIn t) = some y := by rw [List.findSome?_cons, hg]
  exact h1.trans h2
theorem wrap_slot (g x : Nat) (hg : g < 2) (hx : x < 8) : IntKind.i64.wrap (IntKind.i64.wrap (8 * (g : Int)) + (x : Int)) = ((8 * g + x : Nat) : Int) := by
  simp only [IntKind.wrap_i64]; omega
theorem first_cases (m : BitVec 8) : ((lanesOf m).head? = none ∧ firstV m = .tuple #[I 0, .bool false]) ∨ ∃ x : Nat, x < 8 ∧ (lanesOf m).head? = some x ∧ firstV m = .tuple #[I x, .bool true] := by
  unfold firstV
  have hl : ∀ x ∈ lanesOf m, x < 8 := fun x hx => by
    unfold lanesOf at hx
    simpa using (List.mem_filter.1 hx).1
  generalize lanesOf m = l at *
  cases l with
  | nil => exact .inl ⟨rfl, rfl⟩
  | cons x l => exact .inr ⟨x, hl x (by simp), rfl, rfl⟩
theorem freeIn_eq (t : Tab) (g : Nat) : freeIn t g = ((lanesOf (freeM (t.c g))).head?).map fun x => (g, x) := by rw [freeIn]
theorem freeIn_cases (t : Tab) (g : Nat) : (freeIn t g = none ∧ firstV (freeM (t.c g)) = .tuple #[I 0, .bool false]) ∨
    ∃ x : Nat, x < 8 ∧ freeIn t g = some (g, x) ∧ firstV (freeM (t.c g)) = .tuple #[I x, .bool true] := by
  have hf := freeIn_eq t g
  generalize freeM (t.c g) = m at *
  generalize freeIn t g = y at *
  subst hf
  rcases first_cases m with ⟨h1, h2⟩ | ⟨x, hx, h1, h2⟩
  · exact .inl ⟨by rw [h1]; rfl, h2⟩
  · exact .inr ⟨x, hx, by rw [h1]; rfl, h2⟩
theorem place_goes (t : Tab) (s k : BitVec 64) (b : Nat) (w : World) (hg : hasT t (hashOf s k) = false) (hb : w.heap[b]? = some (.cells (hcells t s) 141 (0, 0))) :
    Calls Tryz.prog 210 #[.pointer (some ⟨b, 0, none⟩), U k] w fun e w' => e = retOr (fun n : Nat => I n) (placeT t s k) ∧ Ch [] w w' := by
  have hP : placeT t s k = .error 2 := by unfold placeT; rw [if_neg (by rw [hg]; decide)]
  rw [hP]
  have G1 := fun w hb => goes_any b t s k w hb
  rw [hg] at G1
  clear hP hg
  go_enter Tryz.func210, Tryz.ntmps210
  have hbn : ¬ b = w.heap.size := by have := (Array.getElem?_eq_some_iff.1 hb).1; omega
  go_wp2
  go_step3
  go_wp2_with (first
    | (go_at_call 84; refine (G1 _ (by simp [go_sem, hb, hbn])).mono ?_; rintro e w1 ⟨rfl, hc1⟩)
    | (go_at_call 83; refine (tneed_no _ _).mono ?_; rintro e w2 ⟨rfl, rfl⟩))
  exact ⟨rfl, rfl, ((Ch.refl [] w).alloc _).trans hc1⟩
theorem place_has (t : Tab) (s k : BitVec 64) (b : Nat) (w : World) (hok0 : ctrlOk (t.c 0) = true) (hok1 : ctrlOk (t.c 1) = true) (hg : hasT t (hashOf s k) = true) (hh : hasKT t k = true) (hb : w.heap[b]? = some (.cells (hcells t s) 141 (0, 0))) :
    Calls Tryz.prog 210 #[.pointer (some ⟨b, 0, none⟩), U k] w fun e w' => e = retOr (fun n : Nat => I n) (placeT t s k) ∧ Ch [] w w' := by
  have hP : placeT t s k = .error 5 := by unfold placeT; rw [if_pos hg, if_pos hh]
  rw [hP]
  have G1 := fun w hb => goes_any b t s k w hb
  have G2 := fun w hb => has_key t s k b w hok0 hok1 hb
  rw [hg] at G1
  rw [hh] at G2
  have hbn : ¬ b = w.heap.size := by have := (Array.getElem?_eq_some_iff.1 hb).1; omega
  have b0 : (w.alloc (.cells #[.pointer (some ⟨b, 0, none⟩)] 137)).heap[w.heap.size]? = some (.cells #[.pointer (some ⟨b, 0, none⟩)] 137 (0, 0)) := by simp [go_sem]
  have b1 : (w.alloc (.cells #[.pointer (some ⟨b, 0, none⟩)] 137)).heap[b]? = some (.cells (hcells t s) 141 (0, 0)) := by simp [go_sem, hb, hbn]
  have hB0 := Lib.hid b0
  have hB1 := Lib.hid b1
  clear hP hg hh hok0 hok1 b0 b1
  go_enter Tryz.func210, Tryz.ntmps210
  go_wp2
  go_step3
  go_wp2_with (first
    | (go_at_call 84; refine (G1 _ hB1.out).mono ?_; rintro e w1 ⟨rfl, hc1⟩; have d0 := hkeep hc1 hB0.out; have d1 := hkeep hc1 hB1.out)
    | (go_at_call 265; refine (G2 _ d1).mono ?_; rintro e w2 ⟨rfl, hc2⟩)
    | (go_at_call 83; first | ((with_reducible refine (tneed_yes _ _).mono ?_); rintro e w3 ⟨rfl, rfl⟩) | ((with_reducible refine (tneed_no _ _).mono ?_); rintro e w3 ⟨rfl, rfl⟩)))
  exact ⟨rfl, rfl, (((Ch.refl [] w).alloc _).trans hc1).trans hc2⟩
theorem place_main (t : Tab) (s k : BitVec 64) (b : Nat) (w : World) (hok0 : ctrlOk (t.c 0) = true) (hok1 : ctrlOk (t.c 1) = true) (hg : hasT t (hashOf s k) = true) (hh : hasKT t k = false) (hb : w.heap[b]? = some (.cells (hcells t s) 141 (0, 0))) :
    Calls Tryz.prog 210 #[.pointer (some ⟨b, 0, none⟩), U k] w fun e w' => e = retOr (fun n : Nat => I n) (placeT t s k) ∧ Ch [] w w' := by
  have hP : placeT t s k = match freeAt t (rowT t s k) with
      | none => .error 6
      | some (g, x) => if (delM (t.c g) &&& laneM x != 0#8) || decide (0 < t.can) then .ok (8 * g + x) else .error 6 := by
    unfold placeT; rw [if_pos hg, if_neg (by rw [hh]; decide)]
  generalize placeT t s k = r at *
  have G1 := fun w hb => goes_any b t s k w hb
  have G2 := fun w hb => has_key t s k b w hok0 hok1 hb
  have Y1 := fun p q w hb hp hq => row_yields t s k b p q w hok0 hok1 hb hp hq
  have R1 := Lib.hid (row_bound t s k)
  have hok := Lib.hid (fun g (h : g < 2) => pick_ok t g h hok0 hok1)
  rw [hg] at G1
  rw [hh] at G2
  generalize rowT t s k = xs at *
  have HP := Lib.hid hP
  have hbn : ¬ b = w.heap.size := by have := (Array.getElem?_eq_some_iff.1 hb).1; omega
  have b0 : (w.alloc (.cells #[.pointer (some ⟨b, 0, none⟩)] 137)).heap[w.heap.size]? = some (.cells #[.pointer (some ⟨b, 0, none⟩)] 137 (0, 0)) := by simp [go_sem]
  have b1 : (w.alloc (.cells #[.pointer (some ⟨b, 0, none⟩)] 137)).heap[b]? = some (.cells (hcells t s) 141 (0, 0)) := by simp [go_sem, hb, hbn]
  have hB0 := Lib.hid b0
  have hB1 := Lib.hid b1
  have HB := Lib.hid hb
  clear hP hg hh hok0 hok1 b0 b1 hbn hb
  refine (callsIn_wide (n := 3)).1 ?_
  refine callsIn_of_wp_marks Tryz.func210 rfl trivial ?_
  simp only [Tryz.ntmps210, List.size_toArray, List.length_cons, List.length_nil, Nat.reduceAdd, Nat.reduceSub, Array.replicate_succ, Array.replicate_zero, List.push_toArray, List.append_toArray, List.nil_append, List.cons_append]
  gi_wp2
  refine wpIn_wide.2 ?_
  apply wp_scope_straight
  refine (wpIn_wide (n := 3)).1 ?_
  gi_wp2_with (first
    | (refine ⟨trivial, ?_⟩; gi_at_call 84; refine (inW (G1 _ hB1.out)).mono ?_; rintro e w1 ⟨rfl, hc1⟩; have d0 := hkeep hc1 hB0.out; have d1 := hkeep hc1 hB1.out)
    | (refine ⟨trivial, ?_⟩; gi_at_call 265; refine (inW (G2 _ d1)).mono ?_; rintro e w2 ⟨rfl, hc2⟩; have e0 := hkeep hc2 d0; have e1 := hkeep hc2 d1; obtain ⟨q0, q1, q2, q3⟩ := neq4 (Array.getElem?_eq_some_iff.1 e0).1; obtain ⟨r0, r1, r2, r3⟩ := neq4 (Array.getElem?_eq_some_iff.1 e1).1)
    | (refine ⟨trivial, ?_⟩; gi_at_call 83; refine (inW (tneed_yes _ _)).mono ?_; rintro e w3 ⟨rfl, rfl⟩))
  apply wpIn_label
  gi_wp2_with (refine ⟨trivial, ?_⟩; gi_at_call 207; refine (inW (row_make _ _ _)).mono ?_; rintro e w' ⟨rfl, rfl⟩)
  obtain ⟨W0, hW0⟩ : ∃ W0, (((w2.alloc (.cells #[.int .i64 (-1)] 3)).alloc (.cells #[.bool false] 4)).alloc (.cells #[.pointer (some ⟨b, 0, none⟩)] 137)).alloc (.cells #[U k] 22) = W0 := ⟨_, rfl⟩
  have hs0 : W0.heap.size = w2.heap.size + 4 := by rw [← hW0]; simp
  have hch : Ch [] w2 W0 := by rw [← hW0]; exact ((((Ch.refl [] w2).alloc _).alloc _).alloc _).alloc _
  have hC0 : Ch [] w W0 := (((((Ch.refl [] w).alloc _).trans hc1).trans hc2)).trans hch
  have b2 : W0.heap[w2.heap.size]? = some (.cells #[.int .i64 (-1)] 3 (0, 0)) := by rw [← hW0]; simp [go_sem]
  have b3 : W0.heap[w2.heap.size + 1]? = some (.cells #[.bool false] 4 (0, 0)) := by rw [← hW0]; simp [go_sem]
  have b4 : W0.heap[w2.heap.size + 1 + 1]? = some (.cells #[.pointer (some ⟨b, 0, none⟩)] 137 (0, 0)) := by rw [← hW0]; simp [go_sem]
  have b5 : W0.heap[w2.heap.size + 1 + 1 + 1]? = some (.cells #[U k] 22 (0, 0)) := by rw [← hW0]; simp [go_sem]
  have b0 := hkeep hch e0
  have b1 := hkeep hch e1
  have hlt : w.heap.size < w2.heap.size ∧ b < w2.heap.size := ⟨(Array.getElem?_eq_some_iff.1 e0).1, (Array.getElem?_eq_some_iff.1 e1).1⟩
  rw [hW0]
  clear hW0 hch e0 e1 hc1 hc2 d0 d1 q0 q1 q2 q3 r0 r1 r2 r3 G1 G2 hB0 hB1
  generalize w2.heap.size = L at *
  refine range_lawO (n := 1) (xs := xs) rfl enters_row (Y1 _ _ W0 b1 b4 b5) (fun _ => rfl) (by simp) (by simp <;> omega)
    (fun pre O W => (∀ x, O x ↔ (x = L ∨ x = L + 1)) ∧ (∀ g ∈ pre, freeIn t g = none) ∧ Ch [] w W ∧ W.heap[w.heap.size]? = some (.cells #[.pointer (some ⟨b, 0, none⟩)] 137 (0, 0)) ∧ W.heap[L]? = some (.cells #[.int .i64 (-1)] 3 (0, 0)) ∧ W.heap[L + 1]? = some (.cells #[.bool false] 4 (0, 0)))
    (fun c W => c = .exit 0 ∧ ∃ g x : Nat, g < 2 ∧ x < 8 ∧ freeAt t xs = some (g, x) ∧ Ch [] w W ∧ W.heap[w.heap.size]? = some (.cells #[.pointer (some ⟨b, 0, none⟩)] 137 (0, 0)) ∧ W.heap[L]? = some (.cells #[.int .i64 ((8 * g + x : Nat) : Int)] 3 (0, 0)) ∧ W.heap[L + 1]? = some (.cells #[.bool (delM (t.c g) &&& laneM x != 0#8)] 4 (0, 0)))
    (fun x => x = L ∨ x = L + 1) ?hIO ?hI ?hIx ⟨fun _ => Iff.rfl, by simp, hC0, b0, b2, b3⟩ ?a₁ ?assign ?body ?done ?stop
  case assign =>
    intro x W K hK
    gi_wp2
    exact hK
  case hIO =>
    rintro pre O A ⟨h, _, hc, _, h2, h3⟩ x hx
    have l1 := (Array.getElem?_eq_some_iff.1 h3).1
    rcases (h x).1 hx with rfl | rfl
    · exact ⟨.inl (by omega), by omega, by simp; omega⟩
    · exact ⟨.inl (by omega), by omega, by simp; omega⟩
  case hI =>
    rintro pre O A B ⟨h0, hd, hc, h1, h2, h3⟩ hAB
    exact ⟨h0, hd, hc.trans2 hAB (by simp <;> omega), hkeepS hAB (by simp; omega) h1, hkeepS hAB (by simp; omega) h2, hkeepS hAB (by simp; omega) h3⟩
  case hIx =>
    rintro c A B ⟨rfl, g, x, hg, hx, hf, hc, h1, h2, h3⟩ hAB
    exact ⟨rfl, g, x, hg, hx, hf, hc.trans2 hAB (by simp <;> omega), hkeepS hAB (by simp; omega) h1, hkeepS hAB (by simp; omega) h2, hkeepS hAB (by simp; omega) h3⟩
  case body =>
    rintro pre O g post W hx ⟨h0, hd, hc, h1, h2, h3⟩ hsz
    go_light
    have hg2 : g < 2 := R1.out g (by rw [hx]; simp)
    have HX := Lib.hid hx
    have hc5 := hcells_ctrl_at t s g hg2
    have hbW := hkeep hc HB.out
    have S1 := fun w => sets_ok (t.c g) (hok.out g hg2) w
    have F1 := fun w => first_any (freeM (t.c g)) w
    have hfm : freeM (t.c g) = emptyM (t.c g) ||| delM (t.c g) := by rw [freeM]
    have hg0 : (0 : Int) ≤ (g : Int) := by omega
    have hg1 : (g : Int) < 2 := by omega
    clear hx Y1 b0 b1 b2 b3 b4 b5 R1
    rcases freeIn_cases t g with ⟨hfi, hfv⟩ | ⟨x, hx8, hfi, hfv⟩
    · rw [hfv] at F1
      have HFI := Lib.hid hfi
      rw [hfm] at F1
      clear hfi hfv hfm
      gi_wp2_with (first
        | (refine ⟨trivial, ?_⟩; gi_at_call 166; refine (inR (S1 _)).mono ?_; rintro e W1 ⟨rfl, hc1⟩)
        | (refine ⟨trivial, ?_⟩; gi_at_call 266; refine (inR (F1 _)).mono ?_; rintro e W2 ⟨rfl, hc2⟩))
      have hcc := hc1.trans hc2
      have hfi := HFI.out
      exact ⟨⟨O, ⟨h0, fun g' hg' => by
        rcases List.mem_append.1 hg' with h | h
        · exact hd g' h
        · rw [List.mem_singleton.1 h]; exact hfi, hc.trans hcc, hkeep hcc h1, hkeep hcc h2, hkeep hcc h3⟩, fun _ h => .inl h⟩, hcc.size, fun b hb _ => hcc.block b hb (by simp)⟩
    · rw [hfv] at F1
      have HFI := Lib.hid hfi
      rw [hfm] at F1
      clear hfi hfv hfm
      gi_wp2_with (first
        | (refine ⟨trivial, ?_⟩; gi_at_call 166; refine (inR (S1 _)).mono ?_; rintro e W1 ⟨rfl, hc1⟩)
        | (refine ⟨trivial, ?_⟩; gi_at_call 266; refine (inR (F1 _)).mono ?_; rintro e W2 ⟨rfl, hc2⟩))
      have hcc := hc1.trans hc2
      have d1 := hkeep hcc h1
      have d2 := hkeep hcc h2
      have d3 := hkeep hcc h3
      have hx0 : (0 : Int) ≤ (x : Int) := by omega
      have hx1 : (x : Int) < 8 := by omega
      refine rr_held (fun W' => True) (by kernel_rfl) (by kernel_rfl) (by rintro ⟨a, w, h⟩; exact h) trivial ?_
      intro _
      simp only [List.size_toArray, List.length_cons, List.length_nil, Nat.reduceAdd]
      refine tn 0 ?_ rfl trivial ?_ ?_; rotate_left
      · intro _ _; go_simp; try with_reducible rfl
      try go_frame
      refine tn 1 ?_ rfl trivial ?_ ?_; rotate_left
      · intro _ _; go_simp; try with_reducible rfl
      try go_frame
      refine tn 2 ?_ rfl trivial ?_ ?_; rotate_left
      · intro _ _; go_simp; try with_reducible rfl
      try go_frame
      refine tn 3 ?_ rfl trivial ?_ ?_; rotate_left
      · intro _ _; go_simp; try with_reducible rfl
      try go_frame
      refine tn 4 ?_ rfl trivial ?_ ?_; rotate_left
      · intro _ _; go_simp; try with_reducible rfl
      try go_frame
      refine tn 5 ?_ rfl trivial ?_ ?_; rotate_left
      · intro _ _; go_simp; try with_reducible rfl
      try go_frame
      refine tn 6 ?_ rfl trivial ?_ ?_; rotate_left
      · intro _ _; go_simp; try with_reducible rfl
      try go_frame
      refine tn 7 ?_ rfl trivial ?_ ?_; rotate_left
      · intro _ _; go_simp; try with_reducible rfl
      try go_frame
      refine tn 8 ?_ rfl trivial ?_ ?_; rotate_left
      · intro _ _; go_simp; try with_reducible rfl
      try go_frame
      refine rd 9 rfl (fun K hK => ?_); go_simp
      refine hK.out _ _ trivial (fun hS2 => ?_)
      refine wpAnyH_ready (rs := [10]) (by kernel_rfl) (by simp) ?_
      refine AllReadyH.cons rfl (fun K2 hK2 => ?_) AllReadyH.nil
      go_simp
      refine hK2.out _ _ trivial (fun hS2 => ?_)
      refine wpAnyH_done (by kernel_rfl) ?_ _
      gi_wp2
      have hfi := HFI.out
      have hv := wrap_slot g x hg2 hx8
      have hv2 : (N (delM (t.c g) &&& laneM x) != 0) = (delM (t.c g) &&& laneM x != 0#8) := by rw [← neN]; rfl
      refine ⟨⟨rfl, g, x, hg2, hx8, by rw [HX.out]; exact freeAt_hit t pre post g _ hd hfi, (((hc.trans hcc).setCell (p := ⟨L, 0, none⟩) (.inr (by show w.heap.size ≤ L; omega)) _).setCell (p := ⟨L + 1, 0, none⟩) (.inr (by show w.heap.size ≤ L + 1; omega)) _).drew, ?_, ?_, ?_⟩, fun y hy hn => ?_⟩
      · rw [zaw, zaa, if_neg (by omega), zaa, if_neg (by omega)]; exact d1
      · rw [zaw, zaa, if_neg (by omega), zaa, if_pos rfl, d2, hv]; rfl
      · rw [zaw, zaa, if_pos rfl, zaa, if_neg (by omega), d3, hv2]; rfl
      · have hny : y ≠ L ∧ y ≠ L + 1 := ⟨fun e => hn ((h0 y).2 (.inl e)), fun e => hn ((h0 y).2 (.inr e))⟩
        rw [zaw, zaa, if_neg hny.2, zaa, if_neg hny.1]; exact hcc.block y hy (by simp)
  case done =>
    rintro O W ⟨h0, hd, hc, h1, h2, h3⟩ hdd
    rw [hs0] at hdd
    have hbW := hkeep hc HB.out
    have HR : Hid (r = .error 6) := by have h := HP.out; rw [freeAt_none t xs hd] at h; exact h
    have HD := Lib.hid hd
    clear hd
    gi_wp2_with (refine ⟨trivial, ?_⟩; gi_at_call 83; refine (inW (tneed_no _ _)).mono ?_; rintro e w3 ⟨rfl, rfl⟩)
    exact marks_panic hdd ⟨by rw [HR.out]; rfl, hc.trans2 (zcc _ _ _) (by simp <;> omega)⟩
  case stop =>
    rintro c W ⟨rfl, g, x, hg, hx, hf, hc, h1, h2, h3⟩ hdd
    rw [hs0] at hdd
    have hbW := hkeep hc HB.out
    have HR : Hid (r = if (delM (t.c g) &&& laneM x != 0#8) || decide (0 < t.can) then .ok (8 * g + x) else .error 6) := by have h := HP.out; rw [hf] at h; exact h
    clear hf
    generalize 8 * g + x = n at *
    have hn0 : decide (0 ≤ (n : Int)) = true := by simp
    cases hdel : (delM (t.c g) &&& laneM x != 0#8)
    · cases hcan : decide (0 < t.can)
      · have HR2 : Hid (r = .error 6) := by have h := HR.out; rw [hdel, hcan] at h; exact h
        gi_wp2_with (refine ⟨trivial, ?_⟩; gi_at_call 83; refine (inW (tneed_no _ _)).mono ?_; rintro e w3 ⟨rfl, rfl⟩)
        exact marks_panic hdd ⟨by rw [HR2.out]; rfl, hc.trans2 (zcc _ _ _) (by simp <;> omega)⟩
      · have HR2 : Hid (r = .ok n) := by have h := HR.out; rw [hdel, hcan] at h; exact h
        gi_wp2_with (refine ⟨trivial, ?_⟩; gi_at_call 83; refine (inW (tneed_yes _ _)).mono ?_; rintro e w3 ⟨rfl, rfl⟩)
        rw [Exit.noGoto_ret]
        refine marks_ret (v := I n) hdd (results_tmp Tryz.results210 _ _ _) ⟨by rw [HR2.out]; rfl, hc.trans2 (zcc _ _ _) (by simp <;> omega)⟩
    · have HR2 : Hid (r = .ok n) := by have h := HR.out; rw [hdel] at h; exact h
      gi_wp2_with (refine ⟨trivial, ?_⟩; gi_at_call 83; refine (inW (tneed_yes _ _)).mono ?_; rintro e w3 ⟨rfl, rfl⟩)
      rw [Exit.noGoto_ret]
      refine marks_ret (v := I n) hdd (results_tmp Tryz.results210 _ _ _) ⟨by rw [HR2.out]; rfl, hc.trans2 (zcc _ _ _) (by simp <;> omega)⟩
theorem place_any (t : Tab) (s k : BitVec 64) (b : Nat) (w : World) (hok0 : ctrlOk (t.c 0) = true) (hok1 : ctrlOk (t.c 1) = true) (hb : w.heap[b]? = some (.cells (hcells t s) 141 (0, 0))) :
    Calls Tryz.prog 210 #[.pointer (some ⟨b, 0, none⟩), U k] w fun e w' => e = retOr (fun n : Nat => I n) (placeT t s k) ∧ Ch [] w w' := by
  cases hg : hasT t (hashOf s k)
  · exact place_goes t s k b w hg hb
  · cases hh : hasKT t k
    · exact place_main t s k b w hok0 hok1 hg hh hb
    · exact place_has t s k b w hok0 hok1 hg hh hb
end
section
attribute [local go_sem] Oper.semAt_some zap zby
attribute [local go_sem] box26 zbx cell0 cell1 cell2 cell3 cell4 zci zch
attribute [local go_sem] cell5 cell6
theorem and_lane : ∀ (m : BitVec 8) (x : Nat), x < 8 → ((m &&& laneM x = 0#8) ↔ m.getLsbD x = false) := by
  have h : ∀ (m : BitVec 8) (x : Fin 8), ((m &&& laneM x.1 = 0#8) ↔ m.getLsbD x.1 = false) := by decide +kernel
  exact fun m x hx => h m ⟨x, hx⟩
theorem mem_lanes (m : BitVec 8) (x : Nat) : x ∈ lanesOf m ↔ x < 8 ∧ m.getLsbD x = true := by
  unfold lanesOf; simp
theorem head_mem {m : BitVec 8} {x : Nat} (h : (lanesOf m).head? = some x) : x < 8 ∧ m.getLsbD x = true := by
  rw [← mem_lanes]
  generalize lanesOf m = l at *
  cases l with
  | nil => cases h
  | cons y l => simp at h; subst h; simp
theorem free_byte (c : BitVec 64) (x : Nat) (hx : x < 8) : (freeM c).getLsbD x = (byteAt c x == 128#8 || byteAt c x == 254#8) := by
  rw [freeM, BitVec.getLsbD_or, emptyM_bit c x hx, delM_bit c x hx]
theorem findSome_mem {α β : Type} (f : α → Option β) : ∀ (l : List α) (y : β), l.findSome? f = some y → ∃ g ∈ l, f g = some y
  | [], y, h => by cases h
  | g :: l, y, h => by
    rw [List.findSome?_cons] at h
    cases hg : f g with
    | none => rw [hg] at h; obtain ⟨g', h1, h2⟩ := findSome_mem f l y h; exact ⟨g', by simp [h1], h2⟩
    | some z => rw [hg] at h; exact ⟨g, by simp, by rw [hg]; exact h⟩
theorem place_ok {t : Tab} {s k : BitVec 64} {sl : Nat} (h : placeT t s k = .ok sl) :
    ∃ g x : Nat, sl = 8 * g + x ∧ g < 2 ∧ x < 8 ∧ g ∈ rowT t s k ∧ freeAt t (rowT t s k) = some (g, x) ∧ (freeM (t.c g)).getLsbD x = true ∧ hasT t (hashOf s k) = true ∧ hasKT t k = false ∧
      ((delM (t.c g) &&& laneM x != 0#8) = true ∨ 0 < t.can) := by
  have hr := row_bound t s k
  rw [placeT] at h
  generalize hT : hasT t (hashOf s k) = a at *
  generalize hK : hasKT t k = b at *
  generalize hF : freeAt t (rowT t s k) = f at *
  cases a with
  | false => simp at h
  | true =>
    cases b with
    | true => simp at h
    | false =>
      cases f with
      | none => simp at h
      | some y =>
        obtain ⟨g, x⟩ := y
        simp only [if_true, Bool.false_eq_true, if_false] at h
        generalize hD : (delM (t.c g) &&& laneM x != 0#8) = d at *
        split at h
        · rename_i hd
          rw [freeAt] at hF
          obtain ⟨g', hg', hf⟩ := findSome_mem _ _ _ hF
          rw [freeIn_eq] at hf
          generalize hH : (lanesOf (freeM (t.c g'))).head? = y at *
          cases y with
          | none => cases hf
          | some x' =>
            have hh := head_mem hH
            obtain ⟨rfl, rfl⟩ : g' = g ∧ x' = x := by simpa using hf
            refine ⟨g', x', by simpa using h.symm, hr g' hg', hh.1, hg', rfl, hh.2, rfl, rfl, by simpa [hD] using hd⟩
        · cases h
theorem free_notfull {c : BitVec 64} {x : Nat} (hx : x < 8) (h : (freeM c).getLsbD x = true) : fullM c &&& laneM x = 0#8 := by
  rw [and_lane _ x hx, fullM_bit c x hx]
  rw [free_byte c x hx] at h
  simp only [Bool.or_eq_true, beq_iff_eq] at h
  rcases h with h | h <;> rw [h] <;> decide
theorem hash2_le (h : BitVec 64) : N (hash2 h) ≤ 127 := by
  unfold hash2 N
  have h1 : (h.setWidth 8 &&& 127#8).toNat ≤ 127 := by
    rw [BitVec.toNat_and]
    exact Nat.and_le_right
  omega
def fillT (t : Tab) (s k v : BitVec 64) (sl : Nat) : Tab :=
  { t with
    can := if emptyM (t.c (sl / 8)) &&& laneM (sl % 8) != 0#8 then t.can - 1 else t.can
    live := t.live + 1
    c := fun i => if i = sl / 8 then withB (t.c (sl / 8)) (sl % 8) (hash2 (hashOf s k)) else t.c i
    k := fun i => if i = sl then k else t.k i
    v := fun i => if i = sl then v else t.v i }
theorem put_no (t : Tab) (s k v : BitVec 64) (c : Int) (b : Nat) (w : World) (hok0 : ctrlOk (t.c 0) = true) (hok1 : ctrlOk (t.c 1) = true) (hP : placeT t s k = .error c) (hb : w.heap[b]? = some (.cells (hcells t s) 141 (0, 0))) :
    Calls Tryz.prog 134 #[.pointer (some ⟨b, 0, none⟩), U k, U v] w fun e w' => e = .panicked [{ v := .iface 32 (I c), recovered := false }] ∧ Ch [] w w' := by
  have P1 := place_any t s k b w hok0 hok1 hb
  rw [hP] at P1
  clear hok0 hok1 hP
  go_enter Tryz.func134, Tryz.ntmps134
  go_wp2_with (go_at_call 210; refine P1.mono ?_; rintro e w1 ⟨rfl, hc1⟩; simp only [retOr])
  exact ⟨rfl, rfl, hc1⟩
end
section
attribute [local go_sem] Oper.semAt_some zap zby
attribute [local go_sem] box26 zbx cell0 cell1 cell2 cell3 cell4 zci zch
attribute [local go_sem] cell5 cell6
theorem put_deleted (t : Tab) (s k v : BitVec 64) (sl g x b : Nat) (w : World) (hok0 : ctrlOk (t.c 0) = true) (hok1 : ctrlOk (t.c 1) = true) (hP : placeT t s k = .ok sl) (hsl : sl = 8 * g + x) (hg : g < 2) (hx : x < 8)
    (hfm : (freeM (t.c g)).getLsbD x = true) (hcan : -1000 ≤ t.can ∧ t.can ≤ 1000) (hlive : -1000 ≤ t.live ∧ t.live ≤ 1000) (he : (emptyM (t.c g) &&& laneM x != 0#8) = false) (hb : w.heap[b]? = some (.cells (hcells t s) 141 (0, 0))) :
    Calls Tryz.prog 134 #[.pointer (some ⟨b, 0, none⟩), U k, U v] w fun e w' => e = .returned (I sl) ∧ Ch [b] w w' ∧ w'.heap[b]? = some (.cells (hcells (fillT t s k v sl) s) 141 (0, 0)) := by
  have P1 := place_any t s k b w hok0 hok1 hb
  rw [hP] at P1
  have hokg := pick_ok t g hg hok0 hok1
  have S1 := fun w => sets_ok (t.c g) hokg w
  obtain ⟨h2, hh2⟩ : ∃ h2, hash2 (hashOf s k) = h2 := ⟨_, rfl⟩
  have hle := hash2_le (hashOf s k)
  rw [hh2] at hle
  have H2 : ∀ (t1 : Tab) (w : World), w.heap[b]? = some (.cells (hcells t1 s) 141 (0, 0)) → Calls Tryz.prog 169 #[.pointer (some ⟨b, 0, none⟩), U k] w fun e w' => e = .returned (Y h2) ∧ w = w' := fun t1 w hb => by rw [← hh2]; exact h2_any b t1 s k w hb
  have HH := Lib.hid hh2
  clear hh2
  have F1 := fun w => fill_ok (t.c g) x h2 hx hle (free_notfull hx hfm) hokg w
  have hc5 := hcells_ctrl_at t s g hg
  have hq : (sl : Int) / 8 = (g : Int) := by omega
  have hr : (sl : Int) % 8 = (x : Int) := by omega
  have hsl0 : (0 : Int) ≤ (sl : Int) := by omega
  have hsl1 : (sl : Int) < 16 := by omega
  have hg0 : (0 : Int) ≤ (g : Int) := by omega
  have hg1 : (g : Int) < 2 := by omega
  have hx0 : (0 : Int) ≤ (x : Int) := by omega
  have hx1 : (x : Int) < 8 := by omega
  have F2 : ∀ w, Calls Tryz.prog 211 #[U (t.c g), .int .i64 ((sl : Int) % 8), Y h2] w fun e w' => e = .returned (.tuple #[U (withB (t.c g) x h2), I 0]) ∧ Ch [] w w' := fun w => by rw [hr]; exact F1 w
  have hnw : (N (emptyM (t.c g) &&& laneM x) != 0) = (emptyM (t.c g) &&& laneM x != 0#8) := by rw [← neN]; rfl
  have HS := Lib.hid hsl
  have HC := Lib.hid hcan
  have HL := Lib.hid hlive
  obtain ⟨hcan0, hcan1⟩ := hcan
  obtain ⟨hl0, hl1⟩ := hlive
  clear hok0 hok1 hP hsl hfm hokg
  rw [he] at hnw
  have HE := Lib.hid he
  clear he
  go_enter Tryz.func134, Tryz.ntmps134
  go_wp2_with (first
    | (go_at_call 210; refine P1.mono ?_; rintro e w1 ⟨rfl, hc1⟩; simp only [retOr]; have d1 := hkeep hc1 hb)
    | (go_at_call 166; refine (S1 _).mono ?_; rintro e w2 ⟨rfl, hc2⟩; have d2 := hkeep hc2 d1))
  obtain ⟨t1, ht1⟩ : ∃ t1 : Tab, t1 = { t with can := t.can } := ⟨_, rfl⟩
  have E1 : w2.heap[b]? = some (.cells (hcells t1 s) 141 (0, 0)) := by rw [ht1]; exact d2
  have C1 : Ch [b] w w2 := (hc1.trans hc2).of_nil
  have c5 : (hcells t1 s)[5 + g]? = some (U (t.c g)) := by rw [ht1]; exact hcells_ctrl_at _ s g hg
  have HT := Lib.hid ht1
  clear ht1 d1 d2 hc1 hc2 hb hc5 P1 S1
  have hgb : ∀ q : Gar w2, (q.1).heap[b]? = some (.cells (hcells t1 s) 141 (0, 0)) := fun q => hkeep q.2 E1
  have HG : ∀ q : Gar w2, Calls Tryz.prog 169 #[.pointer (some ⟨b, 0, none⟩), U k] q.1 fun e w' => e = .returned (Y h2) ∧ q.1 = w' := fun q => H2 t1 q.1 (hgb q)
  clear H2
  refine zcw 14 (by kernel_rfl) (by kernel_rfl) ?_
  simp only [List.take_succ_cons, List.take_zero, List.drop_succ_cons, List.drop_zero]
  repeat (go_big_quiet_step ((first | (go_at_call 169; exact garL (HG _)) | (go_at_call 211; with_reducible exact garC (F2 _)) | (go_at_call 211; with_reducible exact garC (F1 _)) | (go_at_call 137; exact garL (surew_yes _ _)))))
  refine wpQuiet_nil ?_
  rintro W6 ⟨g6, hw6⟩
  have hc6 : Ch [] w2 W6 := by rw [hw6]; exact g6.2
  clear hw6 g6 hgb HG
  have e6 := hkeep hc6 E1
  go_wp2
  have E7 : (W6.setCell ⟨b, 5 + g, none⟩ (U (withB (t.c g) x h2))).heap[b]? = some (.cells (hcells { t1 with c := fun i => if i = g then withB (t.c g) x h2 else t1.c i } s) 141 (0, 0)) := by
    rw [zaa, if_pos rfl, e6, Option.map_some, zad, hset_ctrl t1 s g hg]
  have C7 : Ch [b] w (W6.setCell ⟨b, 5 + g, none⟩ (U (withB (t.c g) x h2))) := (C1.pure hc6).setCell (p := ⟨b, 5 + g, none⟩) (.inl (by simp)) _
  generalize W6.setCell ⟨b, 5 + g, none⟩ (U (withB (t.c g) x h2)) = W7 at *
  have H7 := Lib.hid E7
  obtain ⟨t2, ht2⟩ : ∃ t2 : Tab, t2 = { t1 with c := fun i => if i = g then withB (t.c g) x h2 else t1.c i } := ⟨_, rfl⟩
  rw [← ht2] at E7
  have HT2 := Lib.hid ht2
  clear ht2 H7 e6 hc6 E1
  have k7 := hcells_key t2 s sl (by omega)
  have v7 := hcells_val t2 s sl (by omega)
  refine wp_region_held_drew (S := fun _ => True) (by kernel_rfl) trivial ?_
  intro _
  simp only [List.size_toArray, List.length_cons, List.length_nil, Nat.reduceAdd]
  refine tn 0 ?_ rfl trivial ?_ ?_; rotate_left
  · intro _ _; go_simp; try with_reducible rfl
  try go_frame
  refine tn 1 ?_ rfl trivial ?_ ?_; rotate_left
  · intro _ _; go_simp; try with_reducible rfl
  try go_frame
  refine tn 2 ?_ rfl trivial ?_ ?_; rotate_left
  · intro _ _; go_simp; try with_reducible rfl
  try go_frame
  refine tn 3 ?_ rfl trivial ?_ ?_; rotate_left
  · intro _ _; go_simp; try with_reducible rfl
  try go_frame
  refine tn 4 ?_ rfl trivial ?_ ?_; rotate_left
  · intro _ _; go_simp; try with_reducible rfl
  try go_frame
  refine tn 5 ?_ rfl trivial ?_ ?_; rotate_left
  · intro _ _; go_simp; try with_reducible rfl
  try go_frame
  refine tn 6 ?_ rfl trivial ?_ ?_; rotate_left
  · intro _ _; go_simp; try with_reducible rfl
  try go_frame
  refine tn 7 ?_ rfl trivial ?_ ?_; rotate_left
  · intro _ _; go_simp; try with_reducible rfl
  try go_frame
  refine tn 8 ?_ rfl trivial ?_ ?_; rotate_left
  · intro _ _; go_simp; try with_reducible rfl
  try go_frame
  refine tn 9 ?_ rfl trivial ?_ ?_; rotate_left
  · intro _ _; go_simp; try with_reducible rfl
  try go_frame
  refine tn 11 ?_ rfl trivial ?_ ?_; rotate_left
  · intro _ _; go_simp; try with_reducible rfl
  try go_frame
  refine tn 12 ?_ rfl trivial ?_ ?_; rotate_left
  · intro _ _; go_simp; try with_reducible rfl
  try go_frame
  refine tn 13 ?_ rfl trivial ?_ ?_; rotate_left
  · intro _ _; go_simp; try with_reducible rfl
  try go_frame
  refine rd 10 rfl (fun K hK => ?_); go_simp
  refine hK.out _ _ trivial (fun hS2 => ?_)
  refine tn 14 ?_ rfl trivial ?_ ?_; rotate_left
  · intro _ _; go_simp; try with_reducible rfl
  try go_frame
  refine wpAnyH_ready (rs := [15]) (by kernel_rfl) (by simp) ?_
  refine AllReadyH.cons rfl (fun K2 hK2 => ?_) AllReadyH.nil
  go_simp
  refine hK2.out _ _ trivial (fun hS2 => ?_)
  refine wpAnyH_done (by kernel_rfl) ?_ _
  have E8 : (((W7.setCell ⟨b, 7 + sl, none⟩ (U k)).setCell ⟨b, 23 + sl, none⟩ (U v)).drew).heap[b]? = some (.cells (hcells { { t2 with k := fun i => if i = sl then k else t2.k i } with v := fun i => if i = sl then v else t2.v i } s) 141 (0, 0)) := by
    rw [zaw, zaa, if_pos rfl, zaa, if_pos rfl, E7, Option.map_some, zad, hset_key t2 s sl (by omega) k, Option.map_some, zad, hset_val _ s sl (by omega) v]
  have C8 : Ch [b] w (((W7.setCell ⟨b, 7 + sl, none⟩ (U k)).setCell ⟨b, 23 + sl, none⟩ (U v)).drew) := ((C7.setCell (p := ⟨b, 7 + sl, none⟩) (.inl (by simp)) _).setCell (p := ⟨b, 23 + sl, none⟩) (.inl (by simp)) _).drew
  generalize ((W7.setCell ⟨b, 7 + sl, none⟩ (U k)).setCell ⟨b, 23 + sl, none⟩ (U v)).drew = W8 at *
  obtain ⟨t3, ht3⟩ : ∃ t3 : Tab, t3 = { { t2 with k := fun i => if i = sl then k else t2.k i } with v := fun i => if i = sl then v else t2.v i } := ⟨_, rfl⟩
  rw [← ht3] at E8
  have hl3 : t3.live = t.live := by rw [ht3, HT2.out, HT.out]
  have l5 : -1000 ≤ t3.live := by rw [hl3]; exact hl0
  have l6 : t3.live ≤ 1000 := by rw [hl3]; exact hl1
  have HT3 := Lib.hid ht3
  have HL3 := Lib.hid hl3
  clear ht3 hl3 E7 k7 v7
  go_wp2
  go_ret
  refine ⟨rfl, C8.setCell (p := ⟨b, 4, none⟩) (.inl (by simp)) _, ?_⟩
  rw [zaa, if_pos rfl, E8, Option.map_some, zad, hset_live t3 s (t3.live + 1), HL3.out]
  have hfin : fillT t s k v sl = { t3 with live := t.live + 1 } := by
    rw [HT3.out, HT2.out, HT.out, HS.out]
    unfold fillT
    have h1 : (8 * g + x) / 8 = g := by omega
    have h2' : (8 * g + x) % 8 = x := by omega
    simp only [h1, h2', HE.out, HH.out]
    simp
  rw [hfin]
end
end Go.Proofs.Hc
