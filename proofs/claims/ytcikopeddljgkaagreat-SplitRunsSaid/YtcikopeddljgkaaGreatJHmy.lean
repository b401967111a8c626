/- Package table: may a table be? The full slots. -/
import Derived.Test.YtcikopeddljgkaaGreatJHdm
set_option linter.unusedSimpArgs false
set_option linter.unusedVariables false
set_option maxHeartbeats 4000000
set_option maxRecDepth 100000
namespace Go.Proofs.Hc
open Go.RowKit
attribute [local go_sem] zbu zcc zax zbf zbo zbd zbn zbp zbw signed64 signed8 zap BitVec.ofInt_add BitVec.ofInt_mul ofInt_sub' zbb zbc wide8 eqN neN zca shr1 shr7 shr56
attribute [local go_sem high] zbe zbv
attribute [local go_sem] zaw zby zaj zas zaf zaz zar zak zbm zal zay zba
attribute [local go_sem] load26 load73 load23 store26 build73
attribute [local go_sem ↓] lrow26 lrow73 lrow23 srow26 zero26 brow73 zae zbk zbg zaa zab
attribute [local go_sem] zai zav zat zbj zbl zbr zaq zau zbs zbi zbh
attribute [local go_sem] nn2 nm2 nn3 nm3 nn4 nm4 nn5 nm5 nn6 nm6 nn7 nm7 nn8 nm8
section
attribute [local go_sem] Oper.semAt_some zao
attribute [local go_sem] box26 zcb cell0 cell1 cell2 cell3 cell4 zcn zcm
attribute [local go_sem] cell5 cell6
attribute [local go_sem] index2_0 index2_1
structure MayI (t : Tab) (s : BitVec 64) (w : World) (L b : Nat) (pre : List (Nat × Nat)) (O : Nat → Prop) (W : World) : Prop where
  o : ∀ x, O x ↔ (x = w.heap.size + 1 ∨ x = L ∨ x = L + 1)
  good : goodAll t s [] pre = true
  ch : Ch [] w W
  hand : W.heap[w.heap.size]? = some (.cells #[.pointer (some ⟨b, 0, none⟩)] 137 (0, 0))
  bool : W.heap[w.heap.size + 1]? = some (.cells #[.bool false] 4 (0, 0))
  live : W.heap[L]? = some (.cells #[.int .i64 (pre.length : Int)] 3 (0, 0))
  mapc : W.heap[L + 1 + 1]? = some (.cells #[.map (some (L + 1))] 252 (0, 0))
  met : MetAt W (L + 1) pre.length fun k => if k ∈ pre.map (fun x => t.k x.1) then 1 else 0
theorem MayI.keep {t : Tab} {s : BitVec 64} {w : World} {L b D : Nat} {pre : List (Nat × Nat)} {O : Nat → Prop} {A B : World} (h : MayI t s w L b pre O A) (c : Ch [D] A B) (hD : w.heap.size + 1 < L ∧ L + 1 + 1 < D) : MayI t s w L b pre O B :=
  ⟨h.o, h.good, h.ch.trans2 c (by simp; omega), hkeepS c (by simp; omega) h.hand, hkeepS c (by simp; omega) h.bool, hkeepS c (by simp; omega) h.live, hkeepS c (by simp; omega) h.mapc, met_ch h.met c (by simp; omega)⟩
theorem may_stop {w W W' : World} {L : Nat} {O : Nat → Prop} {F : Prop} (ho : ∀ x, O x ↔ (x = w.heap.size + 1 ∨ x = L ∨ x = L + 1)) (h : Ch [] w W) (c : Ch [L + 1] W W') (hL : w.heap.size + 1 < L)
    (hb : W'.heap[w.heap.size + 1]? = some (.cells #[.bool false] 4 (0, 0))) (hF : F) :
    (Code.ret = Code.ret ∧ F ∧ Ch [] w (W'.setCell ⟨w.heap.size + 1, 0, none⟩ (.bool false)) ∧ (W'.setCell ⟨w.heap.size + 1, 0, none⟩ (.bool false)).heap[w.heap.size + 1]? = some (.cells #[.bool false] 4 (0, 0))) ∧
      ∀ b, b < W.heap.size → ¬ O b → (W'.setCell ⟨w.heap.size + 1, 0, none⟩ (.bool false)).heap[b]? = W.heap[b]? := by
  refine ⟨⟨rfl, hF, (h.trans2 c (by simp; omega)).setCell (.inr (by simp)) _, ?_⟩, fun b hb' hn => ?_⟩
  · rw [zaa, if_pos rfl, hb]; rfl
  · have h1 : b ≠ w.heap.size + 1 := fun e => hn ((ho b).2 (.inl e))
    have h2 : b ≠ L + 1 := fun e => hn ((ho b).2 (.inr (.inr e)))
    rw [zaa, if_neg h1]
    exact c.block b hb' (by simpa using h2)
theorem met_next (t : Tab) (pre : List (Nat × Nat)) (x : Nat × Nat) (kk : BitVec 64) (h : t.k x.1 = kk) :
    (fun j => if j = kk then (1 : Int) else (fun k => if k ∈ pre.map (fun x => t.k x.1) then (1 : Int) else 0) j) = fun k => if k ∈ (pre ++ [x]).map (fun x => t.k x.1) then (1 : Int) else 0 := by
  have hm : ∀ j, j ∈ (pre ++ [x]).map (fun x => t.k x.1) ↔ (j ∈ pre.map (fun x => t.k x.1) ∨ j = kk) := fun j => by
    rw [List.map_append, List.mem_append, List.map_cons, List.map_nil, List.mem_singleton, h]
  funext j
  by_cases hj : j = kk
  · rw [if_pos hj, if_pos ((hm j).2 (.inr hj))]
  · rw [if_neg hj]
    by_cases hk : j ∈ pre.map (fun x => t.k x.1)
    · rw [if_pos ((hm j).2 (.inl hk))]; exact if_pos hk
    · rw [if_neg (fun e => ((hm j).1 e).elim hk hj)]; exact if_neg hk
theorem neq4 {k n : Nat} (h : k < n) : ¬ k = n ∧ ¬ k = n + 1 ∧ ¬ k = n + 1 + 1 ∧ ¬ k = n + 1 + 1 + 1 := by omega
theorem slots_len (t : Tab) : (slotsT t).length ≤ 16 := by
  unfold slotsT slotsOf
  have h0 := lanes_le (fullM (t.c 0))
  have h1 := lanes_le (fullM (t.c 1))
  simp; omega
theorem goodAll_append (t : Tab) (s : BitVec 64) (l : List (Nat × Nat)) : ∀ (pre : List (Nat × Nat)) (seen : List (BitVec 64)),
    goodAll t s seen (pre ++ l) = (goodAll t s seen pre && goodAll t s ((pre.map fun x => t.k x.1).reverse ++ seen) l)
  | [], seen => by simp [goodAll]
  | y :: pre, seen => by
    simp only [List.cons_append, goodAll, goodAll_append t s l pre, List.map_cons, List.reverse_cons, List.append_assoc, List.nil_append, Bool.and_assoc]
theorem goodAll_snoc (t : Tab) (s : BitVec 64) (pre : List (Nat × Nat)) (x : Nat × Nat) :
    goodAll t s [] (pre ++ [x]) = (goodAll t s [] pre && (!decide (t.k x.1 ∈ pre.map fun x => t.k x.1) && slotOk t s x)) := by
  have e : ∀ l : List (BitVec 64), decide (t.k x.1 ∈ l.reverse) = decide (t.k x.1 ∈ l) := fun l => decide_eq_decide.2 List.mem_reverse
  rw [goodAll_append]
  simp only [goodAll, List.append_nil, Bool.and_true, List.contains_eq_mem, e]
theorem goodAll_false (t : Tab) (s : BitVec 64) (pre : List (Nat × Nat)) (x : Nat × Nat) (post : List (Nat × Nat)) (h : goodAll t s [] (pre ++ [x]) = false) : goodAll t s [] (pre ++ x :: post) = false := by
  rw [show pre ++ x :: post = (pre ++ [x]) ++ post by simp, goodAll_append, h]; rfl
theorem slots_bound (t : Tab) : ∀ x ∈ slotsT t, x.1 < 16 ∧ x.2 < 2 ∧ x.1 / 8 = x.2 ∧ x.1 % 8 < 8 := by
  intro x hx
  unfold slotsT slotsOf lanesOf at hx
  simp only [List.mem_append, List.mem_map, List.mem_filter, List.mem_range] at hx
  rcases hx with ⟨l, ⟨hl, _⟩, rfl⟩ | ⟨l, ⟨hl, _⟩, rfl⟩ <;> (simp; omega)
theorem may_slots (t : Tab) (s : BitVec 64) (b : Nat) (w : World) (hf : flatT t = true) (hc0 : ctrlOk (t.c 0) = true) (hc : ctrlOk (t.c 1) = true) (hb : w.heap[b]? = some (.cells (hcells t s) 141 (0, 0))) :
    Calls Tryz.prog 112 #[.pointer (some ⟨b, 0, none⟩)] w fun e w' => e = .returned (.bool (goodAll t s [] (slotsT t) && (t.live == ((slotsT t).length : Int)) && (t.can == 14 - ((filledL (t.c 0) + filledL (t.c 1) : Nat) : Int)))) ∧ Ch [] w w' := by
  have H1 := fun w => words_ok t hf w
  have C0 := fun w => ccheck_any (t.c 0) w
  have C1 := fun w => ccheck_any (t.c 1) w
  have S0 := fun w => sets_ok (t.c 0) hc0 w
  have S1 := fun w => sets_ok (t.c 1) hc w
  have A0 := fun w => all_any (fullM (t.c 0) ||| delM (t.c 0)) w
  have A1 := fun w => all_any (fullM (t.c 1) ||| delM (t.c 1)) w
  have L0 := lanes_le (fullM (t.c 0) ||| delM (t.c 0))
  have L1 := lanes_le (fullM (t.c 1) ||| delM (t.c 1))
  have Y1 := fun p w hb hp => slots_yields t s b p w hc0 hc hb hp
  have B1 := slots_bound t
  have X1 := fun k d w hb => reaches_any t s k b d w hc0 hc hb
  rw [hc0] at C0
  rw [hc] at C1
  have hF0 : filledL (t.c 0) = (lanesOf (fullM (t.c 0) ||| delM (t.c 0))).length := rfl
  have hF1 : filledL (t.c 1) = (lanesOf (fullM (t.c 1) ||| delM (t.c 1))).length := rfl
  rw [hF0, hF1]
  clear hF0 hF1
  generalize lanesOf (fullM (t.c 0) ||| delM (t.c 0)) = l0 at *
  generalize lanesOf (fullM (t.c 1) ||| delM (t.c 1)) = l1 at *
  have XL := Lib.hid (slots_len t)
  generalize slotsT t = xs at *
  have B1' := Lib.hid B1
  have hmm := @run_makeMap Tryz.prog
  clear hc hc0 B1
  have hbl := (Array.getElem?_eq_some_iff.1 hb).1
  obtain ⟨W0, hW0⟩ : ∃ W0, ((w.alloc (.cells #[.pointer (some ⟨b, 0, none⟩)] 137)).alloc (.cells #[.bool false] 4)) = W0 := ⟨_, rfl⟩
  have hC0 : Ch [] w W0 := by rw [← hW0]; exact ((Ch.refl [] w).alloc _).alloc _
  have b0 : W0.heap[w.heap.size]? = some (.cells #[.pointer (some ⟨b, 0, none⟩)] 137 (0, 0)) := by rw [← hW0]; simp [go_sem]
  have b1 : W0.heap[w.heap.size + 1]? = some (.cells #[.bool false] 4 (0, 0)) := by rw [← hW0]; simp [go_sem]
  have bb := hkeep hC0 hb
  have HB := Lib.hid hbl
  have hb0 := Lib.hid hb
  have HBB := Lib.hid hb
  clear hf hbl hb
  refine (callsIn_wide (n := 3)).1 ?_
  refine callsIn_of_wp_marks Tryz.func112 rfl trivial ?_
  simp only [Tryz.ntmps112, List.size_toArray, List.length_cons, List.length_nil, Nat.reduceAdd, Nat.reduceSub, Array.replicate_succ, Array.replicate_zero, List.push_toArray, List.append_toArray, List.nil_append, List.cons_append]
  gi_wp2_with (refine ⟨trivial, ?_⟩; gi_at_call 74; refine (inW (H1 _)).mono ?_; rintro e W1 ⟨v0, rfl, hc1⟩; have d0 := hkeep hc1 b0; have d1 := hkeep hc1 b1; have db := hkeep hc1 bb; clear bb b0 b1 hW0)
  have hC1 := hC0.trans hc1
  clear hc1 hC0
  refine wpIn_loop_rounds 3 ?_
  rw [roundsIn_succ]
  gi_wp2_with (first
    | (refine ⟨trivial, ?_⟩; gi_at_call 165; refine (inW (C0 _)).mono ?_; rintro e w' ⟨rfl, rfl⟩)
    | (refine ⟨trivial, ?_⟩; gi_at_call 166; refine (inW (S0 _)).mono ?_; rintro e W20 ⟨rfl, hc2⟩; have e0 := hkeep hc2 d0; have e1 := hkeep hc2 d1; have eb := hkeep hc2 db; clear d0 d1 db)
    | (refine ⟨trivial, ?_⟩; gi_at_call 167; refine (inW (A0 _)).mono ?_; rintro e W30 ⟨v, rfl, hown, hc3⟩; obtain ⟨a0, cap0, cur, rfl, hj1, hj2⟩ := own_slice hown; clear hown hj1 hj2; have d0 := hkeep hc3 e0; have d1 := hkeep hc3 e1; have db := hkeep hc3 eb; clear e0 e1 eb))
  have hC3 := (hC1.trans hc2).trans hc3
  clear hC1 hc2 hc3
  rw [roundsIn_succ]
  gi_wp2_with (first
    | (refine ⟨trivial, ?_⟩; gi_at_call 165; refine (inW (C1 _)).mono ?_; rintro e w' ⟨rfl, rfl⟩)
    | (refine ⟨trivial, ?_⟩; gi_at_call 166; refine (inW (S1 _)).mono ?_; rintro e W21 ⟨rfl, hc2⟩; have e0 := hkeep hc2 d0; have e1 := hkeep hc2 d1; have eb := hkeep hc2 db; clear d0 d1 db)
    | (refine ⟨trivial, ?_⟩; gi_at_call 167; refine (inW (A1 _)).mono ?_; rintro e W31 ⟨v, rfl, hown, hc3⟩; obtain ⟨a1, cap1, cur, rfl, hj1, hj2⟩ := own_slice hown; clear hown hj1 hj2; have d0 := hkeep hc3 e0; have d1 := hkeep hc3 e1; have db := hkeep hc3 eb; clear e0 e1 eb))
  have hC4 := (hC3.trans hc2).trans hc3
  clear hC3 hc2 hc3
  rw [roundsIn_succ]
  obtain ⟨q0, q1, q2, q3⟩ := neq4 (Array.getElem?_eq_some_iff.1 d0).1
  obtain ⟨q4, _, _, _⟩ := neq4 (Array.getElem?_eq_some_iff.1 d1).1
  obtain ⟨r0, r1, r2, r3⟩ := neq4 (Array.getElem?_eq_some_iff.1 db).1
  gi_wp2_with (refine ⟨trivial, ?_⟩; gi_at_call 144; refine (inW (slots_make _ _)).mono ?_; rintro e w' ⟨rfl, rfl⟩)
  obtain ⟨W5, hW5⟩ : ∃ W5, (((W31.alloc (.cells #[.int .i64 0] 3)).alloc (.map #[] 0)).alloc (.cells #[.map (some (W31.heap.size + 1))] 252)).alloc (.cells #[.pointer (some ⟨b, 0, none⟩)] 137) = W5 := ⟨_, rfl⟩
  have hs5 : W5.heap.size = W31.heap.size + 4 := by rw [← hW5]; simp
  have hC5 : Ch [] w W5 := by rw [← hW5]; exact (((hC4.alloc _).alloc _).alloc _).alloc _
  have hM5 : MetAt W5 (W31.heap.size + 1) 0 fun _ => 0 := by
    have h := met_made (W31.alloc (.cells #[.int .i64 0] 3))
    simp only [World.size_alloc] at h
    rw [← hW5]; exact met_ch (S := []) h (((Ch.refl [] _).alloc _).alloc _) (by simp)
  have aL : W5.heap[W31.heap.size]? = some (.cells #[.int .i64 0] 3 (0, 0)) := by rw [← hW5]; simp [go_sem]
  have aC : W5.heap[W31.heap.size + 1 + 1]? = some (.cells #[.map (some (W31.heap.size + 1))] 252 (0, 0)) := by rw [← hW5]; simp [go_sem]
  have aP : W5.heap[W31.heap.size + 1 + 1 + 1]? = some (.cells #[.pointer (some ⟨b, 0, none⟩)] 137 (0, 0)) := by rw [← hW5]; simp [go_sem]
  have hch : Ch [] W31 W5 := by rw [← hW5]; exact ((((Ch.refl [] W31).alloc _).alloc _).alloc _).alloc _
  have a0 := hkeep hch d0
  have a1 := hkeep hch d1
  have ab := hkeep hch db
  have hlt : w.heap.size + 1 < W31.heap.size ∧ b < w.heap.size := ⟨(Array.getElem?_eq_some_iff.1 d1).1, HB.out⟩
  rw [hW5]
  clear hW5 hch d0 d1 db q0 q1 q2 q3 q4 r0 r1 r2 r3 hC4 H1 C0 C1 S0 S1 A0 A1 hmm
  generalize W31.heap.size = L at *
  generalize v0 = vv at *
  clear W1 W30 W31 W20 W21
  refine range_lawO (n := 1) (xs := xs) rfl enters_slots (Y1 _ W5 ab aP) (fun _ => rfl) (by simp) (by simp <;> omega)
    (fun pre O W => MayI t s w L b pre O W) (fun c W => c = .ret ∧ goodAll t s [] xs = false ∧ Ch [] w W ∧ W.heap[w.heap.size + 1]? = some (.cells #[.bool false] 4 (0, 0)))
    (fun x => x = w.heap.size + 1 ∨ x = L ∨ x = L + 1) ?hIO ?hI ?hIx ⟨fun _ => Iff.rfl, rfl, hC5, a0, a1, aL, aC, by simpa using hM5⟩ ?a₁ ?assign ?body ?done ?stop
  case assign =>
    intro x W K hK
    gi_wp2
    exact hK
  case hIO =>
    rintro pre O A h x hx
    have hx := (h.o x).1 hx
    have l1 := (Array.getElem?_eq_some_iff.1 h.bool).1
    have l2 := (Array.getElem?_eq_some_iff.1 h.mapc).1
    refine ⟨.inl (by omega), by omega, by simp; omega⟩
  case hI =>
    rintro pre O A B h hAB
    exact h.keep hAB (by simp; omega)
  case hIx =>
    rintro c A B ⟨rfl, hg, hc, h1⟩ hAB
    exact ⟨rfl, hg, hc.trans2 hAB (by simp <;> omega), hkeepS hAB (by simp <;> omega) h1⟩
  case body =>
    rintro pre O x post W hx h hsz
    go_light
    obtain ⟨hx16, hx2, hx8, hx88⟩ := B1'.out x (by rw [hx]; simp)
    have HX := Lib.hid hx
    have hlen : pre.length < 17 := by
      have := XL.out
      rw [hx, List.length_append, List.length_cons] at this
      omega
    obtain ⟨sl, g⟩ := x
    have hk7 := hcells_key t s sl hx16
    have hc5 := hcells_ctrl_at t s g hx2
    have G1 := fun w => get_yes (t.c g) (sl % 8) hx88 w
    have hmod : ((sl % 8 : Nat) : Int) = (sl : Int) % 8 := by omega
    simp only [hmod] at G1
    clear hmod hx88
    have H2 := fun w hb => h2_any b t s (t.k sl) w hb
    have GO := fun w hb => goes_any b t s (t.k sl) w hb
    have RE := fun w hb => X1 (t.k sl) g w hb
    have hok : slotOk t s (sl, g) = (byteAt (t.c g) (sl % 8) == hash2 (hashOf s (t.k sl)) && (hasT t (hashOf s (t.k sl)) && decide (g ∈ rowT t s (t.k sl)))) := rfl
    have hsnoc := goodAll_snoc t s pre (sl, g)
    have hfalse := fun hh => goodAll_false t s pre (sl, g) post hh
    rw [h.good, hok] at hsnoc
    rw [hsnoc, ← hx] at hfalse
    clear hx X1 hok Y1 HB hb0
    generalize hkk : t.k sl = kk at *
    generalize byteAt (t.c g) (sl % 8) = b1 at *
    generalize hash2 (hashOf s kk) = b2 at *
    generalize hasT t (hashOf s kk) = r1 at *
    generalize decide (g ∈ rowT t s kk) = r2 at *
    generalize hcg : t.c g = cg at *
    have hml := met_look h.met kk
    have h0 := h.hand
    have hb0 := hkeep h.ch HBB.out
    have h1 := h.bool
    have hL := h.live
    have hC := h.mapc
    have hsl0 : (0 : Int) ≤ (sl : Int) := by omega
    have hsl1 : (sl : Int) < 16 := by omega
    have hg0 : (0 : Int) ≤ (g : Int) := by omega
    have hg1 : (g : Int) < 2 := by omega
    have HS := Lib.hid hsnoc
    have HF := Lib.hid hfalse
    clear hsnoc hfalse hx8
    have hlt2 : L + 1 < W.heap.size := by have := (Array.getElem?_eq_some_iff.1 hC).1; omega
    by_cases hd : kk ∈ pre.map (fun x => t.k x.1)
    · obtain ⟨W2, hu, hm2, hcW, hzW⟩ := met_put h.met (by omega) kk 2 (by decide)
      have hml2 := met_look hm2 kk
      rw [if_pos rfl] at hml2
      rw [if_pos hd] at hml
      have e0 := hkeepS hcW (by simp; omega) h0
      have eb := hkeepS hcW (by simp; omega) hb0
      have e1 := hkeepS hcW (by simp; omega) h1
      have eL := hkeepS hcW (by simp) hL
      have eC := hkeepS hcW (by simp) hC
      have f0 : ∀ W' : World, Ch [] W2 W' → W'.heap[w.heap.size]? = some (.cells #[.pointer (some ⟨b, 0, none⟩)] 137 (0, 0)) ∧ W'.heap[b]? = some (.cells (hcells t s) 141 (0, 0)) ∧ W'.heap[w.heap.size + 1]? = some (.cells #[.bool false] 4 (0, 0)) ∧ W'.heap[L]? = some (.cells #[.int .i64 (pre.length : Int)] 3 (0, 0)) := fun W' c => ⟨hkeep c e0, hkeep c eb, hkeep c e1, hkeep c eL⟩
      have F0 := Lib.hid f0
      clear f0
      gi_wp2_with (first
        | (refine ⟨trivial, ?_⟩; gi_at_call 168; refine (inR (G1 _)).mono ?_; rintro e w' ⟨rfl, rfl⟩)
        | (refine ⟨trivial, ?_⟩; gi_at_call 169; refine (inR (H2 _ eb)).mono ?_; rintro e w' ⟨rfl, rfl⟩)
        | (refine ⟨trivial, ?_⟩; gi_at_call 84; refine (inR (GO _ eb)).mono ?_; rintro e W3 ⟨rfl, hc3⟩; obtain ⟨g0, g1, g2, g3⟩ := F0.out _ hc3)
        | (refine ⟨trivial, ?_⟩; gi_at_call 170; refine (inR (RE _ g1)).mono ?_; rintro e W4 ⟨rfl, hc4⟩; obtain ⟨k0, k1, k2, k3⟩ := F0.out _ (hc3.trans hc4))
        | (refine ⟨trivial, ?_⟩))
      exact may_stop (F := goodAll t s [] xs = false) h.o h.ch (hcW) hlt.1 e1 (HF.out (by simp [hd]))
    · obtain ⟨W2, hu, hm2, hcW, hzW⟩ := met_put h.met (by omega) kk 1 (by decide)
      have hml2 := met_look hm2 kk
      rw [if_pos rfl] at hml2
      rw [if_neg hd] at hml
      cases hb12 : (b1 == b2)
      · have hbne : (b1 != b2) = true := by simp [bne, hb12]
        have e0 := hkeepS hcW (by simp; omega) h0
        have eb := hkeepS hcW (by simp; omega) hb0
        have e1 := hkeepS hcW (by simp; omega) h1
        have eL := hkeepS hcW (by simp) hL
        have eC := hkeepS hcW (by simp) hC
        have f0 : ∀ W' : World, Ch [] W2 W' → W'.heap[w.heap.size]? = some (.cells #[.pointer (some ⟨b, 0, none⟩)] 137 (0, 0)) ∧ W'.heap[b]? = some (.cells (hcells t s) 141 (0, 0)) ∧ W'.heap[w.heap.size + 1]? = some (.cells #[.bool false] 4 (0, 0)) ∧ W'.heap[L]? = some (.cells #[.int .i64 (pre.length : Int)] 3 (0, 0)) := fun W' c => ⟨hkeep c e0, hkeep c eb, hkeep c e1, hkeep c eL⟩
        have F0 := Lib.hid f0
        clear f0
        gi_wp2_with (first
          | (refine ⟨trivial, ?_⟩; gi_at_call 168; refine (inR (G1 _)).mono ?_; rintro e w' ⟨rfl, rfl⟩)
          | (refine ⟨trivial, ?_⟩; gi_at_call 169; refine (inR (H2 _ eb)).mono ?_; rintro e w' ⟨rfl, rfl⟩)
          | (refine ⟨trivial, ?_⟩; gi_at_call 84; refine (inR (GO _ eb)).mono ?_; rintro e W3 ⟨rfl, hc3⟩; obtain ⟨g0, g1, g2, g3⟩ := F0.out _ hc3)
          | (refine ⟨trivial, ?_⟩; gi_at_call 170; refine (inR (RE _ g1)).mono ?_; rintro e W4 ⟨rfl, hc4⟩; obtain ⟨k0, k1, k2, k3⟩ := F0.out _ (hc3.trans hc4))
          | (refine ⟨trivial, ?_⟩))
        exact may_stop (F := goodAll t s [] xs = false) h.o h.ch (hcW) hlt.1 e1 (HF.out (by simp [hb12]))
      · have hbne : (b1 != b2) = false := by simp [bne, hb12]
        have hbeq := Lib.hid hb12
        clear hb12
        cases hr1 : r1
        · subst hr1
          have e0 := hkeepS hcW (by simp; omega) h0
          have eb := hkeepS hcW (by simp; omega) hb0
          have e1 := hkeepS hcW (by simp; omega) h1
          have eL := hkeepS hcW (by simp) hL
          have eC := hkeepS hcW (by simp) hC
          have f0 : ∀ W' : World, Ch [] W2 W' → W'.heap[w.heap.size]? = some (.cells #[.pointer (some ⟨b, 0, none⟩)] 137 (0, 0)) ∧ W'.heap[b]? = some (.cells (hcells t s) 141 (0, 0)) ∧ W'.heap[w.heap.size + 1]? = some (.cells #[.bool false] 4 (0, 0)) ∧ W'.heap[L]? = some (.cells #[.int .i64 (pre.length : Int)] 3 (0, 0)) := fun W' c => ⟨hkeep c e0, hkeep c eb, hkeep c e1, hkeep c eL⟩
          have F0 := Lib.hid f0
          clear f0
          gi_wp2_with (first
            | (refine ⟨trivial, ?_⟩; gi_at_call 168; refine (inR (G1 _)).mono ?_; rintro e w' ⟨rfl, rfl⟩)
            | (refine ⟨trivial, ?_⟩; gi_at_call 169; refine (inR (H2 _ eb)).mono ?_; rintro e w' ⟨rfl, rfl⟩)
            | (refine ⟨trivial, ?_⟩; gi_at_call 84; refine (inR (GO _ eb)).mono ?_; rintro e W3 ⟨rfl, hc3⟩; obtain ⟨g0, g1, g2, g3⟩ := F0.out _ hc3)
            | (refine ⟨trivial, ?_⟩; gi_at_call 170; refine (inR (RE _ g1)).mono ?_; rintro e W4 ⟨rfl, hc4⟩; obtain ⟨k0, k1, k2, k3⟩ := F0.out _ (hc3.trans hc4))
            | (refine ⟨trivial, ?_⟩))
          exact may_stop (F := goodAll t s [] xs = false) h.o h.ch (hcW.pure hc3) hlt.1 g2 (HF.out (by simp))
        · subst hr1
          cases hr2 : r2
          · subst hr2
            have e0 := hkeepS hcW (by simp; omega) h0
            have eb := hkeepS hcW (by simp; omega) hb0
            have e1 := hkeepS hcW (by simp; omega) h1
            have eL := hkeepS hcW (by simp) hL
            have eC := hkeepS hcW (by simp) hC
            have f0 : ∀ W' : World, Ch [] W2 W' → W'.heap[w.heap.size]? = some (.cells #[.pointer (some ⟨b, 0, none⟩)] 137 (0, 0)) ∧ W'.heap[b]? = some (.cells (hcells t s) 141 (0, 0)) ∧ W'.heap[w.heap.size + 1]? = some (.cells #[.bool false] 4 (0, 0)) ∧ W'.heap[L]? = some (.cells #[.int .i64 (pre.length : Int)] 3 (0, 0)) := fun W' c => ⟨hkeep c e0, hkeep c eb, hkeep c e1, hkeep c eL⟩
            have F0 := Lib.hid f0
            clear f0
            gi_wp2_with (first
              | (refine ⟨trivial, ?_⟩; gi_at_call 168; refine (inR (G1 _)).mono ?_; rintro e w' ⟨rfl, rfl⟩)
              | (refine ⟨trivial, ?_⟩; gi_at_call 169; refine (inR (H2 _ eb)).mono ?_; rintro e w' ⟨rfl, rfl⟩)
              | (refine ⟨trivial, ?_⟩; gi_at_call 84; refine (inR (GO _ eb)).mono ?_; rintro e W3 ⟨rfl, hc3⟩; obtain ⟨g0, g1, g2, g3⟩ := F0.out _ hc3)
              | (refine ⟨trivial, ?_⟩; gi_at_call 170; refine (inR (RE _ g1)).mono ?_; rintro e W4 ⟨rfl, hc4⟩; obtain ⟨k0, k1, k2, k3⟩ := F0.out _ (hc3.trans hc4))
              | (refine ⟨trivial, ?_⟩))
            exact may_stop (F := goodAll t s [] xs = false) h.o h.ch ((hcW.pure hc3).pure hc4) hlt.1 k2 (HF.out (by simp))
          · subst hr2
            have e0 := hkeepS hcW (by simp; omega) h0
            have eb := hkeepS hcW (by simp; omega) hb0
            have e1 := hkeepS hcW (by simp; omega) h1
            have eL := hkeepS hcW (by simp) hL
            have eC := hkeepS hcW (by simp) hC
            have f0 : ∀ W' : World, Ch [] W2 W' → W'.heap[w.heap.size]? = some (.cells #[.pointer (some ⟨b, 0, none⟩)] 137 (0, 0)) ∧ W'.heap[b]? = some (.cells (hcells t s) 141 (0, 0)) ∧ W'.heap[w.heap.size + 1]? = some (.cells #[.bool false] 4 (0, 0)) ∧ W'.heap[L]? = some (.cells #[.int .i64 (pre.length : Int)] 3 (0, 0)) := fun W' c => ⟨hkeep c e0, hkeep c eb, hkeep c e1, hkeep c eL⟩
            have F0 := Lib.hid f0
            clear f0
            gi_wp2_with (first
              | (refine ⟨trivial, ?_⟩; gi_at_call 168; refine (inR (G1 _)).mono ?_; rintro e w' ⟨rfl, rfl⟩)
              | (refine ⟨trivial, ?_⟩; gi_at_call 169; refine (inR (H2 _ eb)).mono ?_; rintro e w' ⟨rfl, rfl⟩)
              | (refine ⟨trivial, ?_⟩; gi_at_call 84; refine (inR (GO _ eb)).mono ?_; rintro e W3 ⟨rfl, hc3⟩; obtain ⟨g0, g1, g2, g3⟩ := F0.out _ hc3)
              | (refine ⟨trivial, ?_⟩; gi_at_call 170; refine (inR (RE _ g1)).mono ?_; rintro e W4 ⟨rfl, hc4⟩; obtain ⟨k0, k1, k2, k3⟩ := F0.out _ (hc3.trans hc4))
              | (refine ⟨trivial, ?_⟩))
            have hc := (hcW.pure hc3).pure hc4
            have hz : W.heap.size ≤ W4.heap.size := hc.size
            refine ⟨⟨O, ⟨h.o, ?_, ?_, ?_, ?_, ?_, ?_, ?_⟩, fun _ hh => .inl hh⟩, by rw [zal]; exact hz, fun b' hb' ho' => ?_⟩
            · rw [HS.out, hbeq.out]; simp [hd]
            · exact (h.ch.trans2 hc (by simp; omega)).setCell (.inr (by show w.heap.size ≤ L; omega)) _
            · rw [zaa, if_neg (by omega)]; exact k0
            · rw [zaa, if_neg (by omega)]; exact k2
            · rw [zaa, if_pos rfl, k3]; simp [zaf]
            · rw [zaa, if_neg (by omega)]; exact hkeepS hc (by simp) hC
            · have hm4 := met_ch (met_ch (met_ch hm2 hc3 (by simp)) hc4 (by simp)) ((Ch.refl [L] W4).setCell (p := ⟨L, 0, none⟩) (.inl (by simp)) (.int .i64 ((pre.length : Int) + 1))) (by simp)
              have hf := met_next t pre (sl, g) kk hkk
              rw [hf] at hm4
              simpa using hm4
            · have hno : b' ≠ L ∧ b' ≠ L + 1 := ⟨fun e => ho' ((h.o b').2 (.inr (.inl e))), fun e => ho' ((h.o b').2 (.inr (.inr e)))⟩
              rw [zaa, if_neg hno.1]
              exact hc.block b' hb' (by simpa using hno.2)
  case done =>
    rintro O W h hdd
    have hgW : ∀ g : Gar W, (g.1).heap[w.heap.size]? = some (.cells #[.pointer (some ⟨b, 0, none⟩)] 137 (0, 0)) ∧ (g.1).heap[b]? = some (.cells (hcells t s) 141 (0, 0)) ∧ (g.1).heap[L]? = some (.cells #[.int .i64 (xs.length : Int)] 3 (0, 0)) :=
      fun g => ⟨hkeep g.2 h.hand, hkeep g.2 (hkeep h.ch hb0.out), hkeep g.2 h.live⟩
    have hg0 := fun g => (hgW g).1
    have hg1 := fun g => (hgW g).2.1
    have hg2 := fun g => (hgW g).2.2
    have hgood := h.good
    have hbool := h.bool
    have hch := h.ch
    clear hgW h
    have HG : Hid (goodAll t s [] xs = true) := hgood
    clear hgood
    cases hl : (t.live == (xs.length : Int))
    all_goals
      have HL : Hid (_ = _) := Lib.hid hl
      gi_wp2
      refine wpIn_wide.2 (zdb 17 (by kernel_rfl) (by kernel_rfl) ?_)
      simp only [List.take_succ_cons, List.take_zero, List.drop_succ_cons, List.drop_zero]
      repeat (go_big_quiet_step (fail))
      refine wpQuiet_nil ?_
      rintro W6 ⟨g6, hw6⟩
      have hc6 : Ch [] W W6 := by rw [hw6]; exact g6.2
      have hbool6 := hkeep hc6 hbool
      have hdd6 := hkeep hc6 hdd
      have hch6 := hch.trans hc6
      clear hw6 g6 hbool hdd hg0 hg1 hg2 hch hc6
      go_wp2
      gi_wp2
    · refine marks_ret (v := .bool (false)) ?_ (zdi Tryz.results112 _ _ _ rfl (load_one Tryz.underlying4 rfl _ _ (fr := (0, 0)) (t := 4) ?_)) ⟨?_, ?_⟩
      · rw [zaa, if_neg (by omega)]; exact hdd6
      · simp only [heap_putObj, zaa, hbool6]; rw [if_neg (by omega)]; simp [zaf]
      · rw [HG.out, HL.out]; simp
      · exact (hch6.setCell (p := ⟨w.heap.size + 1, 0, none⟩) (.inr (by simp)) _).trans2 (zcg _ _ _) (by simp <;> omega)
    · refine marks_ret (v := .bool (t.can == 14 - ((l0.length : Int) + (l1.length : Int)))) ?_ (zdi Tryz.results112 _ _ _ rfl (load_one Tryz.underlying4 rfl _ _ (fr := (0, 0)) (t := 4) ?_)) ⟨?_, ?_⟩
      · rw [zaa, if_neg (by omega)]; exact hdd6
      · simp only [heap_putObj, zaa, hbool6]; rw [if_neg (by omega)]; simp [zaf]
      · rw [HG.out, HL.out]; simp
      · exact (hch6.setCell (p := ⟨w.heap.size + 1, 0, none⟩) (.inr (by simp)) _).trans2 (zcg _ _ _) (by simp <;> omega)
  case stop =>
    rintro c W ⟨rfl, hg, hc, h2⟩ hdd
    gi_wp2
    refine marks_ret (v := .bool false) hdd (zdi Tryz.results112 _ _ _ rfl (load_one Tryz.underlying4 rfl _ _ (fr := (0, 0)) (t := 4) ?_)) ⟨by rw [hg]; rfl, ?_⟩
    · rw [heap_putObj, if_neg (by omega)]; exact h2
    · exact hc.trans2 (zcg _ _ _) (by simp <;> omega)
theorem may_any (t : Tab) (s : BitVec 64) (b : Nat) (w : World) (hb : w.heap[b]? = some (.cells (hcells t s) 141 (0, 0))) :
    Calls Tryz.prog 112 #[.pointer (some ⟨b, 0, none⟩)] w fun e w' => e = .returned (.bool (mayT t s)) ∧ Ch [] w w' := by
  unfold mayT
  cases hf : flatT t
  · simpa using may_flat t s b w hf hb
  · cases h0 : ctrlOk (t.c 0)
    · simpa using may_bad0 t s b w hf h0 hb
    · cases h1 : ctrlOk (t.c 1)
      · simpa using may_bad1 t s b w hf h0 h1 hb
      · simpa using may_slots t s b w hf h0 h1 hb
end
end Go.Proofs.Hc
