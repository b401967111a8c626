/- Package split: what is gathered of the full slots. -/
import Derived.Test.YtcikopeddljgkaaGreatKPo
import Derived.Test.YtcikopeddljgkaaGreatKHlh
import Derived.Test.YtcikopeddljgkaaGreatK0
set_option linter.unusedSimpArgs false
set_option linter.unusedVariables false
set_option maxHeartbeats 1000000
set_option maxRecDepth 100000
namespace Go.Proofs.Hc
open Go.RowKit
attribute [local go_sem] zbv zcb zba zbf zbr zbd zbq zbs zbx signed64 signed8 zap BitVec.ofInt_add BitVec.ofInt_mul ofInt_sub' zbb zbc wide8 eqN neN zca shr1 shr7 shr56
attribute [local go_sem high] zbe zbw
attribute [local go_sem] zaw zby zaj zas zae zay zar zak zbn zam zax zaz
attribute [local go_sem] load26 load73 load23 store26 build73
attribute [local go_sem ↓] lrow26 lrow73 lrow23 srow26 zero26 brow73 zac zbk zbg zaa zab
attribute [local go_sem] zai zav zau zbj zbl zbo zaq zat zbp zbi zbh
attribute [local go_sem] nn2 nm2 nn3 nm3 nn4 nm4 nn5 nm5 nn6 nm6 nn7 nm7 nn8 nm8
section
attribute [local go_sem] zap zbt
attribute [local go_sem] Oper.semAt_some zao
attribute [local go_sem] zcj pacell0 pacell1 pacell2 pacell3 pacell4 pacell5 pacell6 pacell7 pacell42
attribute [local go_sem] zcr zcw zct zdc zdb part_g5 zcv zdl zcf zcq part_s6 zde zch zbu zci zck boxPart loadPart storePart zce zcs buildPart0 buildPart4
attribute [local go_sem ↓] lrowPart srowPart browPart zcl zbz
attribute [local go_sem high] zag
attribute [local irreducible] partC
attribute [local go_sem] loadP storeP allOne_pair
attribute [local go_sem high] laidAt_p
attribute [local go_sem ↓] lrowP srowP zeroP
attribute [local go_sem] box_pair
theorem wpListIn_append_run {F : Fence} {n : Nat} {P : Program} (w : World) {ops : Array Oper} {rest : List Oper} {o : Oper} {a : Act} {Q : Exit → Act → World → Prop} (hgd : o.guard = none) (s x : Operand) (t tn : TypeId)
    (ho : o.op = .call { callee := .builtin .append, args := #[s, x], argTypes := #[t, tn] }) (vs vx : Value) (hs : a.eval s = vs) (hx : a.eval x = vx)
    (v' : Value) (w' : World) (hr : (Builtin.append_ #[t, tn] o.type #[vs, vx]).run P w = .ok v' w') (h : wpListIn F n P ops Q rest (a.put o.dst v') w') : wpListIn F n P ops Q (o :: rest) a w := by
  refine wpListIn_plain hgd fun K hK' => ?_
  unfold Oper.wpIn
  refine ⟨?_, ?_⟩
  · simp [Oper.about, ho, resolve, Target.leads, Sem.run_pure]
  · rw [Oper.semAt_plain F _ _ (by rw [ho]; intro c hc'; cases hc')]
    simp [execOp, ho, resolve, invoke, builtin, hs, hx, hr, Result.andThen]
    exact hK' _ _ h
theorem append_pairO (W : World) (base n n0 : Nat) (hn0 : W.heap.size = n0) (v : Value) (xs : List Value) (hown : W.ownsRow base 31 2 v n xs) (k x : BitVec 64) (hn : n ≤ 900) (hbase : base ≤ W.heap.size) :
    ∃ g' c' w', (Builtin.append_ #[27, 27] 27 #[v, .slice (some ⟨n0, 0, none⟩) 1 1]).run Tryz.prog (W.alloc (.cells #[U k, U x] 31)) = .ok (.slice (some ⟨g', 0, none⟩) (n + 1) c') w' ∧
      w'.ownsRow base 31 2 (.slice (some ⟨g', 0, none⟩) (n + 1) c') (n + 1) (xs ++ [U k, U x]) ∧ Ch (v.ownBlock.toList) W w' ∧ (v.ownBlock = some g' ∨ W.heap.size ≤ g') := by
  subst hn0
  obtain ⟨i0, hi, hz0, hz1, hz2⟩ := info_parts infoP
  obtain ⟨v', w1, hrun, hown', hgrow, _, hloc⟩ := run_append_own_at (P := Tryz.prog) (W.alloc (.cells #[U k, U x] 31)) base 27 27 31 i0 (.agg #[.int .u64 0, .int .u64 0]) 2 16 Tryz.underlying27 hi hz0 hz1 hz2 rfl (by decide) v n xs (hown.alloc _) ⟨W.heap.size, 0, none⟩ 1 1 [U k, U x] rfl (cell_two_new W _ _ _) (by simp [Value.oneCell']) (by unfold maxLen; omega) (by omega) (by simp; omega)
  have hgr : (W.alloc (.cells #[U k, U x] 31)).grownBy w1 v.ownBlock := hgrow
  obtain ⟨g', c', rfl⟩ := ownsRow_succ hown'
  refine ⟨g', c', w1, hrun, hown', (((Ch.refl [] W).alloc _).of_nil).trans2 (Ch.of_grown (S := v.ownBlock.toList) hgr (fun k hk => by simp [hk])) (fun t ht => .inl ht), ?_⟩
  rcases hloc with h | h
  · left; exact h.symm
  · right
    have h2 : some g' = some (W.heap.size + 1) := by simpa [Value.ownBlock] using h
    have := Option.some.inj h2
    omega
def gathL (p : PartT) (i : Int) (l : List Nat) : List (BitVec 64 × BitVec 64) := (l.map (pairS p)).filter fun x => goS p x == (i == 0)
theorem gathL_snoc (p : PartT) (i : Int) (l : List Nat) (j : Nat) : gathL p i (l ++ [j]) = if (firstS p (hashOf p.seed (p.k j)) == (i == 0)) = true then gathL p i l ++ [(p.k j, p.v j)] else gathL p i l := by
  unfold gathL
  rw [List.map_append, List.filter_append, List.map_cons, List.map_nil, List.filter_cons]
  show _ ++ (if (firstS p (hashOf p.seed (p.k j)) == (i == 0)) = true then [(p.k j, p.v j)] else []) = _
  split
  · rfl
  · rw [List.append_nil]
theorem gathL_len (p : PartT) (i : Int) (l : List Nat) : (gathL p i l).length ≤ l.length := by
  unfold gathL
  refine Nat.le_trans (List.length_filter_le _ _) ?_
  rw [List.length_map]; exact Nat.le_refl _
theorem told_len (t : Tab) (f : Nat) : (toldS t f 16).length ≤ 16 := by
  unfold toldS
  refine Nat.le_trans (List.length_filter_le _ _) ?_
  rw [List.length_range]; exact Nat.le_refl _
theorem told_lt (t : Tab) (f : Nat) : ∀ j ∈ toldS t f 16, j < 16 ∧ f ≤ j := by
  intro j hj
  unfold toldS at hj
  obtain ⟨h1, h2⟩ := List.mem_filter.1 hj
  simp only [Bool.and_eq_true, decide_eq_true_eq] at h2
  exact ⟨List.mem_range.1 h1, h2.1⟩
theorem s22gathered_any (p : PartT) (i : Int) (S q1 q2 a1 a2 : Nat) (w : World) (hS : w.heap[S]? = some (.cells (partC p) 179 (0, 0))) (h1 : w.heap[q1]? = some (.cells #[I ((0 : Nat) : Int)] 3 (0, 0))) (h2 : w.heap[q2]? = some (.cells #[.pointer (some ⟨S, 0, none⟩)] 177 (0, 0)))
    (ha1 : w.heap[a1]? = some (.cells #[.pointer (some ⟨S, 0, none⟩)] 177 (0, 0))) (ha2 : w.heap[a2]? = some (.cells #[I i] 3 (0, 0))) :
    Calls Tryz.prog 309 #[.func (.func 308) #[] #[.pointer (some ⟨q1, 0, none⟩), .pointer (some ⟨q2, 0, none⟩)], .func (.func 310) #[] #[.pointer (some ⟨a1, 0, none⟩), .pointer (some ⟨a2, 0, none⟩)]] w fun e w' =>
      ∃ a c, e = .returned (.slice a (gathL p i (toldS (gotS p) 0 16)).length c) ∧ w'.ownsRow w.heap.size 31 2 (.slice a (gathL p i (toldS (gotS p) 0 16)).length c) (gathL p i (toldS (gotS p) 0 16)).length (pcells (gathL p i (toldS (gotS p) 0 16))) ∧ Ch [] w w' := by
  have Y1 := full_yields p 0 (by omega) S q1 q2
  have F1 := fun j w hj hS h1 h2 => s22halves1_any p i j S a1 a2 hj w hS h1 h2
  have XL := Lib.hid (told_len (gotS p) 0)
  have XB := Lib.hid (told_lt (gotS p) 0)
  have GS := Lib.hid (gathL_snoc p i)
  have GL := Lib.hid (gathL_len p i)
  have G0 : Hid (gathL p i [] = []) := Lib.hid rfl
  generalize toldS (gotS p) 0 16 = xs at *
  generalize gathL p i = gl at *
  obtain ⟨fn, hfn⟩ : ∃ v, Value.func (.func 310) #[] #[.pointer (some ⟨a1, 0, none⟩), .pointer (some ⟨a2, 0, none⟩)] = v := ⟨_, rfl⟩
  obtain ⟨W0, hW0⟩ : ∃ W0, (w.alloc (.cells #[fn] 344)).alloc (.cells #[.slice none 0 0] 27) = W0 := ⟨_, rfl⟩
  have hs0 : W0.heap.size = w.heap.size + 2 := by rw [← hW0]; simp
  have hC0 : Ch [] w W0 := by rw [← hW0]; exact ((Ch.refl [] w).alloc _).alloc _
  have b0 : W0.heap[w.heap.size]? = some (.cells #[fn] 344 (0, 0)) := by rw [← hW0]; simp [go_sem]
  have b1 : W0.heap[w.heap.size + 1]? = some (.cells #[.slice none 0 0] 27 (0, 0)) := by rw [← hW0]; simp [go_sem]
  subst hfn
  have S0 := hkeep hC0 hS
  have q10 := hkeep hC0 h1
  have q20 := hkeep hC0 h2
  have a10 := hkeep hC0 ha1
  have a20 := hkeep hC0 ha2
  have lS := Lib.hid (Array.getElem?_eq_some_iff.1 hS).1
  have l1 := Lib.hid (Array.getElem?_eq_some_iff.1 h1).1
  have l2 := Lib.hid (Array.getElem?_eq_some_iff.1 h2).1
  have l3 := Lib.hid (Array.getElem?_eq_some_iff.1 ha1).1
  have l4 := Lib.hid (Array.getElem?_eq_some_iff.1 ha2).1
  have Y2 := Lib.hid (Y1 W0 S0 q10 q20)
  clear hS h1 h2 ha1 ha2 Y1 q10 q20
  refine (callsIn_wide (n := 3)).1 ?_
  refine callsIn_of_wp_marks Tryz.func309 rfl trivial ?_
  simp only [Tryz.ntmps309, List.size_toArray, List.length_cons, List.length_nil, Nat.reduceAdd, Nat.reduceSub, Array.replicate_succ, Array.replicate_zero, List.push_toArray, List.append_toArray, List.nil_append, List.cons_append]
  gi_wp2
  try rw [hW0]
  clear hW0
  refine range_lawO (n := 1) (xs := xs) rfl enters_full22 Y2.out (fun _ => rfl) (by simp) (by have := lS.out; have := l1.out; have := l2.out; simp <;> omega)
    (fun pre O W => ∃ v, (∀ x, O x → x = w.heap.size + 1 ∨ v.ownBlock = some x) ∧ (O (w.heap.size + 1) ∧ ∀ x, v.ownBlock = some x → O x) ∧ Ch [] w W ∧ W.heap[w.heap.size]? = some (.cells #[.func (.func 310) #[] #[.pointer (some ⟨a1, 0, none⟩), .pointer (some ⟨a2, 0, none⟩)]] 344 (0, 0)) ∧ W.heap[w.heap.size + 1]? = some (.cells #[v] 27 (0, 0)) ∧
      W.ownsRow (W0.heap.size + 2) 31 2 v (gl pre).length (pcells (gl pre)) ∧
      W.heap[S]? = some (.cells (partC p) 179 (0, 0)) ∧ W.heap[a1]? = some (.cells #[.pointer (some ⟨S, 0, none⟩)] 177 (0, 0)) ∧ W.heap[a2]? = some (.cells #[I i] 3 (0, 0)))
    (fun _ _ => False)
    (fun x => x = w.heap.size + 1) ?hIO ?hI (fun _ _ _ h _ => h.elim) ⟨_, fun x h => .inl h, ⟨rfl, fun x h => by cases h⟩, hC0, b0, b1, by rw [G0.out]; exact World.ownsRow_nil _ _ _ _, S0, a10, a20⟩ ?a₁ ?assign ?body ?done (fun _ _ h _ => h.elim)
  case assign =>
    intro x W K hK
    gi_wp2
    exact hK
  case hIO =>
    rintro pre O A ⟨v, ho, _, hc, k1, k2, k3, _⟩ x hx
    have := lS.out; have := l1.out; have := l2.out
    rcases ho x hx with rfl | hv
    · exact ⟨.inl (by omega), (Array.getElem?_eq_some_iff.1 k2).1, by simp; omega⟩
    · have := own_block k3 x hv
      refine ⟨.inr this, own_lt k3 hv, by simp; omega⟩
  case hI =>
    rintro pre O A B ⟨v, ho, ho2, hc, k1, k2, k3, k4, k5, k6⟩ hAB
    have := lS.out; have := l3.out; have := l4.out
    exact ⟨v, ho, ho2, hc.trans2 hAB (by simp <;> omega), hkeepS hAB (by simp; omega) k1, hkeepS hAB (by simp; omega) k2, own_ch k3 hAB (by simp), hkeepS hAB (by simp; omega) k4, hkeepS hAB (by simp; omega) k5, hkeepS hAB (by simp; omega) k6⟩
  case body =>
    rintro pre O x post W hx ⟨v, ho, ho2, hc, k1, k2, k3, k4, k5, k6⟩ hsz
    go_light
    have hx16 : x < 16 := (XB.out x (by rw [hx]; simp)).1
    have hlen : (gl pre).length + 1 ≤ 17 := by have h1 := GL.out pre; have := XL.out; rw [hx] at this; simp at this; omega
    have FF := fun w h1 h2 h3 => F1 x w hx16 h1 h2 h3
    have HG := Lib.hid (GS.out pre x)
    clear hx F1 XB XL GS
    obtain ⟨kx, hkx⟩ : ∃ y, p.k x = y := ⟨_, rfl⟩
    obtain ⟨vx, hvx⟩ : ∃ y, p.v x = y := ⟨_, rfl⟩
    rw [hkx] at FF HG
    rw [hvx] at FF HG
    obtain ⟨bo, hbo⟩ : ∃ b, (firstS p (hashOf p.seed kx) == (i == 0)) = b := ⟨_, rfl⟩
    rw [hbo] at FF HG
    clear hkx hvx hbo
    cases bo with
    | false =>
      have HGn : Hid (gl (pre ++ [x]) = gl pre) := Lib.hid (by rw [HG.out]; exact if_neg (by decide))
      clear HG
      gi_wp2_with (refine ⟨trivial, ?_⟩; gi_at_call 310; refine (inR (FF _ k4 k5 k6)).mono ?_; rintro e w1 ⟨rfl, hc1⟩)
      have hc2 : Ch [] W (World.onObj (w1.alloc (.cells #[U 0#64, U 0#64] 31)) w1.heap.size (laidAt 0 #[U kx, U vx])) := (hc1.alloc _).onObj (.inr hc1.size) _
      refine ⟨⟨O, ⟨v, ho, ho2, hc.trans hc2, hkeep hc2 k1, hkeep hc2 k2, by rw [HGn.out]; exact own_ch k3 hc2 (by simp), hkeep hc2 k4, hkeep hc2 k5, hkeep hc2 k6⟩, fun b h => .inl h⟩, hc2.size, fun b hb _ => hc2.block b hb (by simp)⟩
    | true =>
      have HGn : Hid (gl (pre ++ [x]) = gl pre ++ [(kx, vx)]) := Lib.hid (by rw [HG.out]; exact if_pos rfl)
      clear HG
      have hob := Lib.hid (own_block k3)
      gi_wp2_with (first
        | (refine ⟨trivial, ?_⟩; gi_at_call 310; refine (inR (FF _ k4 k5 k6)).mono ?_; rintro e w1 ⟨rfl, hc1⟩
           have k2' := hkeep hc1 k2
           have HC2 : Hid (Ch [] W (World.onObj (w1.alloc (.cells #[U 0#64, U 0#64] 31)) w1.heap.size (laidAt 0 #[U kx, U vx]))) := Lib.hid ((hc1.alloc _).onObj (.inr hc1.size) _)
           have hz1 := hc1.size
           obtain ⟨g', c', w3, hrun, hown', hW3, hloc⟩ := append_pairO (World.onObj (w1.alloc (.cells #[U 0#64, U 0#64] 31)) w1.heap.size (laidAt 0 #[U kx, U vx])) (W0.heap.size + 2) _ (w1.heap.size + 1) (by rw [zbn]; simp) v _ (own_ch k3 HC2.out (by simp)) kx vx (by omega) (by have := HC2.out.size; omega)
           have e2 : w3.heap[w.heap.size + 1]? = some (.cells #[v] 27 (0, 0)) := (hW3.block _ (by have := zad k2; have := HC2.out.size; omega) (fun h => by have := hob.out _ (by simpa using h); omega)).trans (hkeep HC2.out k2)
           have HO := Lib.hid hown'
           have HW := Lib.hid (HC2.out.of_nil.trans hW3)
           have HL : Hid (v.ownBlock = some g' ∨ W.heap.size ≤ g') := Lib.hid (hloc.imp id fun h => by have := HC2.out.size; omega)
           clear hown' hW3 hloc)
        | (gi_at_builtin; refine wpListIn_append_run _ rfl _ _ 27 27 rfl _ _ rfl rfl _ _ hrun ?_))
      have hC3 : Ch [] w w3 := hc.trans2 HW.out (fun t ht => .inr (by have := hob.out t (by simpa using ht); omega))
      have hz3 := HW.out.size
      have hn4 : ∀ {q : Nat} {o : Obj}, q < w.heap.size + 1 → W.heap[q]? = some o → (w3.setCell ⟨w.heap.size + 1, 0, none⟩ (.slice (some ⟨g', 0, none⟩) ((gl pre).length + 1) c')).heap[q]? = some o := fun {q o} hq h => by
        rw [zaa, if_neg (by omega)]
        exact (HW.out.block q (zad h) (fun h => by have := hob.out q (by simpa using h); omega)).trans h
      refine ⟨⟨fun y => y = w.heap.size + 1 ∨ y = g', ⟨.slice (some ⟨g', 0, none⟩) ((gl pre).length + 1) c', ?_, ⟨.inl rfl, fun x hx => .inr (by simpa [Value.ownBlock] using hx.symm)⟩, hC3.setCell (p := ⟨w.heap.size + 1, 0, none⟩) (.inr (by simp)) _, hn4 (by omega) k1, ?_, ?_, hn4 (by have := lS.out; omega) k4, hn4 (by have := l3.out; omega) k5, hn4 (by have := l4.out; omega) k6⟩, ?_⟩, by rw [zam]; omega, ?_⟩
      · rintro x (rfl | rfl)
        · exact .inl rfl
        · exact .inr rfl
      · rw [zaa, if_pos rfl, e2]; rfl
      · have := own_ch (S := [w.heap.size + 1]) HO.out ((Ch.refl _ w3).setCell (p := ⟨w.heap.size + 1, 0, none⟩) (.inl (by simp)) (.slice (some ⟨g', 0, none⟩) ((gl pre).length + 1) c')) (by simp; omega)
        rw [HGn.out, pcells_snoc, List.length_append]
        exact this
      · rintro x (rfl | rfl)
        · exact .inl ho2.1
        · rcases HL.out with h | h
          · exact .inl (ho2.2 _ h)
          · right; exact h
      · intro y hy hn
        have hy1 : y ≠ w.heap.size + 1 := fun e => hn (e ▸ ho2.1)
        rw [zaa, if_neg hy1]
        exact HW.out.block y hy (fun hs => hn (ho2.2 y (by simpa using hs)))
  case done =>
    rintro O W ⟨v, ho, _, hc, k1, k2, k3, -⟩ hd
    gi_wp2
    obtain ⟨a, c, hv⟩ := own_form k3
    subst hv
    refine marks_ret (v := .slice a (gl xs).length c) hd (results_tmp Tryz.results309 _ _ _) ⟨a, c, by simp, ?_, hc.trans2 (zcg _ _ _) (by simp <;> omega)⟩
    have := own_mono (own_ch k3 (zcg W W0.heap.size (.deferred none)) (by simp <;> omega)) (base' := w.heap.size) (by omega)
    simpa using this
end
def lcells (f : Nat → BitVec 64) : Array Value := Array.ofFn (n := 80) fun i => U (f i.1)
theorem lcells_size (f : Nat → BitVec 64) : (lcells f).size = 80 := by simp [lcells]
theorem lcells_get (f : Nat → BitVec 64) (i : Nat) : (lcells f)[i]? = if i < 80 then some (U (f i)) else none := by
  simp [lcells, Array.getElem?_ofFn]
theorem lcells_one (f : Nat → BitVec 64) : allOne (lcells f) = true := by
  unfold allOne
  rw [Array.all_eq_true]
  intro i hi
  have h1 : (lcells f)[i]? = some (lcells f)[i] := Array.getElem?_eq_getElem hi
  rw [lcells_get, if_pos (by rw [lcells_size] at hi; exact hi)] at h1
  have h2 := Option.some.inj h1
  rw [← h2]; rfl
theorem lcells_all (f : Nat → BitVec 64) : (lcells f).extract 0 80 = lcells f := by
  have := Array.extract_size (xs := lcells f); rwa [lcells_size] at this
theorem zeroL (w : World) : (zeroValue 49).run Tryz.prog w = .ok (.agg (lcells fun _ => 0#64)) w := by kernel_rfl
theorem loadL (g o : Nat) (w : World) : (loadRow 49 ⟨g, o, none⟩).run Tryz.prog w = rowRes Tryz.prog 49 g o w ((w.heap[g]?).bind (rowAt o 80)) :=
  run_row Tryz.underlying49 rfl (by kernel_rfl) g o w
theorem storeL (g o : Nat) (vs : Array Value) (w : World) : (storeRow 49 ⟨g, o, none⟩ (.agg vs)).run Tryz.prog w = layRes Tryz.prog 49 g o vs w (((w.heap[g]?).map (canLay o 80 vs)).getD false) :=
  run_lay (by kernel_rfl) g o vs w
theorem lrowL (a : Addr) : loadVar 49 a = loadRow 49 a := rfl
theorem srowL (a : Addr) (v : Value) : storeVar 49 a v = storeRow 49 a v := rfl
theorem partC_ws (p : PartT) (f : Nat → BitVec 64) (T : TypeId) (fr : Nat × Nat) : laidAt 43 (lcells f) (.cells (partC p) T fr) = .cells (partC { p with ws := f }) T fr := by
  rw [zak]
  refine congrArg (fun c => Obj.cells c T fr) ?_
  have h0 : (partC p).extract (43 + (lcells f).size) (partC p).size = #[] := by apply Array.eq_empty_of_size_eq_zero; simp [lcells_size, zbu]
  rw [h0, Array.append_empty]
  apply Array.ext_getElem?; intro i
  rw [Array.getElem?_append, Array.size_extract, zbu, partC_get]
  by_cases h : i < 43
  · rw [if_pos (by omega), if_pos (by omega), Array.getElem?_extract, zbu, if_pos (by omega), partC_get, if_pos (by omega), Nat.zero_add]
    match i, h with
    | 0, _ => rfl
    | 1, _ => rfl
    | 2, _ => rfl
    | 3, _ => rfl
    | 4, _ => rfl
    | 5, _ => rfl
    | 6, _ => rfl
    | 7, _ => rfl
    | i + 8, h =>
      simp only [PartT.cell]
      by_cases a : i < 2
      · simp [a]
      · by_cases b : i < 18
        · simp [a, b]
        · by_cases c : i < 34
          · simp [a, b, c]
          · simp [a, b, c, show i = 34 by omega]
  · rw [if_neg (by omega), lcells_get]
    by_cases h2 : i < 123
    · rw [if_pos h2, if_pos (by omega)]
      obtain ⟨j, rfl⟩ : ∃ j, i = 43 + j := ⟨i - 43, by omega⟩
      have e1 : 43 + j - min 43 123 = j := by omega
      have := part_gw { p with ws := f } j (by omega)
      rw [partC_get, if_pos h2] at this
      rw [show 43 + j - (min 43 123 - 0) = j by omega]
      exact this.symm
    · rw [if_neg h2, if_neg (by omega)]
theorem partC_same (p : PartT) (f h : Nat → BitVec 64) (e : ∀ i, i < 80 → f i = h i) : partC { p with ws := f } = partC { p with ws := h } := by
  apply Array.ext_getElem?; intro i
  by_cases h2 : i < 123
  · by_cases h3 : i < 43
    · rw [partC_get, partC_get, if_pos h2, if_pos h2]
      match i, h3 with
      | 0, _ => rfl
      | 1, _ => rfl
      | 2, _ => rfl
      | 3, _ => rfl
      | 4, _ => rfl
      | 5, _ => rfl
      | 6, _ => rfl
      | 7, _ => rfl
      | i + 8, h =>
        simp only [PartT.cell]
        by_cases a : i < 2
        · simp [a]
        · by_cases b : i < 18
          · simp [a, b]
          · by_cases c : i < 34
            · simp [a, b, c]
            · simp [a, b, c, show i = 34 by omega]
    · obtain ⟨j, rfl⟩ : ∃ j, i = 43 + j := ⟨i - 43, by omega⟩
      rw [part_gw { p with ws := f } j (by omega), part_gw { p with ws := h } j (by omega)]
      show some (U (f j)) = some (U (h j))
      rw [e j (by omega)]
  · rw [partC_get, partC_get, if_neg h2, if_neg h2]
def putF (f : Nat → BitVec 64) (k : Nat) (X : Tab) : Nat → BitVec 64 := fun i => if 40 * k ≤ i ∧ i < 40 * k + 40 then tword X (i - 40 * k) else f i
theorem lcells_put (f : Nat → BitVec 64) (k : Nat) (hk : k < 2) (X : Tab) : ((lcells f).toList.take (40 * k) ++ ((twords X).map fun x => U x) ++ (lcells f).toList.drop (40 * k + 40)).toArray = lcells (putF f k X) := by
  apply Array.ext_getElem?; intro i
  have hl : ((lcells f).toList.take (40 * k)).length = 40 * k := by rw [List.length_take, Array.length_toList, lcells_size]; omega
  have hm : ((twords X).map fun x => U x).length = 40 := by rw [List.length_map, twords_len]
  rw [List.getElem?_toArray, List.append_assoc, lcells_get]
  by_cases h1 : i < 40 * k
  · rw [List.getElem?_append_left (by omega), List.getElem?_take, if_pos h1, Array.getElem?_toList, lcells_get, if_pos (by omega), if_pos (by omega)]
    unfold putF
    rw [if_neg (by omega)]
  · rw [List.getElem?_append_right (by omega), hl]
    by_cases h2 : i - 40 * k < 40
    · rw [List.getElem?_append_left (by omega), List.getElem?_map, twords_get X _ h2, if_pos (by omega)]
      unfold putF
      rw [if_pos (by omega)]; rfl
    · rw [List.getElem?_append_right (by omega), hm, List.getElem?_drop, Array.getElem?_toList, lcells_get, show 40 * k + 40 + (i - 40 * k - 40) = i by omega]
      by_cases h3 : i < 80
      · rw [if_pos h3, if_pos h3]
        unfold putF
        rw [if_neg (by omega)]
      · rw [if_neg h3, if_neg h3]
theorem setRow_ch22 (w : World) (O : Nat) (c : Array Value) : Ch [O] w (w.setRow O c) := ⟨rfl, rfl, rfl, by simp [World.setRow], fun k _ hk => setRow_other _ _ _ _ (by simpa using hk)⟩
theorem copy_l (f : Nat → BitVec 64) (L k R : Nat) (hk : k < 2) (cur : Array Value) (X : Tab) (w : World) (hL : w.heap[L]? = some (.cells (lcells f) 49 (0, 0))) (hR : w.heap[R]? = some (.cells cur 22 (0, 0))) (hcur : WordsAt cur (twords X)) (c1 c2 : Nat) :
    ∃ w', (Builtin.copy_ #[44, 44] 3 #[.slice (some ⟨L, 40 * k, none⟩) 40 c1, .slice (some ⟨R, 0, none⟩) 40 c2]).run Tryz.prog w = .ok (goInt 40) w' ∧ w'.heap[L]? = some (.cells (lcells (putF f k X)) 49 (0, 0)) ∧ Ch [L] w w' := by
  have hlm : ((twords X).map fun x => U x).length = 40 := by rw [List.length_map, twords_len]
  have hcp := run_copy_row (P := Tryz.prog) w 44 44 3 22 L (40 * k) 40 c1 ⟨R, 0, none⟩ 40 c2 (lcells f) 49 ((twords X).map fun x => U x) Tryz.underlying44 (by kernel_rfl) hL (by rw [hlm]; rfl) (by
    intro j v hj
    rw [List.getElem?_map] at hj
    obtain ⟨x, hx, rfl⟩ := Option.map_eq_some_iff.1 hj
    rw [Addr.add_lit, zaw, hR, Option.bind_some, zaj, Nat.zero_add]
    exact hcur j x hx) (by rw [hlm, lcells_size]; omega) (words_one _)
  rw [hlm, lcells_put f k hk X] at hcp
  exact ⟨_, hcp, setRow_heap w L _ _ 49 (0, 0) hL, setRow_ch22 w L _⟩
def halvedS (p : PartT) : Option (Nat → BitVec 64) → PartT
  | some ws => { p with ws := ws }
  | none => p
theorem flat_zeroT : flatT zeroT = true := by decide +kernel
theorem halfS_prog (p : PartT) (i : Nat) : halfS p i = match newE (deepS p + 1) (2#64 * preS p + BitVec.ofNat 64 i) with
  | .error e => .error e
  | .ok t => laidT p.seed t (gathL p i (toldS (gotS p) 0 16)) := by
  unfold halfS
  generalize newE (deepS p + 1) (2#64 * preS p + BitVec.ofNat 64 i) = r
  cases r with
  | error e => rfl
  | ok t =>
    dsimp only
    rw [pairs_told]
    unfold gathL
    congr 2
    funext x
    show (firstS p (hashOf p.seed x.1) == (i == 0)) = (firstS p (hashOf p.seed x.1) == ((i : Int) == 0))
    congr 1
    rw [Bool.eq_iff_iff, beq_iff_eq, beq_iff_eq]; omega
theorem newE_may {d : Int} {p s : BitVec 64} {t : Tab} (h : newE d p = .ok t) : May t s := by
  rw [newE_flat] at h
  cases hf : flatT (bareT 0#64 d p) with
  | true => rw [hf, if_pos rfl] at h; cases h; exact bare_may s hf
  | false => rw [hf, if_neg (by decide)] at h; cases h
theorem place_ne22 {t : Tab} {s k : BitVec 64} {c : Int} (hP : placeT t s k = .error c) : (c != 0) = true := by
  rcases place_cases t s k with ⟨_, h⟩ | ⟨_, _, h⟩ | ⟨_, _, h⟩ | ⟨_, _, sl, h⟩
  all_goals
    rw [hP] at h
    first | (cases h; done) | (cases h; decide)
theorem laid_ne {s : BitVec 64} : ∀ (l : List (BitVec 64 × BitVec 64)) (t : Tab) (c : Int), laidT s t l = .error c → (c != 0) = true
  | [], t, c, h => by rw [laidT_nil] at h; cases h
  | p :: l, t, c, h => by
    cases hp : placeT t s p.1 with
    | error e => rw [laidT_err hp] at h; cases h; exact place_ne22 hp
    | ok sl => rw [laidT_ok hp] at h; exact laid_ne l _ c h
theorem newE_ne {d : Int} {p : BitVec 64} {e : Int} (h : newE d p = .error e) : (e != 0) = true := by
  rw [newE_flat] at h
  cases hf : flatT (bareT 0#64 d p) with
  | true => rw [hf, if_pos rfl] at h; cases h
  | false => rw [hf, if_neg (by decide)] at h; cases h; rfl
theorem tup22 (r : Except Int Tab) (h : ∀ e, r = .error e → (e != 0) = true) : ∃ (y : Tab) (c : Int), tupOr (fun v => Value.agg (tcells v)) (.agg (tcells zeroT)) r = .tuple #[.agg (tcells y), I c] ∧ (((c != 0) = true ∧ y = zeroT ∧ ∃ e, r = .error e) ∨ c = 0 ∧ r = .ok y) := by
  cases r with
  | error c => exact ⟨zeroT, c, rfl, .inl ⟨h c rfl, rfl, c, rfl⟩⟩
  | ok y => exact ⟨y, 0, rfl, .inr ⟨rfl, rfl⟩⟩
theorem tab_block22 (W : World) (a b : Tab) : (World.onObj (W.alloc (.cells (tcells a) 26)) W.heap.size (laidAt 0 (tcells b))).heap[W.heap.size]? = some (.cells (tcells b) 26 (0, 0)) := by
  rw [zab, if_pos rfl, zac, if_pos rfl, Option.map_some, zco]
theorem tab_ch22 (W : World) (a b : Tab) : Ch [] W (World.onObj (W.alloc (.cells (tcells a) 26)) W.heap.size (laidAt 0 (tcells b))) := ((Ch.refl [] W).alloc _).onObj (.inr (Nat.le_refl _)) _
section
attribute [local go_sem] box26 zcc cell0 cell1 cell2 cell3 cell4 zcn zcm
def cells22 (t : Tab) : List (BitVec 64) := List.replicate 16 0#64 ++ (twords t ++ List.replicate 80 0#64)
theorem cells22_len (t : Tab) : (cells22 t).length = 136 := by unfold cells22; rw [List.length_append, List.length_append, List.length_replicate, List.length_replicate, twords_len]
theorem cells22_get (t : Tab) (i : Nat) (h : i < 40) : (cells22 t)[16 + i]? = some (tword t i) := by
  unfold cells22
  rw [List.getElem?_append_right (by rw [List.length_replicate]; omega), List.length_replicate, show 16 + i - 16 = i by omega, List.getElem?_append_left (by rw [twords_len]; omega), twords_get t i h]
theorem zeros_cells22 (n : Nat) : madeCells #[.int .u64 0] n = wcells (List.replicate n 0#64) := by
  apply Array.ext_getElem?
  intro i
  unfold wcells
  simp only [List.map_replicate, List.getElem?_toArray, List.getElem?_replicate]
  by_cases h : i < n
  · simp [madeCells, h, Nat.mod_one, U, N]
  · rw [Array.getElem?_eq_none (by rw [size_madeCells]; omega)]; simp [h]
theorem cells22_row (t : Tab) : ((wcells (List.replicate 136 0#64)).toList.take 16 ++ ((twords t).map fun x => U x) ++ (wcells (List.replicate 136 0#64)).toList.drop (16 + 40)).toArray = wcells (cells22 t) := by
  rw [wcells_list]
  unfold wcells cells22
  rw [← List.map_take, ← List.map_drop, List.take_replicate, List.drop_replicate, List.map_append, List.map_append, List.append_assoc]
  rfl
attribute [local irreducible] tcells
theorem cells22_ok (t : Tab) (hf : flatT t = true) (w : World) : Calls Tryz.prog 42 #[.agg (tcells t)] w fun e w' => ∃ R, e = .returned (.slice (some ⟨R, 0, none⟩) 136 136) ∧ w.heap.size ≤ R ∧ w'.heap[R]? = some (.cells (wcells (cells22 t)) 22 (0, 0)) ∧ Ch [] w w' := by
  have W1 := fun w => words_row2 t hf w
  have hm : ∀ w, (Instr.makeSlice 44 (.int .i64 136) (.int .i64 136)).run Tryz.prog w = .ok (.slice (some ⟨w.heap.size, 0, none⟩) 136 136) (w.alloc (.cells (madeCells #[.int .u64 0] 136) 22)) := fun w => run_make_row' (P := Tryz.prog) 44 22 (.int .u64 0) 8 Tryz.underlying44 infoU rfl .i64 .i64 136 (by omega) (by omega) w
  simp only [zeros_cells22] at hm
  have htl : ((twords t).map (fun x => U x)).length = 40 := by rw [List.length_map, twords_len]
  have C0 : Ch [] w (w.alloc (.cells (tcells t) 26)) := (Ch.refl [] w).alloc _
  have HROW := Lib.hid (cells22_row t)
  obtain ⟨xs, hxs⟩ : ∃ xs, twords t = xs := ⟨_, rfl⟩
  rw [hxs] at W1 htl HROW
  obtain ⟨cc, hcc⟩ : ∃ ys, wcells (cells22 t) = ys := ⟨_, rfl⟩
  rw [hcc] at HROW ⊢
  obtain ⟨zc, hzc⟩ : ∃ ys, wcells (List.replicate 136 0#64) = ys := ⟨_, rfl⟩
  have hzs : zc.size = 136 := by rw [← hzc, wcells_size, List.length_replicate]
  rw [hzc] at HROW
  simp only [hzc] at hm
  clear hf hxs hcc hzc
  go_enter Tryz.func42, Tryz.ntmps42
  go_wp2_with fail
  refine (W1 _).mono ?_
  rintro e w1 ⟨R, c, cur, rfl, hRw, hcur, hc40, hR, hc1⟩
  have C1 := C0.trans hc1
  have HC := Lib.hid hcur
  have hRn := nsz hR
  have hsz : w.heap.size ≤ w1.heap.size := C1.size
  have hm1 := hm w1
  have hR1 : (w1.alloc (.cells zc 22)).heap[R]? = some (.cells cur 22 (0, 0)) := by rw [zac, if_neg hRn]; exact hR
  have hz1 : (w1.alloc (.cells zc 22)).heap[w1.heap.size]? = some (.cells zc 22 (0, 0)) := by rw [zac, if_pos rfl]
  have C2 : Ch [] w (w1.alloc (.cells zc 22)) := C1.alloc _
  clear hc1 C0 W1 hcur hR hm hRn
  obtain ⟨D, hD⟩ : ∃ D, w1.heap.size = D := ⟨_, rfl⟩
  obtain ⟨w2, hw2⟩ : ∃ W, w1.alloc (.cells zc 22) = W := ⟨_, rfl⟩
  rw [hw2] at hm1 hR1 hz1 C2
  rw [hD] at hm1 hz1 hsz
  have hcp := run_copy_row (P := Tryz.prog) w2 44 44 3 22 D 16 120 120 ⟨R, 0, none⟩ 40 c zc 22 (xs.map fun x => U x) Tryz.underlying44 (by kernel_rfl) hz1 (by rw [htl]; rfl) (by
    intro j u hj
    rw [List.getElem?_map] at hj
    obtain ⟨y, hy, rfl⟩ := Option.map_eq_some_iff.1 hj
    rw [Addr.add_lit, zaw, hR1, Option.bind_some, zaj, Nat.zero_add]
    exact HC.out j y hy) (by rw [htl, hzs]; omega) (words_one xs)
  rw [htl, HROW.out] at hcp
  have hh := setRow_heap w2 D zc cc 22 (0, 0) hz1
  have hC : Ch [] w (w2.setRow D cc) := C2.trans2 (setRow_ch22 w2 D cc) (by intro s hs; right; simp at hs; omega)
  obtain ⟨w3, hw3⟩ : ∃ W, w2.setRow D cc = W := ⟨_, rfl⟩
  rw [hw3] at hcp hh hC
  clear hR1 hz1 C2 C1 HC hD hw3
  go_wp2
  go_ret
  exact ⟨D, rfl, hsz, hh, hC⟩
end
end Go.Proofs.Hc
