/- Package table: the pairs of full slots. -/
import Derived.Test.YtcikopeddljgkaaGreatKHta
import Derived.Test.YtcikopeddljgkaaGreatK0
set_option linter.unusedSimpArgs false
set_option linter.unusedVariables false
set_option maxHeartbeats 1000000
set_option maxRecDepth 100000
namespace Go.Proofs.Hc
open Go.RowKit
attribute [local go_sem] zbr zcd zat zaz zbn zax zbm zbo zbw signed64 signed8 zar BitVec.ofInt_add BitVec.ofInt_mul ofInt_sub' zav zaw wide8 eqN neN zcc shr1 shr7 shr56
attribute [local go_sem high] zay zbv
attribute [local go_sem] zau zbx zai zal zac zbd zan zah zbk zaj zbc zbe
attribute [local go_sem] load26 load73 load23 store26 build73
attribute [local go_sem ↓] lrow26 lrow73 lrow23 srow26 zero26 brow73 zab zba zbb zaa zae
attribute [local go_sem] zag zap zaf zbf zbi zbp zam zaq zbq zbh zbg
attribute [local go_sem] nn2 nm2 nn3 nm3 nn4 nm4 nn5 nm5 nn6 nm6 nn7 nm7 nn8 nm8
section
attribute [local go_sem] Oper.semAt_some zak
attribute [local go_sem] box26 zbz cell0 cell1 cell2 cell3 cell4 zcb zca
attribute [local go_sem] cell5 cell6
def pairsT (t : Tab) : List (BitVec 64 × BitVec 64) := (slotsT t).map fun x => (t.k x.1, t.v x.1)
def pcells (l : List (BitVec 64 × BitVec 64)) : List Value := l.flatMap fun p => [U p.1, U p.2]
theorem pcells_len (l : List (BitVec 64 × BitVec 64)) : (pcells l).length = l.length * 2 := by
  induction l with
  | nil => rfl
  | cons p l ih => simp only [pcells, List.flatMap_cons] at *; simp [ih]; omega
theorem pcells_snoc (l : List (BitVec 64 × BitVec 64)) (p : BitVec 64 × BitVec 64) : pcells (l ++ [p]) = pcells l ++ [U p.1, U p.2] := by
  simp [pcells]
theorem infoP : (Tryz.prog.info? 31).map (fun i => (i.zero, i.size, i.bytes)) = some (some (.agg #[.int .u64 0, .int .u64 0]), 2, 16) := by kernel_rfl
theorem build_pair (x y : BitVec 64) (w : World) : (Instr.build 31 #[(0, U x), (1, U y)]).run Tryz.prog w = .ok (.agg #[U x, U y]) w := by kernel_rfl
theorem build_slice1 (x y : BitVec 64) (w : World) : (Instr.buildSlice 27 1 #[(0, .agg #[U x, U y])]).run Tryz.prog w = .ok (.slice (some ⟨w.heap.size, 0, none⟩) 1 1) (w.alloc (.cells #[U x, U y] 31)) := by kernel_rfl
attribute [local go_sem] build_pair build_slice1
theorem own_lt {W : World} {base n size : Nat} {e : TypeId} {v : Value} {xs : List Value} (h : W.ownsRow base e size v n xs) {k : Nat} (hk : v.ownBlock = some k) : k < W.heap.size := by
  rcases h.2 with ⟨rfl, _⟩ | ⟨g, cap, cur, rfl, _, hW, _⟩
  · cases hk
  · cases hk; exact (Array.getElem?_eq_some_iff.1 hW).1
theorem cell_two_new (w : World) (x y : Value) (t : TypeId) : ∀ j u, [x, y][j]? = some u → (w.alloc (.cells #[x, y] t)).cell? ((⟨w.heap.size, 0, none⟩ : Addr).add j) = some u := by
  intro j u hj
  have hadd : (⟨w.heap.size, 0, none⟩ : Addr).add j = ⟨w.heap.size, 0 + j, none⟩ := by unfold Addr.add; split <;> simp_all
  rw [hadd, zau, zab, if_pos rfl]
  show (#[x, y] : Array Value)[0 + j]? = some u
  rw [Nat.zero_add]; simpa using hj
theorem wp_append_at {P : Program} {o : Oper} {a : Act} {K : Act → World → Prop} {Q : Exit → Act → World → Prop} (w : World) (s x : Operand) (t : TypeId) (ho : o.op = .call { callee := .builtin .append, args := #[s, x], argTypes := #[t, t] }) (v y v' : Value) (w' : World)
    (hs : a.eval s = v) (hx : a.eval x = y) (hr : (Builtin.append_ #[t, t] o.type #[v, y]).run P w = .ok v' w') (h : K (a.put o.dst v') w') : o.wp P a w K Q := by
  unfold Oper.wp execOp
  simp only [ho, resolve, invoke, builtin, Sem.run_bind, Sem.run_pure, Result.andThen_ok, List.map_toArray, List.map_cons, List.map_nil, hs, hx, hr]
  exact h
theorem pairs_any (t : Tab) (s : BitVec 64) (b : Nat) (w : World) (hok0 : ctrlOk (t.c 0) = true) (hok1 : ctrlOk (t.c 1) = true) (hb : w.heap[b]? = some (.cells (hcells t s) 141 (0, 0))) :
    Calls Tryz.prog 80 #[.pointer (some ⟨b, 0, none⟩)] w fun e w' => ∃ a c, e = .returned (.slice a (pairsT t).length c) ∧ w'.ownsRow w.heap.size 31 2 (.slice a (pairsT t).length c) (pairsT t).length (pcells (pairsT t)) ∧ Ch [] w w' := by
  have hbl := (Array.getElem?_eq_some_iff.1 hb).1
  have Y1 := fun p w hb hp => slots_yields t s b p w hok0 hok1 hb hp
  have B1 := Lib.hid (slots_bound t)
  have XL := Lib.hid (slots_len t)
  obtain ⟨i0, hi, hz0, hz1, hz2⟩ := info_parts infoP
  unfold pairsT
  generalize slotsT t = xs at *
  refine (callsIn_wide (n := 3)).1 ?_
  refine callsIn_of_wp_marks Tryz.func80 rfl trivial ?_
  simp only [Tryz.ntmps80, List.size_toArray, List.length_cons, List.length_nil, Nat.reduceAdd, Nat.reduceSub, Array.replicate_succ, Array.replicate_zero, List.push_toArray, List.append_toArray, List.nil_append, List.cons_append]
  gi_wp2_with (refine ⟨trivial, ?_⟩; gi_at_call 144; refine (inW (slots_make _ _)).mono ?_; rintro e w' ⟨rfl, rfl⟩)
  obtain ⟨W0, hW0⟩ : ∃ W0, ((w.alloc (.cells #[.pointer (some ⟨b, 0, none⟩)] 137)).alloc (.cells #[.slice none 0 0] 27)).alloc (.cells #[.pointer (some ⟨b, 0, none⟩)] 137) = W0 := ⟨_, rfl⟩
  have hs0 : W0.heap.size = w.heap.size + 3 := by rw [← hW0]; simp
  have hC0 : Ch [] w W0 := by rw [← hW0]; exact (((Ch.refl [] w).alloc _).alloc _).alloc _
  have b0 : W0.heap[w.heap.size]? = some (.cells #[.pointer (some ⟨b, 0, none⟩)] 137 (0, 0)) := by rw [← hW0]; simp [go_sem] <;> omega
  have b1 : W0.heap[w.heap.size + 1]? = some (.cells #[.slice none 0 0] 27 (0, 0)) := by rw [← hW0]; simp [go_sem] <;> omega
  have b3 : W0.heap[w.heap.size + 1 + 1]? = some (.cells #[.pointer (some ⟨b, 0, none⟩)] 137 (0, 0)) := by rw [← hW0]; simp [go_sem] <;> omega
  have bb := hkeep hC0 hb
  rw [hW0]
  clear hW0 hok0 hok1
  refine range_lawO (n := 1) (xs := xs) rfl enters_slots (Y1 _ W0 bb b3) (fun _ => rfl) (by simp) (by simp <;> omega)
    (fun pre O W => ∃ v, (∀ x, O x → x = w.heap.size + 1 ∨ v.ownBlock = some x) ∧ (O (w.heap.size + 1) ∧ ∀ x, v.ownBlock = some x → O x) ∧ Ch [] w W ∧ W.heap[w.heap.size]? = some (.cells #[.pointer (some ⟨b, 0, none⟩)] 137 (0, 0)) ∧ W.heap[w.heap.size + 1]? = some (.cells #[v] 27 (0, 0)) ∧
      W.ownsRow (W0.heap.size + 2) 31 2 v pre.length (pcells (pre.map fun x => (t.k x.1, t.v x.1))))
    (fun _ _ => False)
    (fun x => x = w.heap.size + 1) ?hIO ?hI (fun _ _ _ h _ => h.elim) ⟨_, fun x h => .inl h, ⟨rfl, fun x h => by cases h⟩, hC0, b0, b1, World.ownsRow_nil _ _ _ _⟩ ?a₁ ?assign ?body ?done (fun _ _ h _ => h.elim)
  case assign =>
    intro x W K hK
    gi_wp2
    exact hK
  case hIO =>
    rintro pre O A ⟨v, ho, _, hc, h1, h2, h3⟩ x hx
    rcases ho x hx with rfl | hv
    · exact ⟨.inl (by omega), (Array.getElem?_eq_some_iff.1 h2).1, by simp; omega⟩
    · have := own_block h3 x hv
      refine ⟨.inr this, own_lt h3 hv, by simp; omega⟩
  case hI =>
    rintro pre O A B ⟨v, ho, ho2, hc, h1, h2, h3⟩ hAB
    exact ⟨v, ho, ho2, hc.trans2 hAB (by simp <;> omega), hkeepS hAB (by simp; omega) h1, hkeepS hAB (by simp; omega) h2, own_ch h3 hAB (by simp)⟩
  case body =>
    rintro pre O x post W hx ⟨v, ho, ho2, hc, h1, h2, h3⟩ hsz
    go_light
    obtain ⟨hx16, -, -, -⟩ := B1.out x (by rw [hx]; simp)
    have hlen : pre.length + 1 ≤ 16 := by have := XL.out; rw [hx] at this; simp at this; omega
    have hob := own_block h3
    obtain ⟨sl, g⟩ := x
    have hk7 := hcells_key t s sl hx16
    have hv7 := hcells_val t s sl hx16
    have hbW := hkeep hc hb
    have hg1 : ∀ g : Gar W, (g.1).heap[w.heap.size]? = some (.cells #[.pointer (some ⟨b, 0, none⟩)] 137 (0, 0)) := fun g => hkeep g.2 h1
    have hg2 : ∀ g : Gar W, (g.1).heap[w.heap.size + 1]? = some (.cells #[v] 27 (0, 0)) := fun g => hkeep g.2 h2
    have hg3 : ∀ g : Gar W, (g.1).heap[b]? = some (.cells (hcells t s) 141 (0, 0)) := fun g => hkeep g.2 hbW
    have hsl0 : (0 : Int) ≤ (sl : Int) := by omega
    have hsl1 : (sl : Int) < 16 := by omega
    have HBL := Lib.hid hbl
    clear hx Y1 b0 b1 b3 bb hb hbl B1 XL
    gi_wp2
    refine rr_held (fun W' => W'.heap[w.heap.size]? = some (.cells #[.pointer (some ⟨b, 0, none⟩)] 137 (0, 0)) ∧ W'.heap[b]? = some (.cells (hcells t s) 141 (0, 0))) (by kernel_rfl) (by kernel_rfl) (by rintro ⟨a, w, h⟩; exact h) ⟨h1, hbW⟩ ?_
    intro hS
    simp only [List.size_toArray, List.length_cons, List.length_nil, Nat.reduceAdd]
    refine tn 1 ?_ rfl hS ?_ ?_; rotate_left
    · intro wq hSq; obtain ⟨hq1, hq3⟩ := hSq; go_simp; try with_reducible rfl
    try go_frame
    refine tn 2 ?_ rfl hS ?_ ?_; rotate_left
    · intro wq hSq; obtain ⟨hq1, hq3⟩ := hSq; go_simp; try with_reducible rfl
    try go_frame
    refine tn 3 ?_ rfl hS ?_ ?_; rotate_left
    · intro wq hSq; obtain ⟨hq1, hq3⟩ := hSq; go_simp; try with_reducible rfl
    try go_frame
    refine tn 4 ?_ rfl hS ?_ ?_; rotate_left
    · intro wq hSq; obtain ⟨hq1, hq3⟩ := hSq; go_simp; try with_reducible rfl
    try go_frame
    refine tn 5 ?_ rfl hS ?_ ?_; rotate_left
    · intro wq hSq; obtain ⟨hq1, hq3⟩ := hSq; go_simp; try with_reducible rfl
    try go_frame
    refine tn 6 ?_ rfl hS ?_ ?_; rotate_left
    · intro wq hSq; obtain ⟨hq1, hq3⟩ := hSq; go_simp; try with_reducible rfl
    try go_frame
    refine tn 7 ?_ rfl hS ?_ ?_; rotate_left
    · intro wq hSq; obtain ⟨hq1, hq3⟩ := hSq; go_simp; try with_reducible rfl
    try go_frame
    refine tn 8 ?_ rfl hS ?_ ?_; rotate_left
    · intro wq hSq; obtain ⟨hq1, hq3⟩ := hSq; go_simp; try with_reducible rfl
    try go_frame
    refine tn 9 ?_ rfl hS ?_ ?_; rotate_left
    · intro wq hSq; obtain ⟨hq1, hq3⟩ := hSq; go_simp; try with_reducible rfl
    try go_frame
    refine tn 10 ?_ rfl hS ?_ ?_; rotate_left
    · intro wq hSq; obtain ⟨hq1, hq3⟩ := hSq; go_simp; try with_reducible rfl
    try go_frame
    refine tn 11 ?_ rfl hS ?_ ?_; rotate_left
    · intro wq hSq; obtain ⟨hq1, hq3⟩ := hSq; go_simp; try with_reducible rfl
    try go_frame
    refine tn 12 ?_ rfl hS ?_ ?_; rotate_left
    · intro wq hSq; obtain ⟨hq1, hq3⟩ := hSq; go_simp; try with_reducible rfl
    try go_frame
    refine tn 13 ?_ rfl hS ?_ ?_; rotate_left
    · intro wq hSq; obtain ⟨hq1, hq3⟩ := hSq; go_simp; try with_reducible rfl
    try go_frame
    refine tn 14 ?_ rfl hS ?_ ?_; rotate_left
    · intro wq hSq; obtain ⟨hq1, hq3⟩ := hSq; go_simp; try with_reducible rfl
    try go_frame
    refine tn 15 ?_ rfl hS ?_ ?_; rotate_left
    · intro wq hSq; obtain ⟨hq1, hq3⟩ := hSq; go_simp; try with_reducible rfl
    try go_frame
    have hSa : ((W.alloc (.cells #[U (t.k sl), U (t.v sl)] 31)).drew).heap[w.heap.size]? = some (.cells #[.pointer (some ⟨b, 0, none⟩)] 137 (0, 0)) ∧ ((W.alloc (.cells #[U (t.k sl), U (t.v sl)] 31)).drew).heap[b]? = some (.cells (hcells t s) 141 (0, 0)) :=
      ⟨hkeep (((Ch.refl [] W).alloc _).drew) h1, hkeep (((Ch.refl [] W).alloc _).drew) hbW⟩
    have hne : ¬ w.heap.size + 1 = W.heap.size := by have := (Array.getElem?_eq_some_iff.1 h2).1; omega
    have hSd0 : ((W.alloc (.cells #[U (t.k sl), U (t.v sl)] 31)).drew).heap[w.heap.size + 1]? = some (.cells #[v] 27 (0, 0)) := hkeep (((Ch.refl [] W).alloc _).drew) h2
    refine wpAnyH_ready (rs := [0, 16]) (by kernel_rfl) (by simp) ?_
    refine AllReadyH.cons (o := ⟨some 9, .load 27 (.tmp 3), 27, _, _, none⟩) rfl (fun K hK => ?_) (AllReadyH.cons (o := ⟨some 25, .buildSlice 27 1 #[(0, .tmp 24)], 27, _, _, none⟩) rfl (fun K hK => ?_) AllReadyH.nil)
    · go_simp
      refine hK.out _ _ hS (fun hS2 => ?_)
      refine rd (o := ⟨some 25, .buildSlice 27 1 #[(0, .tmp 24)], 27, _, _, none⟩) 16 rfl (fun K hK => ?_); go_simp
      refine hK.out _ _ hSa (fun hS2 => ?_)
      have h3d : ((W.alloc (.cells #[U (t.k sl), U (t.v sl)] 31)).drew).ownsRow (W0.heap.size + 2) 31 2 v pre.length (pcells (pre.map fun x => (t.k x.1, t.v x.1))) := own_ch h3 (((Ch.refl [] W).alloc _).drew) (by simp)
      obtain ⟨v', w1, hrun, hown', hgrow, hnil', hloc⟩ := run_append_own_at (P := Tryz.prog) ((W.alloc (.cells #[U (t.k sl), U (t.v sl)] 31)).drew) (W0.heap.size + 2) 27 27 31 i0 (.agg #[.int .u64 0, .int .u64 0]) 2 16 Tryz.underlying27 hi hz0 hz1 hz2 rfl (by decide) v pre.length _ h3d ⟨W.heap.size, 0, none⟩ 1 1 [U (t.k sl), U (t.v sl)] rfl (cell_two_new W _ _ _) (by simp [Value.oneCell']) (by unfold maxLen; omega) (by omega) (by show _ ≤ (W.alloc _).heap.size; simp; omega)
      refine wpAnyH_ready (rs := [17]) (by kernel_rfl) (by simp) ?_
      refine AllReadyH.cons (o := ⟨some 26, .call { callee := .builtin .append, args := #[.tmp 9, .tmp 25], argTypes := #[27, 27] }, 27, _, _, none⟩) rfl (fun K2 hK2 => ?_) AllReadyH.nil
      rw [if_pos (by rfl)]
      refine wp_append_at _ (.tmp 9) (.tmp 25) 27 rfl v _ v' w1 rfl rfl hrun ?_
      simp only [Act.put, List.setIfInBounds_toArray, List.set_cons_zero, List.set_cons_succ]
      have hgr : ∀ k, k < W.heap.size → v.ownBlock ≠ some k → w1.heap[k]? = W.heap[k]? := fun k hk hne => (hgrow.block k (by show k < (W.alloc _).heap.size; simp; omega) hne.symm).trans (by show (W.alloc _).heap[k]? = _; rw [zab, if_neg (by omega)])
      have e1 : w1.heap[w.heap.size]? = some (.cells #[.pointer (some ⟨b, 0, none⟩)] 137 (0, 0)) := (hgr _ (Array.getElem?_eq_some_iff.1 h1).1 (fun e => by have := hob _ e; omega)).trans h1
      have e2 : w1.heap[w.heap.size + 1]? = some (.cells #[v] 27 (0, 0)) := (hgr _ (Array.getElem?_eq_some_iff.1 h2).1 (fun e => by have := hob _ e; omega)).trans h2
      have e3 : w1.heap[b]? = some (.cells (hcells t s) 141 (0, 0)) := (hgr _ (Array.getElem?_eq_some_iff.1 hbW).1 (fun e => by have := hob _ e; have := HBL.out; omega)).trans hbW
      refine hK2.out _ _ ⟨e1, e3⟩ (fun hS3 => ?_)
      refine wpAnyH_ready (rs := [18]) (by kernel_rfl) (by simp) ?_
      refine AllReadyH.cons (o := ⟨none, .store 27 (.tmp 3) (.tmp 26), 0, _, _, none⟩) rfl (fun K3 hK3 => ?_) AllReadyH.nil
      obtain ⟨g', cap', rfl⟩ := ownsRow_succ hown'
      go_simp
      refine hK3.out _ _ ⟨by rw [zaa, if_neg (by omega)]; exact e1, by rw [zaa, if_neg (by have := HBL.out; omega)]; exact e3⟩ (fun _ => ?_)
      refine wpAnyH_done (by kernel_rfl) ?_ _
      gi_wp2
      have hz := hc.size
      have hloc : some g' = v.ownBlock ∨ g' = W.heap.size + 1 := by
        rcases hloc with h | h
        · exact .inl h
        · right; simpa [Value.ownBlock] using h
      have hW1 : Ch (v.ownBlock.toList) W w1 := (((Ch.refl [] W).alloc _).drew.of_nil).trans2 (Ch.of_grown (S := v.ownBlock.toList) hgrow (fun k hk => by simp [hk])) (fun t ht => .inl ht)
      have hS : ∀ s ∈ v.ownBlock.toList, W0.heap.size + 2 ≤ s := fun s hs => hob s (by simpa using hs)
      have hc1 : Ch [] w w1 := hc.trans2 hW1 (fun t ht => .inr (by have := hS t ht; omega))
      have hw1 := hW1.size
      refine ⟨⟨fun y => y = w.heap.size + 1 ∨ y = g', ⟨.slice (some ⟨g', 0, none⟩) (pre.length + 1) cap', ?_, ⟨.inl rfl, fun x hx => .inr (by simpa [Value.ownBlock] using hx.symm)⟩, hc1.setCell (p := ⟨w.heap.size + 1, 0, none⟩) (.inr (by simp)) _, ?_, ?_, ?_⟩, ?_⟩, by rw [zaj]; omega, ?_⟩
      · rintro x (rfl | rfl)
        · exact .inl rfl
        · exact .inr rfl
      · rw [zaa, if_neg (by omega)]
        exact e1
      · rw [zaa, if_pos rfl, e2]; rfl
      · have := own_ch (S := [w.heap.size + 1]) hown' ((Ch.refl _ w1).setCell (p := ⟨w.heap.size + 1, 0, none⟩) (.inl (by simp)) (.slice (some ⟨g', 0, none⟩) (pre.length + 1) cap')) (by simp; omega)
        rw [List.map_append, List.map_cons, List.map_nil, pcells_snoc, List.length_append]
        exact this
      · rintro x (rfl | rfl)
        · exact .inl ho2.1
        · rcases hloc with h | h
          · exact .inl (ho2.2 _ h.symm)
          · right; omega
      · intro y hy hn
        have hy1 : y ≠ w.heap.size + 1 := fun e => hn (e ▸ ho2.1)
        rw [zaa, if_neg hy1]
        exact hW1.block y hy (fun hs => hn (ho2.2 y (by simpa using hs)))
    · go_simp
      refine hK.out _ _ hSa (fun hS2 => ?_)
      refine rd (o := ⟨some 9, .load 27 (.tmp 3), 27, _, _, none⟩) 0 rfl (fun K hK => ?_); go_simp
      refine hK.out _ _ hSa (fun hS2 => ?_)
      have h3d : ((W.alloc (.cells #[U (t.k sl), U (t.v sl)] 31)).drew).ownsRow (W0.heap.size + 2) 31 2 v pre.length (pcells (pre.map fun x => (t.k x.1, t.v x.1))) := own_ch h3 (((Ch.refl [] W).alloc _).drew) (by simp)
      obtain ⟨v', w1, hrun, hown', hgrow, hnil', hloc⟩ := run_append_own_at (P := Tryz.prog) ((W.alloc (.cells #[U (t.k sl), U (t.v sl)] 31)).drew) (W0.heap.size + 2) 27 27 31 i0 (.agg #[.int .u64 0, .int .u64 0]) 2 16 Tryz.underlying27 hi hz0 hz1 hz2 rfl (by decide) v pre.length _ h3d ⟨W.heap.size, 0, none⟩ 1 1 [U (t.k sl), U (t.v sl)] rfl (cell_two_new W _ _ _) (by simp [Value.oneCell']) (by unfold maxLen; omega) (by omega) (by show _ ≤ (W.alloc _).heap.size; simp; omega)
      refine wpAnyH_ready (rs := [17]) (by kernel_rfl) (by simp) ?_
      refine AllReadyH.cons (o := ⟨some 26, .call { callee := .builtin .append, args := #[.tmp 9, .tmp 25], argTypes := #[27, 27] }, 27, _, _, none⟩) rfl (fun K2 hK2 => ?_) AllReadyH.nil
      rw [if_pos (by rfl)]
      refine wp_append_at _ (.tmp 9) (.tmp 25) 27 rfl v _ v' w1 rfl rfl hrun ?_
      simp only [Act.put, List.setIfInBounds_toArray, List.set_cons_zero, List.set_cons_succ]
      have hgr : ∀ k, k < W.heap.size → v.ownBlock ≠ some k → w1.heap[k]? = W.heap[k]? := fun k hk hne => (hgrow.block k (by show k < (W.alloc _).heap.size; simp; omega) hne.symm).trans (by show (W.alloc _).heap[k]? = _; rw [zab, if_neg (by omega)])
      have e1 : w1.heap[w.heap.size]? = some (.cells #[.pointer (some ⟨b, 0, none⟩)] 137 (0, 0)) := (hgr _ (Array.getElem?_eq_some_iff.1 h1).1 (fun e => by have := hob _ e; omega)).trans h1
      have e2 : w1.heap[w.heap.size + 1]? = some (.cells #[v] 27 (0, 0)) := (hgr _ (Array.getElem?_eq_some_iff.1 h2).1 (fun e => by have := hob _ e; omega)).trans h2
      have e3 : w1.heap[b]? = some (.cells (hcells t s) 141 (0, 0)) := (hgr _ (Array.getElem?_eq_some_iff.1 hbW).1 (fun e => by have := hob _ e; have := HBL.out; omega)).trans hbW
      refine hK2.out _ _ ⟨e1, e3⟩ (fun hS3 => ?_)
      refine wpAnyH_ready (rs := [18]) (by kernel_rfl) (by simp) ?_
      refine AllReadyH.cons (o := ⟨none, .store 27 (.tmp 3) (.tmp 26), 0, _, _, none⟩) rfl (fun K3 hK3 => ?_) AllReadyH.nil
      obtain ⟨g', cap', rfl⟩ := ownsRow_succ hown'
      go_simp
      refine hK3.out _ _ ⟨by rw [zaa, if_neg (by omega)]; exact e1, by rw [zaa, if_neg (by have := HBL.out; omega)]; exact e3⟩ (fun _ => ?_)
      refine wpAnyH_done (by kernel_rfl) ?_ _
      gi_wp2
      have hz := hc.size
      have hloc : some g' = v.ownBlock ∨ g' = W.heap.size + 1 := by
        rcases hloc with h | h
        · exact .inl h
        · right; simpa [Value.ownBlock] using h
      have hW1 : Ch (v.ownBlock.toList) W w1 := (((Ch.refl [] W).alloc _).drew.of_nil).trans2 (Ch.of_grown (S := v.ownBlock.toList) hgrow (fun k hk => by simp [hk])) (fun t ht => .inl ht)
      have hS : ∀ s ∈ v.ownBlock.toList, W0.heap.size + 2 ≤ s := fun s hs => hob s (by simpa using hs)
      have hc1 : Ch [] w w1 := hc.trans2 hW1 (fun t ht => .inr (by have := hS t ht; omega))
      have hw1 := hW1.size
      refine ⟨⟨fun y => y = w.heap.size + 1 ∨ y = g', ⟨.slice (some ⟨g', 0, none⟩) (pre.length + 1) cap', ?_, ⟨.inl rfl, fun x hx => .inr (by simpa [Value.ownBlock] using hx.symm)⟩, hc1.setCell (p := ⟨w.heap.size + 1, 0, none⟩) (.inr (by simp)) _, ?_, ?_, ?_⟩, ?_⟩, by rw [zaj]; omega, ?_⟩
      · rintro x (rfl | rfl)
        · exact .inl rfl
        · exact .inr rfl
      · rw [zaa, if_neg (by omega)]
        exact e1
      · rw [zaa, if_pos rfl, e2]; rfl
      · have := own_ch (S := [w.heap.size + 1]) hown' ((Ch.refl _ w1).setCell (p := ⟨w.heap.size + 1, 0, none⟩) (.inl (by simp)) (.slice (some ⟨g', 0, none⟩) (pre.length + 1) cap')) (by simp; omega)
        rw [List.map_append, List.map_cons, List.map_nil, pcells_snoc, List.length_append]
        exact this
      · rintro x (rfl | rfl)
        · exact .inl ho2.1
        · rcases hloc with h | h
          · exact .inl (ho2.2 _ h.symm)
          · right; omega
      · intro y hy hn
        have hy1 : y ≠ w.heap.size + 1 := fun e => hn (e ▸ ho2.1)
        rw [zaa, if_neg hy1]
        exact hW1.block y hy (fun hs => hn (ho2.2 y (by simpa using hs)))
  case done =>
    rintro O W ⟨v, ho, ho2, hc, h1, h2, h3⟩ hd
    gi_wp2
    obtain ⟨a, c, hv⟩ : ∃ a c, v = .slice a xs.length c := by
      obtain ⟨_, ⟨rfl, h0⟩ | ⟨g, cap, cur, hv, _⟩⟩ := h3
      · exact ⟨none, 0, by rw [h0]⟩
      · exact ⟨_, _, hv⟩
    subst hv
    refine marks_ret (v := .slice a xs.length c) hd (results_tmp Tryz.results80 _ _ _) ⟨a, c, by simp, ?_, hc.trans2 (zby _ _ _) (by simp <;> omega)⟩
    have := own_mono (own_ch h3 (zby W W0.heap.size (.deferred none)) (by simp <;> omega)) (base' := w.heap.size) (by omega)
    simpa using this
end
end Go.Proofs.Hc
