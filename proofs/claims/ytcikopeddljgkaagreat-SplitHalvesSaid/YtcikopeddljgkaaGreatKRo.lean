/- Package layout: Table (printed by gen_tbl1.py). -/
import Derived.Test.YtcikopeddljgkaaGreatKRn
import Derived.Test.YtcikopeddljgkaaGreatK0
set_option linter.unusedSimpArgs false
set_option linter.unusedVariables false
set_option maxHeartbeats 4000000
set_option maxRecDepth 100000
namespace Go.Proofs.Hc
open Go.RowKit
attribute [local go_sem] zbr zcd zat zaz zbn zax zbm zbo zbw signed64 signed8 zar BitVec.ofInt_add BitVec.ofInt_mul ofInt_sub' zav zaw wide8 eqN neN zcc shr1 shr7 shr56
attribute [local go_sem high] zay zbv
attribute [local go_sem] zau zbx zai zal zac zbd zan zah zbk zaj zbc zbe
attribute [local go_sem] load26 load73 load23 store26 build73
attribute [local go_sem ↓] lrow26 lrow73 lrow23 srow26 zero26 brow73 zab zba zbb zaa zae
attribute [local go_sem] zag zap zaf zbf zbi zbp zam zaq zbq zbh zbg
attribute [local go_sem] nn2 nm2 nn3 nm3 nn4 nm4 nn5 nm5 nn6 nm6 nn7 nm7 nn8 nm8
section
attribute [local go_sem] Oper.semAt_some zak shr8
theorem readC_pop (t : Tab) (v : Value) : (readC t v).pop = tcells t := by
  apply Array.ext_getElem?; intro i
  rw [Array.getElem?_pop, zaf, readC_get, readC_size]
  by_cases h : i < 39
  · rw [if_pos (show i < 40 - 1 by omega), if_pos h, if_pos (show i < 40 by omega), if_neg (show ¬ i = 39 by omega)]
  · rw [if_neg (show ¬ i < 40 - 1 by omega), if_neg h]
attribute [local irreducible] readC
attribute [local go_sem] readC_pop readC_at readC_39 readC_one readC_table readC_size rset_rest zdl zdk rset_pre rset_can rset_live
theorem build_rd (a : Option Addr) (n c : Nat) (w : World) : (buildRow 170 #[(1, .slice a n c)]).run Tryz.prog w = .ok (.agg (readC zeroT (.slice a n c))) w := by kernel_rfl
theorem brow_rd (ps : Array (Nat × Value)) : Instr.build 170 ps = buildRow 170 ps := rfl
theorem box_rd (t : Tab) (a : Option Addr) (n c : Nat) (w : World) : (Instr.box 170 (.agg (readC t (.slice a n c)))).run Tryz.prog w = .ok (.pointer (some ⟨w.heap.size, 0, none⟩)) (w.alloc (.cells (readC t (.slice a n c)) 170)) := rfl
attribute [local go_sem] build_rd box_rd
attribute [local go_sem ↓] brow_rd
def lowD (x : BitVec 64) : Int := ((x &&& 255#64).toNat : Int)
theorem small255 (x : BitVec 64) : IntKind.i64.wrap (N (x &&& 255#64)) = lowD x := by
  unfold lowD
  have h : (x &&& 255#64).toNat ≤ 255 := by rw [BitVec.toNat_and]; exact Nat.and_le_right
  unfold N
  simp only [IntKind.wrap, IntKind.signed, IntKind.bits]
  generalize (x &&& 255#64).toNat = n at *
  simp
  omega
attribute [local go_sem] small255
def AtW (cur : Array Value) (o : Nat) (ws : Nat → BitVec 64) : Prop := ∀ j, j < 40 → cur[o + j]? = some (U (ws j))
def rdA (ws : Nat → BitVec 64) : Tab := { zeroT with count := ws 0, depth := lowD (ws 1), pre := ws 1 >>> 8 }
def rdB (ws : Nat → BitVec 64) : Tab := { rdA ws with can := ((ws 2).toNat : Int), live := ((ws 3).toNat : Int) }
def rdC (ws : Nat → BitVec 64) : Tab := { rdB ws with c := fun g => if g < 2 then ws (4 + g) else 0#64 }
def rdD (ws : Nat → BitVec 64) : Tab := { rdC ws with k := fun g => if g < 16 then ws (6 + g) else 0#64 }
theorem copy_rd {w : World} {R g m ob cap n : Nat} {t t' : Tab} {v : Value} {cur : Array Value} {T : TypeId} {ws : Nat → BitVec 64} (s : Nat) (hR : w.heap[R]? = some (.cells (readC t v) 170 (0, 0))) (hg : w.heap[g]? = some (.cells cur T (0, 0)))
    (hw : ∀ j, j < n → cur[s + j]? = some (U (ws (m + j)))) (hn : ob + n ≤ 39)
    (hs : ((readC t v).toList.take ob ++ (List.range n).map (fun i => U (ws (m + i))) ++ (readC t v).toList.drop (ob + ((List.range n).map (fun i => U (ws (m + i)))).length)).toArray = readC t' v) :
    (Builtin.copy_ #[44, 44] 3 #[.slice (some ⟨R, ob, none⟩) n cap, .slice (some ⟨g, s, none⟩) n n]).run Tryz.prog w = .ok (I (n : Nat)) (w.setRow R (readC t' v)) := by
  have h := run_copy_row (P := Tryz.prog) w 44 44 3 22 R ob n cap ⟨g, s, none⟩ n n (readC t v) 170 ((List.range n).map fun i => U (ws (m + i))) Tryz.underlying44 (by kernel_rfl) hR (by simp)
    (by
      intro j v hj
      rw [List.getElem?_map] at hj
      obtain ⟨x, hx, rfl⟩ := Option.map_eq_some_iff.1 hj
      have hjn : j < n := by
        rcases Nat.lt_or_ge j n with h | h
        · exact h
        · rw [List.getElem?_eq_none (by simpa using h)] at hx; cases hx
      rw [List.getElem?_range hjn] at hx
      cases hx
      rw [Addr.add_lit, zau, hg, Option.bind_some, zai]
      exact hw j hjn) (by simp [readC_size]; omega) (by
      intro v hv
      obtain ⟨x, _, rfl⟩ := List.mem_map.1 hv
      rfl)
  rw [hs] at h
  simpa [goInt] using h
theorem setRow_rd {w : World} {R : Nat} {cu cu' : Array Value} {T : TypeId} (h : w.heap[R]? = some (.cells cu T (0, 0))) : (w.setRow R cu').heap[R]? = some (.cells cu' T (0, 0)) := setRow_heap w R cu cu' T (0, 0) h
theorem setRow_ne {w : World} {R k : Nat} (cu' : Array Value) (h : ¬ k = R) : (w.setRow R cu').heap[k]? = w.heap[k]? := setRow_other _ _ _ _ h
theorem setRow_ch {w : World} {R : Nat} (cu' : Array Value) : Ch [R] w (w.setRow R cu') := ⟨rfl, rfl, rfl, by simp [World.setRow], fun k _ hk => setRow_other _ _ _ _ (by simpa using hk)⟩
attribute [local irreducible] tcells in
theorem tbl1_num2 (WB OB g o c : Nat) (cur : Array Value) (T : TypeId) (ws : Nat → BitVec 64) (h2 : 14 < (ws 2).toNat) (hnc : 40 ≤ c) (hc : c ≤ 9223372036854775807) (w : World) (hW : w.heap[WB]? = some (.cells #[.slice (some ⟨g, o, none⟩) 40 c] 44 (0, 0))) (hO : w.heap[OB]? = some (.cells (tcells zeroT) 26 (0, 0))) (hg : w.heap[g]? = some (.cells cur T (0, 0))) (hw : AtW cur o ws) (hgo : ¬ g = OB) :
    Calls Tryz.prog 105 #[.pointer (some ⟨WB, 0, none⟩), .pointer (some ⟨OB, 0, none⟩)] w fun e w' => e = .panicked [{ v := .iface 244 (.agg #[]), recovered := false }] ∧ Ch [] w w' := by
  have hWn : ¬ WB = w.heap.size := by have := (Array.getElem?_eq_some_iff.1 hW).1; omega
  have hOn : ¬ OB = w.heap.size := by have := (Array.getElem?_eq_some_iff.1 hO).1; omega
  have hgn : ¬ g = w.heap.size := by have := (Array.getElem?_eq_some_iff.1 hg).1; omega
  go_enter Tryz.func105, Tryz.ntmps105
  go_upto_region 3 with (go_at_call 107; refine (lneed_yes _).mono ?_; rintro e w' ⟨rfl, rfl⟩)
  have hC := (Ch.refl [] w).alloc (.cells (readC zeroT (.slice (some ⟨g, o, none⟩) 40 c)) 170 (0, 0))
  have g1 := hkeep hC hg
  have u1 := hkeep hC hO
  have r1 : (w.alloc (.cells (readC zeroT (.slice (some ⟨g, o, none⟩) 40 c)) 170)).heap[w.heap.size]? = some (.cells (readC zeroT (.slice (some ⟨g, o, none⟩) 40 c)) 170 (0, 0)) := by rw [zab, if_pos rfl]
  obtain ⟨w1, hw1⟩ : ∃ W, w.alloc (.cells (readC zeroT (.slice (some ⟨g, o, none⟩) 40 c)) 170) = W := ⟨_, rfl⟩
  rw [hw1] at hC g1 u1 r1 ⊢
  clear hw1
  have C1 : Ch [] w w1 := hC
  obtain ⟨R, hR⟩ : ∃ R, w.heap.size = R := ⟨_, rfl⟩
  have hRw : w.heap.size ≤ R := by omega
  have gR : ¬ g = R := by omega
  have oR : ¬ OB = R := by omega
  rw [hR] at r1 ⊢
  clear hC hW hO hg hWn hgn hOn hR
  go_wp2_with fail
  refine (next_any (zeroT) R g (o) 40 (c) 4 (by omega) (by omega) (by omega) (by omega) _ r1).mono ?_
  rintro e w2 ⟨rfl, r2, hc2⟩
  have g2 := (hc2.block g (Array.getElem?_eq_some_iff.1 g1).1 (by simpa using gR)).trans g1
  have u2 := (hc2.block OB (Array.getElem?_eq_some_iff.1 u1).1 (by simpa using oR)).trans u1
  have C2 : Ch [] w w2 := C1.trans2 hc2 (by intro t ht; right; simp at ht; omega)
  clear hc2 r1 g1 u1 C1
  have e0 : cur[o]? = some (U (ws 0)) := hw 0 (by omega)
  have e1 : cur[o + 1]? = some (U (ws 1)) := hw 1 (by omega)
  go_upto_region 4 with (fail)
  have s2 : (fun W' : World => W'.heap[g]? = some (.cells cur T (0, 0))) w2.drew := g2
  have rr2 : w2.drew.heap[R]? = _ := r2
  have uu2 : w2.drew.heap[OB]? = _ := u2
  have CC2 : Ch [] w w2.drew := C2.drew
  refine wp_region_held_drew (S := fun W' => W'.heap[g]? = some (.cells cur T (0, 0))) (by kernel_rfl) s2 ?_
  intro _
  simp only [List.size_toArray, List.length_cons, List.length_nil, Nat.reduceAdd]
  clear g2 r2 u2 C2
  generalize w2.drew = w2 at *
  refine tk 0 16 ?_ rfl s2 ?_ ?_; rotate_left
  · intro _ _; go_simp; try with_reducible rfl
  try go_frame
  refine tk 1 17 ?_ rfl s2 ?_ ?_; rotate_left
  · intro _ _; go_simp; try with_reducible rfl
  try go_frame
  refine tk 2 18 ?_ rfl s2 ?_ ?_; rotate_left
  · intro _ _; go_simp; try with_reducible rfl
  try go_frame
  refine tk 3 19 ?_ rfl s2 ?_ ?_; rotate_left
  · intro _ _; go_simp; try with_reducible rfl
  try go_frame
  refine tk 4 20 ?_ rfl s2 ?_ ?_; rotate_left
  · intro _ _; go_simp; try with_reducible rfl
  try go_frame
  refine tk 5 21 ?_ rfl s2 ?_ ?_; rotate_left
  · intro _ _; go_simp; try with_reducible rfl
  try go_frame
  refine tk 6 22 ?_ rfl s2 ?_ ?_; rotate_left
  · intro _ _; go_simp; try with_reducible rfl
  try go_frame
  refine tk 7 23 ?_ rfl s2 ?_ ?_; rotate_left
  · intro _ _; go_simp; try with_reducible rfl
  try go_frame
  refine tk 8 24 ?_ rfl s2 ?_ ?_; rotate_left
  · intro _ _; go_simp; try with_reducible rfl
  try go_frame
  refine tk 9 25 ?_ rfl s2 ?_ ?_; rotate_left
  · intro _ _; go_simp; try with_reducible rfl
  try go_frame
  refine tk 10 26 ?_ rfl s2 ?_ ?_; rotate_left
  · intro _ _; go_simp; try with_reducible rfl
  try go_frame
  refine tk 11 27 ?_ rfl s2 ?_ ?_; rotate_left
  · intro _ _; go_simp; try with_reducible rfl
  try go_frame
  refine tk 12 28 ?_ rfl s2 ?_ ?_; rotate_left
  · intro _ _; go_simp; try with_reducible rfl
  try go_frame
  refine tk 13 29 ?_ rfl s2 ?_ ?_; rotate_left
  · intro _ _; go_simp; try with_reducible rfl
  try go_frame
  refine tk 14 30 ?_ rfl s2 ?_ ?_; rotate_left
  · intro _ _; go_simp; try with_reducible rfl
  try go_frame
  refine tk 15 31 ?_ rfl s2 ?_ ?_; rotate_left
  · intro _ _; go_simp; try with_reducible rfl
  try go_frame
  refine tk 16 32 ?_ rfl s2 ?_ ?_; rotate_left
  · intro _ _; go_simp; try with_reducible rfl
  try go_frame
  refine tk 17 33 ?_ rfl s2 ?_ ?_; rotate_left
  · intro _ _; go_simp; try with_reducible rfl
  try go_frame
  obtain ⟨RV, hRV⟩ : ∃ v, Value.slice (some ⟨g, o + 4, none⟩) (40 - 4) (c - 4) = v := ⟨_, rfl⟩
  rw [hRV] at rr2
  refine rd 18 rfl (fun K hK => ?_); go_simp
  have s3 : (w2.setCell ⟨R, 0, none⟩ (U (ws 0))).heap[g]? = some (.cells cur T (0, 0)) := by rw [zaa, if_neg gR]; exact s2
  have uu3 := (show (w2.setCell ⟨R, 0, none⟩ (U (ws 0))).heap[OB]? = w2.heap[OB]? by rw [zaa, if_neg oR]).trans uu2
  have rr3 : (w2.setCell ⟨R, 0, none⟩ (U (ws 0))).heap[R]? = some (.cells (readC ({ zeroT with count := ws 0 }) RV) 170 (0, 0)) := by rw [zaa, if_pos rfl, rr2, Option.map_some, zac]; exact congrArg (fun x => some (Obj.cells x 170 (0, 0))) (by first | exact zdl _ _ _ | exact zdk _ _ _ | exact rset_pre _ _ _ | exact rset_can _ _ _ | exact rset_live _ _ _)
  have CC3 : Ch [] w (w2.setCell ⟨R, 0, none⟩ (U (ws 0))) := CC2.setCell (p := ⟨R, 0, none⟩) (.inr (by simp; omega)) _
  refine hK.out _ _ s3 (fun _ => ?_)
  clear hK K s2 uu2 rr2 CC2
  obtain ⟨w3, hw3⟩ : ∃ W, (w2.setCell ⟨R, 0, none⟩ (U (ws 0))) = W := ⟨_, rfl⟩
  rw [hw3] at s3 uu3 rr3 CC3 ⊢
  clear hw3
  refine tk 19 34 ?_ rfl s3 ?_ ?_; rotate_left
  · intro _ _; go_simp; try with_reducible rfl
  try go_frame
  refine tk 20 35 ?_ rfl s3 ?_ ?_; rotate_left
  · intro _ _; go_simp; try with_reducible rfl
  try go_frame
  refine tk 21 36 ?_ rfl s3 ?_ ?_; rotate_left
  · intro _ _; go_simp; try with_reducible rfl
  try go_frame
  refine rd 22 rfl (fun K hK => ?_); go_simp
  have s4 : (w3.setCell ⟨R, 1, none⟩ (I (lowD (ws 1)))).heap[g]? = some (.cells cur T (0, 0)) := by rw [zaa, if_neg gR]; exact s3
  have uu4 := (show (w3.setCell ⟨R, 1, none⟩ (I (lowD (ws 1)))).heap[OB]? = w3.heap[OB]? by rw [zaa, if_neg oR]).trans uu3
  have rr4 : (w3.setCell ⟨R, 1, none⟩ (I (lowD (ws 1)))).heap[R]? = some (.cells (readC ({ zeroT with count := ws 0, depth := lowD (ws 1) }) RV) 170 (0, 0)) := by rw [zaa, if_pos rfl, rr3, Option.map_some, zac]; exact congrArg (fun x => some (Obj.cells x 170 (0, 0))) (by first | exact zdl _ _ _ | exact zdk _ _ _ | exact rset_pre _ _ _ | exact rset_can _ _ _ | exact rset_live _ _ _)
  have CC4 : Ch [] w (w3.setCell ⟨R, 1, none⟩ (I (lowD (ws 1)))) := CC3.setCell (p := ⟨R, 1, none⟩) (.inr (by simp; omega)) _
  refine hK.out _ _ s4 (fun _ => ?_)
  clear hK K s3 uu3 rr3 CC3
  obtain ⟨w4, hw4⟩ : ∃ W, (w3.setCell ⟨R, 1, none⟩ (I (lowD (ws 1)))) = W := ⟨_, rfl⟩
  rw [hw4] at s4 uu4 rr4 CC4 ⊢
  clear hw4
  refine tk 23 37 ?_ rfl s4 ?_ ?_; rotate_left
  · intro _ _; go_simp; try with_reducible rfl
  try go_frame
  refine tk 24 38 ?_ rfl s4 ?_ ?_; rotate_left
  · intro _ _; go_simp; try with_reducible rfl
  try go_frame
  refine tk 25 39 ?_ rfl s4 ?_ ?_; rotate_left
  · intro _ _; go_simp; try with_reducible rfl
  try go_frame
  refine rd 26 rfl (fun K hK => ?_); go_simp
  have s5 : (w4.setCell ⟨R, 2, none⟩ (U (ws 1 >>> 8))).heap[g]? = some (.cells cur T (0, 0)) := by rw [zaa, if_neg gR]; exact s4
  have uu5 := (show (w4.setCell ⟨R, 2, none⟩ (U (ws 1 >>> 8))).heap[OB]? = w4.heap[OB]? by rw [zaa, if_neg oR]).trans uu4
  have rr5 : (w4.setCell ⟨R, 2, none⟩ (U (ws 1 >>> 8))).heap[R]? = some (.cells (readC (rdA ws) RV) 170 (0, 0)) := by rw [zaa, if_pos rfl, rr4, Option.map_some, zac]; exact congrArg (fun x => some (Obj.cells x 170 (0, 0))) (by first | exact zdl _ _ _ | exact zdk _ _ _ | exact rset_pre _ _ _ | exact rset_can _ _ _ | exact rset_live _ _ _)
  have CC5 : Ch [] w (w4.setCell ⟨R, 2, none⟩ (U (ws 1 >>> 8))) := CC4.setCell (p := ⟨R, 2, none⟩) (.inr (by simp; omega)) _
  refine hK.out _ _ s5 (fun _ => ?_)
  clear hK K s4 uu4 rr4 CC4
  obtain ⟨w5, hw5⟩ : ∃ W, (w4.setCell ⟨R, 2, none⟩ (U (ws 1 >>> 8))) = W := ⟨_, rfl⟩
  rw [hw5] at s5 uu5 rr5 CC5 ⊢
  clear hw5
  rw [← hRV] at rr5
  clear hRV RV
  refine wpAnyH_done (by kernel_rfl) ?_ _
  have g5 := s5
  have u5 := uu5
  have r5 := rr5
  have C5 := CC5
  clear s5 uu5 rr5 CC5
  have e2 : cur[o + 2]? = some (U (ws 2)) := hw 2 (by omega)
  have e3 : cur[o + 3]? = some (U (ws 3)) := hw 3 (by omega)
  go_upto_region 5 with (fail)
  have s5 : (fun W' : World => W'.heap[g]? = some (.cells cur T (0, 0))) w5.drew := g5
  have rr5 : w5.drew.heap[R]? = _ := r5
  have uu5 : w5.drew.heap[OB]? = _ := u5
  have CC5 : Ch [] w w5.drew := C5.drew
  refine wp_region_held_drew (S := fun W' => W'.heap[g]? = some (.cells cur T (0, 0))) (by kernel_rfl) s5 ?_
  intro _
  simp only [List.size_toArray, List.length_cons, List.length_nil, Nat.reduceAdd]
  clear g5 r5 u5 C5
  generalize w5.drew = w5 at *
  refine tk 0 40 ?_ rfl s5 ?_ ?_; rotate_left
  · intro _ _; go_simp; try with_reducible rfl
  try go_frame
  refine tk 1 41 ?_ rfl s5 ?_ ?_; rotate_left
  · intro _ _; go_simp; try with_reducible rfl
  try go_frame
  refine tk 2 42 ?_ rfl s5 ?_ ?_; rotate_left
  · intro _ _; go_simp; try with_reducible rfl
  try go_frame
  refine tk 3 43 ?_ rfl s5 ?_ ?_; rotate_left
  · intro _ _; go_simp; try with_reducible rfl
  try go_frame
  refine tk 4 44 ?_ rfl s5 ?_ ?_; rotate_left
  · intro _ _; go_simp; try with_reducible rfl
  try go_frame
  refine tk 6 46 ?_ rfl s5 ?_ ?_; rotate_left
  · intro _ _; go_simp; try with_reducible rfl
  try go_frame
  refine tk 7 47 ?_ rfl s5 ?_ ?_; rotate_left
  · intro _ _; go_simp; try with_reducible rfl
  try go_frame
  refine tk 8 48 ?_ rfl s5 ?_ ?_; rotate_left
  · intro _ _; go_simp; try with_reducible rfl
  try go_frame
  refine rd (o := ⟨some 45, _, _, _, _, none⟩) 5 rfl (fun K hK => ?_); go_simp
  refine (number_no _ (by omega) _).mono ?_
  rintro e w' ⟨rfl, rfl⟩
  first | exact ⟨rfl, CC5⟩ | exact ⟨rfl, rfl, CC5⟩ | (refine hK.out _ _ ?_)
attribute [local irreducible] tcells in
theorem tbl1_num3 (WB OB g o c : Nat) (cur : Array Value) (T : TypeId) (ws : Nat → BitVec 64) (h2 : (ws 2).toNat ≤ 14) (h3 : 14 < (ws 3).toNat) (hnc : 40 ≤ c) (hc : c ≤ 9223372036854775807) (w : World) (hW : w.heap[WB]? = some (.cells #[.slice (some ⟨g, o, none⟩) 40 c] 44 (0, 0))) (hO : w.heap[OB]? = some (.cells (tcells zeroT) 26 (0, 0))) (hg : w.heap[g]? = some (.cells cur T (0, 0))) (hw : AtW cur o ws) (hgo : ¬ g = OB) :
    Calls Tryz.prog 105 #[.pointer (some ⟨WB, 0, none⟩), .pointer (some ⟨OB, 0, none⟩)] w fun e w' => e = .panicked [{ v := .iface 244 (.agg #[]), recovered := false }] ∧ Ch [] w w' := by
  have hWn : ¬ WB = w.heap.size := by have := (Array.getElem?_eq_some_iff.1 hW).1; omega
  have hOn : ¬ OB = w.heap.size := by have := (Array.getElem?_eq_some_iff.1 hO).1; omega
  have hgn : ¬ g = w.heap.size := by have := (Array.getElem?_eq_some_iff.1 hg).1; omega
  go_enter Tryz.func105, Tryz.ntmps105
  go_upto_region 3 with (go_at_call 107; refine (lneed_yes _).mono ?_; rintro e w' ⟨rfl, rfl⟩)
  have hC := (Ch.refl [] w).alloc (.cells (readC zeroT (.slice (some ⟨g, o, none⟩) 40 c)) 170 (0, 0))
  have g1 := hkeep hC hg
  have u1 := hkeep hC hO
  have r1 : (w.alloc (.cells (readC zeroT (.slice (some ⟨g, o, none⟩) 40 c)) 170)).heap[w.heap.size]? = some (.cells (readC zeroT (.slice (some ⟨g, o, none⟩) 40 c)) 170 (0, 0)) := by rw [zab, if_pos rfl]
  obtain ⟨w1, hw1⟩ : ∃ W, w.alloc (.cells (readC zeroT (.slice (some ⟨g, o, none⟩) 40 c)) 170) = W := ⟨_, rfl⟩
  rw [hw1] at hC g1 u1 r1 ⊢
  clear hw1
  have C1 : Ch [] w w1 := hC
  obtain ⟨R, hR⟩ : ∃ R, w.heap.size = R := ⟨_, rfl⟩
  have hRw : w.heap.size ≤ R := by omega
  have gR : ¬ g = R := by omega
  have oR : ¬ OB = R := by omega
  rw [hR] at r1 ⊢
  clear hC hW hO hg hWn hgn hOn hR
  go_wp2_with fail
  refine (next_any (zeroT) R g (o) 40 (c) 4 (by omega) (by omega) (by omega) (by omega) _ r1).mono ?_
  rintro e w2 ⟨rfl, r2, hc2⟩
  have g2 := (hc2.block g (Array.getElem?_eq_some_iff.1 g1).1 (by simpa using gR)).trans g1
  have u2 := (hc2.block OB (Array.getElem?_eq_some_iff.1 u1).1 (by simpa using oR)).trans u1
  have C2 : Ch [] w w2 := C1.trans2 hc2 (by intro t ht; right; simp at ht; omega)
  clear hc2 r1 g1 u1 C1
  have e0 : cur[o]? = some (U (ws 0)) := hw 0 (by omega)
  have e1 : cur[o + 1]? = some (U (ws 1)) := hw 1 (by omega)
  go_upto_region 4 with (fail)
  have s2 : (fun W' : World => W'.heap[g]? = some (.cells cur T (0, 0))) w2.drew := g2
  have rr2 : w2.drew.heap[R]? = _ := r2
  have uu2 : w2.drew.heap[OB]? = _ := u2
  have CC2 : Ch [] w w2.drew := C2.drew
  refine wp_region_held_drew (S := fun W' => W'.heap[g]? = some (.cells cur T (0, 0))) (by kernel_rfl) s2 ?_
  intro _
  simp only [List.size_toArray, List.length_cons, List.length_nil, Nat.reduceAdd]
  clear g2 r2 u2 C2
  generalize w2.drew = w2 at *
  refine tk 0 16 ?_ rfl s2 ?_ ?_; rotate_left
  · intro _ _; go_simp; try with_reducible rfl
  try go_frame
  refine tk 1 17 ?_ rfl s2 ?_ ?_; rotate_left
  · intro _ _; go_simp; try with_reducible rfl
  try go_frame
  refine tk 2 18 ?_ rfl s2 ?_ ?_; rotate_left
  · intro _ _; go_simp; try with_reducible rfl
  try go_frame
  refine tk 3 19 ?_ rfl s2 ?_ ?_; rotate_left
  · intro _ _; go_simp; try with_reducible rfl
  try go_frame
  refine tk 4 20 ?_ rfl s2 ?_ ?_; rotate_left
  · intro _ _; go_simp; try with_reducible rfl
  try go_frame
  refine tk 5 21 ?_ rfl s2 ?_ ?_; rotate_left
  · intro _ _; go_simp; try with_reducible rfl
  try go_frame
  refine tk 6 22 ?_ rfl s2 ?_ ?_; rotate_left
  · intro _ _; go_simp; try with_reducible rfl
  try go_frame
  refine tk 7 23 ?_ rfl s2 ?_ ?_; rotate_left
  · intro _ _; go_simp; try with_reducible rfl
  try go_frame
  refine tk 8 24 ?_ rfl s2 ?_ ?_; rotate_left
  · intro _ _; go_simp; try with_reducible rfl
  try go_frame
  refine tk 9 25 ?_ rfl s2 ?_ ?_; rotate_left
  · intro _ _; go_simp; try with_reducible rfl
  try go_frame
  refine tk 10 26 ?_ rfl s2 ?_ ?_; rotate_left
  · intro _ _; go_simp; try with_reducible rfl
  try go_frame
  refine tk 11 27 ?_ rfl s2 ?_ ?_; rotate_left
  · intro _ _; go_simp; try with_reducible rfl
  try go_frame
  refine tk 12 28 ?_ rfl s2 ?_ ?_; rotate_left
  · intro _ _; go_simp; try with_reducible rfl
  try go_frame
  refine tk 13 29 ?_ rfl s2 ?_ ?_; rotate_left
  · intro _ _; go_simp; try with_reducible rfl
  try go_frame
  refine tk 14 30 ?_ rfl s2 ?_ ?_; rotate_left
  · intro _ _; go_simp; try with_reducible rfl
  try go_frame
  refine tk 15 31 ?_ rfl s2 ?_ ?_; rotate_left
  · intro _ _; go_simp; try with_reducible rfl
  try go_frame
  refine tk 16 32 ?_ rfl s2 ?_ ?_; rotate_left
  · intro _ _; go_simp; try with_reducible rfl
  try go_frame
  refine tk 17 33 ?_ rfl s2 ?_ ?_; rotate_left
  · intro _ _; go_simp; try with_reducible rfl
  try go_frame
  obtain ⟨RV, hRV⟩ : ∃ v, Value.slice (some ⟨g, o + 4, none⟩) (40 - 4) (c - 4) = v := ⟨_, rfl⟩
  rw [hRV] at rr2
  refine rd 18 rfl (fun K hK => ?_); go_simp
  have s3 : (w2.setCell ⟨R, 0, none⟩ (U (ws 0))).heap[g]? = some (.cells cur T (0, 0)) := by rw [zaa, if_neg gR]; exact s2
  have uu3 := (show (w2.setCell ⟨R, 0, none⟩ (U (ws 0))).heap[OB]? = w2.heap[OB]? by rw [zaa, if_neg oR]).trans uu2
  have rr3 : (w2.setCell ⟨R, 0, none⟩ (U (ws 0))).heap[R]? = some (.cells (readC ({ zeroT with count := ws 0 }) RV) 170 (0, 0)) := by rw [zaa, if_pos rfl, rr2, Option.map_some, zac]; exact congrArg (fun x => some (Obj.cells x 170 (0, 0))) (by first | exact zdl _ _ _ | exact zdk _ _ _ | exact rset_pre _ _ _ | exact rset_can _ _ _ | exact rset_live _ _ _)
  have CC3 : Ch [] w (w2.setCell ⟨R, 0, none⟩ (U (ws 0))) := CC2.setCell (p := ⟨R, 0, none⟩) (.inr (by simp; omega)) _
  refine hK.out _ _ s3 (fun _ => ?_)
  clear hK K s2 uu2 rr2 CC2
  obtain ⟨w3, hw3⟩ : ∃ W, (w2.setCell ⟨R, 0, none⟩ (U (ws 0))) = W := ⟨_, rfl⟩
  rw [hw3] at s3 uu3 rr3 CC3 ⊢
  clear hw3
  refine tk 19 34 ?_ rfl s3 ?_ ?_; rotate_left
  · intro _ _; go_simp; try with_reducible rfl
  try go_frame
  refine tk 20 35 ?_ rfl s3 ?_ ?_; rotate_left
  · intro _ _; go_simp; try with_reducible rfl
  try go_frame
  refine tk 21 36 ?_ rfl s3 ?_ ?_; rotate_left
  · intro _ _; go_simp; try with_reducible rfl
  try go_frame
  refine rd 22 rfl (fun K hK => ?_); go_simp
  have s4 : (w3.setCell ⟨R, 1, none⟩ (I (lowD (ws 1)))).heap[g]? = some (.cells cur T (0, 0)) := by rw [zaa, if_neg gR]; exact s3
  have uu4 := (show (w3.setCell ⟨R, 1, none⟩ (I (lowD (ws 1)))).heap[OB]? = w3.heap[OB]? by rw [zaa, if_neg oR]).trans uu3
  have rr4 : (w3.setCell ⟨R, 1, none⟩ (I (lowD (ws 1)))).heap[R]? = some (.cells (readC ({ zeroT with count := ws 0, depth := lowD (ws 1) }) RV) 170 (0, 0)) := by rw [zaa, if_pos rfl, rr3, Option.map_some, zac]; exact congrArg (fun x => some (Obj.cells x 170 (0, 0))) (by first | exact zdl _ _ _ | exact zdk _ _ _ | exact rset_pre _ _ _ | exact rset_can _ _ _ | exact rset_live _ _ _)
  have CC4 : Ch [] w (w3.setCell ⟨R, 1, none⟩ (I (lowD (ws 1)))) := CC3.setCell (p := ⟨R, 1, none⟩) (.inr (by simp; omega)) _
  refine hK.out _ _ s4 (fun _ => ?_)
  clear hK K s3 uu3 rr3 CC3
  obtain ⟨w4, hw4⟩ : ∃ W, (w3.setCell ⟨R, 1, none⟩ (I (lowD (ws 1)))) = W := ⟨_, rfl⟩
  rw [hw4] at s4 uu4 rr4 CC4 ⊢
  clear hw4
  refine tk 23 37 ?_ rfl s4 ?_ ?_; rotate_left
  · intro _ _; go_simp; try with_reducible rfl
  try go_frame
  refine tk 24 38 ?_ rfl s4 ?_ ?_; rotate_left
  · intro _ _; go_simp; try with_reducible rfl
  try go_frame
  refine tk 25 39 ?_ rfl s4 ?_ ?_; rotate_left
  · intro _ _; go_simp; try with_reducible rfl
  try go_frame
  refine rd 26 rfl (fun K hK => ?_); go_simp
  have s5 : (w4.setCell ⟨R, 2, none⟩ (U (ws 1 >>> 8))).heap[g]? = some (.cells cur T (0, 0)) := by rw [zaa, if_neg gR]; exact s4
  have uu5 := (show (w4.setCell ⟨R, 2, none⟩ (U (ws 1 >>> 8))).heap[OB]? = w4.heap[OB]? by rw [zaa, if_neg oR]).trans uu4
  have rr5 : (w4.setCell ⟨R, 2, none⟩ (U (ws 1 >>> 8))).heap[R]? = some (.cells (readC (rdA ws) RV) 170 (0, 0)) := by rw [zaa, if_pos rfl, rr4, Option.map_some, zac]; exact congrArg (fun x => some (Obj.cells x 170 (0, 0))) (by first | exact zdl _ _ _ | exact zdk _ _ _ | exact rset_pre _ _ _ | exact rset_can _ _ _ | exact rset_live _ _ _)
  have CC5 : Ch [] w (w4.setCell ⟨R, 2, none⟩ (U (ws 1 >>> 8))) := CC4.setCell (p := ⟨R, 2, none⟩) (.inr (by simp; omega)) _
  refine hK.out _ _ s5 (fun _ => ?_)
  clear hK K s4 uu4 rr4 CC4
  obtain ⟨w5, hw5⟩ : ∃ W, (w4.setCell ⟨R, 2, none⟩ (U (ws 1 >>> 8))) = W := ⟨_, rfl⟩
  rw [hw5] at s5 uu5 rr5 CC5 ⊢
  clear hw5
  rw [← hRV] at rr5
  clear hRV RV
  refine wpAnyH_done (by kernel_rfl) ?_ _
  have g5 := s5
  have u5 := uu5
  have r5 := rr5
  have C5 := CC5
  clear s5 uu5 rr5 CC5
  have e2 : cur[o + 2]? = some (U (ws 2)) := hw 2 (by omega)
  have e3 : cur[o + 3]? = some (U (ws 3)) := hw 3 (by omega)
  go_upto_region 5 with (fail)
  have s5 : (fun W' : World => W'.heap[g]? = some (.cells cur T (0, 0))) w5.drew := g5
  have rr5 : w5.drew.heap[R]? = _ := r5
  have uu5 : w5.drew.heap[OB]? = _ := u5
  have CC5 : Ch [] w w5.drew := C5.drew
  refine wp_region_held_drew (S := fun W' => W'.heap[g]? = some (.cells cur T (0, 0))) (by kernel_rfl) s5 ?_
  intro _
  simp only [List.size_toArray, List.length_cons, List.length_nil, Nat.reduceAdd]
  clear g5 r5 u5 C5
  generalize w5.drew = w5 at *
  refine tk 0 40 ?_ rfl s5 ?_ ?_; rotate_left
  · intro _ _; go_simp; try with_reducible rfl
  try go_frame
  refine tk 1 41 ?_ rfl s5 ?_ ?_; rotate_left
  · intro _ _; go_simp; try with_reducible rfl
  try go_frame
  refine tk 2 42 ?_ rfl s5 ?_ ?_; rotate_left
  · intro _ _; go_simp; try with_reducible rfl
  try go_frame
  refine tk 3 43 ?_ rfl s5 ?_ ?_; rotate_left
  · intro _ _; go_simp; try with_reducible rfl
  try go_frame
  refine tk 4 44 ?_ rfl s5 ?_ ?_; rotate_left
  · intro _ _; go_simp; try with_reducible rfl
  try go_frame
  refine tk 6 46 ?_ rfl s5 ?_ ?_; rotate_left
  · intro _ _; go_simp; try with_reducible rfl
  try go_frame
  refine tk 7 47 ?_ rfl s5 ?_ ?_; rotate_left
  · intro _ _; go_simp; try with_reducible rfl
  try go_frame
  refine tk 8 48 ?_ rfl s5 ?_ ?_; rotate_left
  · intro _ _; go_simp; try with_reducible rfl
  try go_frame
  refine rd (o := ⟨some 45, _, _, _, _, none⟩) 5 rfl (fun K hK => ?_); go_simp
  refine (number_yes _ (by omega) _).mono ?_
  rintro e w' ⟨rfl, rfl⟩
  refine hK.out _ _ s5 (fun _ => ?_)
  clear hK K
  refine rd (o := ⟨some 49, _, _, _, _, none⟩) 9 rfl (fun K hK => ?_); go_simp
  refine (number_no _ (by omega) _).mono ?_
  rintro e w' ⟨rfl, rfl⟩
  first | exact ⟨rfl, CC5⟩ | exact ⟨rfl, rfl, CC5⟩
attribute [local irreducible] tcells in
theorem tbl1_rest (WB OB g o c : Nat) (cur : Array Value) (T : TypeId) (ws : Nat → BitVec 64) (h2 : (ws 2).toNat ≤ 14) (h3 : (ws 3).toNat ≤ 14) (hf : (flatT (readTab ws) && (ws 38 == 0#64) && (ws 39 == 0#64)) = false) (hnc : 40 ≤ c) (hc : c ≤ 9223372036854775807) (w : World) (hW : w.heap[WB]? = some (.cells #[.slice (some ⟨g, o, none⟩) 40 c] 44 (0, 0))) (hO : w.heap[OB]? = some (.cells (tcells zeroT) 26 (0, 0))) (hg : w.heap[g]? = some (.cells cur T (0, 0))) (hw : AtW cur o ws) (hgo : ¬ g = OB) :
    Calls Tryz.prog 105 #[.pointer (some ⟨WB, 0, none⟩), .pointer (some ⟨OB, 0, none⟩)] w fun e w' => e = .panicked [{ v := .iface 244 (.agg #[]), recovered := false }] ∧ Ch [] w w' := by
  have hWn : ¬ WB = w.heap.size := by have := (Array.getElem?_eq_some_iff.1 hW).1; omega
  have hOn : ¬ OB = w.heap.size := by have := (Array.getElem?_eq_some_iff.1 hO).1; omega
  have hgn : ¬ g = w.heap.size := by have := (Array.getElem?_eq_some_iff.1 hg).1; omega
  go_enter Tryz.func105, Tryz.ntmps105
  go_upto_region 3 with (go_at_call 107; refine (lneed_yes _).mono ?_; rintro e w' ⟨rfl, rfl⟩)
  have hC := (Ch.refl [] w).alloc (.cells (readC zeroT (.slice (some ⟨g, o, none⟩) 40 c)) 170 (0, 0))
  have g1 := hkeep hC hg
  have u1 := hkeep hC hO
  have r1 : (w.alloc (.cells (readC zeroT (.slice (some ⟨g, o, none⟩) 40 c)) 170)).heap[w.heap.size]? = some (.cells (readC zeroT (.slice (some ⟨g, o, none⟩) 40 c)) 170 (0, 0)) := by rw [zab, if_pos rfl]
  obtain ⟨w1, hw1⟩ : ∃ W, w.alloc (.cells (readC zeroT (.slice (some ⟨g, o, none⟩) 40 c)) 170) = W := ⟨_, rfl⟩
  rw [hw1] at hC g1 u1 r1 ⊢
  clear hw1
  have C1 : Ch [] w w1 := hC
  obtain ⟨R, hR⟩ : ∃ R, w.heap.size = R := ⟨_, rfl⟩
  have hRw : w.heap.size ≤ R := by omega
  have gR : ¬ g = R := by omega
  have oR : ¬ OB = R := by omega
  rw [hR] at r1 ⊢
  clear hC hW hO hg hWn hgn hOn hR
  go_wp2_with fail
  refine (next_any (zeroT) R g (o) 40 (c) 4 (by omega) (by omega) (by omega) (by omega) _ r1).mono ?_
  rintro e w2 ⟨rfl, r2, hc2⟩
  have g2 := (hc2.block g (Array.getElem?_eq_some_iff.1 g1).1 (by simpa using gR)).trans g1
  have u2 := (hc2.block OB (Array.getElem?_eq_some_iff.1 u1).1 (by simpa using oR)).trans u1
  have C2 : Ch [] w w2 := C1.trans2 hc2 (by intro t ht; right; simp at ht; omega)
  clear hc2 r1 g1 u1 C1
  have e0 : cur[o]? = some (U (ws 0)) := hw 0 (by omega)
  have e1 : cur[o + 1]? = some (U (ws 1)) := hw 1 (by omega)
  go_upto_region 4 with (fail)
  have s2 : (fun W' : World => W'.heap[g]? = some (.cells cur T (0, 0))) w2.drew := g2
  have rr2 : w2.drew.heap[R]? = _ := r2
  have uu2 : w2.drew.heap[OB]? = _ := u2
  have CC2 : Ch [] w w2.drew := C2.drew
  refine wp_region_held_drew (S := fun W' => W'.heap[g]? = some (.cells cur T (0, 0))) (by kernel_rfl) s2 ?_
  intro _
  simp only [List.size_toArray, List.length_cons, List.length_nil, Nat.reduceAdd]
  clear g2 r2 u2 C2
  generalize w2.drew = w2 at *
  refine tk 0 16 ?_ rfl s2 ?_ ?_; rotate_left
  · intro _ _; go_simp; try with_reducible rfl
  try go_frame
  refine tk 1 17 ?_ rfl s2 ?_ ?_; rotate_left
  · intro _ _; go_simp; try with_reducible rfl
  try go_frame
  refine tk 2 18 ?_ rfl s2 ?_ ?_; rotate_left
  · intro _ _; go_simp; try with_reducible rfl
  try go_frame
  refine tk 3 19 ?_ rfl s2 ?_ ?_; rotate_left
  · intro _ _; go_simp; try with_reducible rfl
  try go_frame
  refine tk 4 20 ?_ rfl s2 ?_ ?_; rotate_left
  · intro _ _; go_simp; try with_reducible rfl
  try go_frame
  refine tk 5 21 ?_ rfl s2 ?_ ?_; rotate_left
  · intro _ _; go_simp; try with_reducible rfl
  try go_frame
  refine tk 6 22 ?_ rfl s2 ?_ ?_; rotate_left
  · intro _ _; go_simp; try with_reducible rfl
  try go_frame
  refine tk 7 23 ?_ rfl s2 ?_ ?_; rotate_left
  · intro _ _; go_simp; try with_reducible rfl
  try go_frame
  refine tk 8 24 ?_ rfl s2 ?_ ?_; rotate_left
  · intro _ _; go_simp; try with_reducible rfl
  try go_frame
  refine tk 9 25 ?_ rfl s2 ?_ ?_; rotate_left
  · intro _ _; go_simp; try with_reducible rfl
  try go_frame
  refine tk 10 26 ?_ rfl s2 ?_ ?_; rotate_left
  · intro _ _; go_simp; try with_reducible rfl
  try go_frame
  refine tk 11 27 ?_ rfl s2 ?_ ?_; rotate_left
  · intro _ _; go_simp; try with_reducible rfl
  try go_frame
  refine tk 12 28 ?_ rfl s2 ?_ ?_; rotate_left
  · intro _ _; go_simp; try with_reducible rfl
  try go_frame
  refine tk 13 29 ?_ rfl s2 ?_ ?_; rotate_left
  · intro _ _; go_simp; try with_reducible rfl
  try go_frame
  refine tk 14 30 ?_ rfl s2 ?_ ?_; rotate_left
  · intro _ _; go_simp; try with_reducible rfl
  try go_frame
  refine tk 15 31 ?_ rfl s2 ?_ ?_; rotate_left
  · intro _ _; go_simp; try with_reducible rfl
  try go_frame
  refine tk 16 32 ?_ rfl s2 ?_ ?_; rotate_left
  · intro _ _; go_simp; try with_reducible rfl
  try go_frame
  refine tk 17 33 ?_ rfl s2 ?_ ?_; rotate_left
  · intro _ _; go_simp; try with_reducible rfl
  try go_frame
  obtain ⟨RV, hRV⟩ : ∃ v, Value.slice (some ⟨g, o + 4, none⟩) (40 - 4) (c - 4) = v := ⟨_, rfl⟩
  rw [hRV] at rr2
  refine rd 18 rfl (fun K hK => ?_); go_simp
  have s3 : (w2.setCell ⟨R, 0, none⟩ (U (ws 0))).heap[g]? = some (.cells cur T (0, 0)) := by rw [zaa, if_neg gR]; exact s2
  have uu3 := (show (w2.setCell ⟨R, 0, none⟩ (U (ws 0))).heap[OB]? = w2.heap[OB]? by rw [zaa, if_neg oR]).trans uu2
  have rr3 : (w2.setCell ⟨R, 0, none⟩ (U (ws 0))).heap[R]? = some (.cells (readC ({ zeroT with count := ws 0 }) RV) 170 (0, 0)) := by rw [zaa, if_pos rfl, rr2, Option.map_some, zac]; exact congrArg (fun x => some (Obj.cells x 170 (0, 0))) (by first | exact zdl _ _ _ | exact zdk _ _ _ | exact rset_pre _ _ _ | exact rset_can _ _ _ | exact rset_live _ _ _)
  have CC3 : Ch [] w (w2.setCell ⟨R, 0, none⟩ (U (ws 0))) := CC2.setCell (p := ⟨R, 0, none⟩) (.inr (by simp; omega)) _
  refine hK.out _ _ s3 (fun _ => ?_)
  clear hK K s2 uu2 rr2 CC2
  obtain ⟨w3, hw3⟩ : ∃ W, (w2.setCell ⟨R, 0, none⟩ (U (ws 0))) = W := ⟨_, rfl⟩
  rw [hw3] at s3 uu3 rr3 CC3 ⊢
  clear hw3
  refine tk 19 34 ?_ rfl s3 ?_ ?_; rotate_left
  · intro _ _; go_simp; try with_reducible rfl
  try go_frame
  refine tk 20 35 ?_ rfl s3 ?_ ?_; rotate_left
  · intro _ _; go_simp; try with_reducible rfl
  try go_frame
  refine tk 21 36 ?_ rfl s3 ?_ ?_; rotate_left
  · intro _ _; go_simp; try with_reducible rfl
  try go_frame
  refine rd 22 rfl (fun K hK => ?_); go_simp
  have s4 : (w3.setCell ⟨R, 1, none⟩ (I (lowD (ws 1)))).heap[g]? = some (.cells cur T (0, 0)) := by rw [zaa, if_neg gR]; exact s3
  have uu4 := (show (w3.setCell ⟨R, 1, none⟩ (I (lowD (ws 1)))).heap[OB]? = w3.heap[OB]? by rw [zaa, if_neg oR]).trans uu3
  have rr4 : (w3.setCell ⟨R, 1, none⟩ (I (lowD (ws 1)))).heap[R]? = some (.cells (readC ({ zeroT with count := ws 0, depth := lowD (ws 1) }) RV) 170 (0, 0)) := by rw [zaa, if_pos rfl, rr3, Option.map_some, zac]; exact congrArg (fun x => some (Obj.cells x 170 (0, 0))) (by first | exact zdl _ _ _ | exact zdk _ _ _ | exact rset_pre _ _ _ | exact rset_can _ _ _ | exact rset_live _ _ _)
  have CC4 : Ch [] w (w3.setCell ⟨R, 1, none⟩ (I (lowD (ws 1)))) := CC3.setCell (p := ⟨R, 1, none⟩) (.inr (by simp; omega)) _
  refine hK.out _ _ s4 (fun _ => ?_)
  clear hK K s3 uu3 rr3 CC3
  obtain ⟨w4, hw4⟩ : ∃ W, (w3.setCell ⟨R, 1, none⟩ (I (lowD (ws 1)))) = W := ⟨_, rfl⟩
  rw [hw4] at s4 uu4 rr4 CC4 ⊢
  clear hw4
  refine tk 23 37 ?_ rfl s4 ?_ ?_; rotate_left
  · intro _ _; go_simp; try with_reducible rfl
  try go_frame
  refine tk 24 38 ?_ rfl s4 ?_ ?_; rotate_left
  · intro _ _; go_simp; try with_reducible rfl
  try go_frame
  refine tk 25 39 ?_ rfl s4 ?_ ?_; rotate_left
  · intro _ _; go_simp; try with_reducible rfl
  try go_frame
  refine rd 26 rfl (fun K hK => ?_); go_simp
  have s5 : (w4.setCell ⟨R, 2, none⟩ (U (ws 1 >>> 8))).heap[g]? = some (.cells cur T (0, 0)) := by rw [zaa, if_neg gR]; exact s4
  have uu5 := (show (w4.setCell ⟨R, 2, none⟩ (U (ws 1 >>> 8))).heap[OB]? = w4.heap[OB]? by rw [zaa, if_neg oR]).trans uu4
  have rr5 : (w4.setCell ⟨R, 2, none⟩ (U (ws 1 >>> 8))).heap[R]? = some (.cells (readC (rdA ws) RV) 170 (0, 0)) := by rw [zaa, if_pos rfl, rr4, Option.map_some, zac]; exact congrArg (fun x => some (Obj.cells x 170 (0, 0))) (by first | exact zdl _ _ _ | exact zdk _ _ _ | exact rset_pre _ _ _ | exact rset_can _ _ _ | exact rset_live _ _ _)
  have CC5 : Ch [] w (w4.setCell ⟨R, 2, none⟩ (U (ws 1 >>> 8))) := CC4.setCell (p := ⟨R, 2, none⟩) (.inr (by simp; omega)) _
  refine hK.out _ _ s5 (fun _ => ?_)
  clear hK K s4 uu4 rr4 CC4
  obtain ⟨w5, hw5⟩ : ∃ W, (w4.setCell ⟨R, 2, none⟩ (U (ws 1 >>> 8))) = W := ⟨_, rfl⟩
  rw [hw5] at s5 uu5 rr5 CC5 ⊢
  clear hw5
  rw [← hRV] at rr5
  clear hRV RV
  refine wpAnyH_done (by kernel_rfl) ?_ _
  have g5 := s5
  have u5 := uu5
  have r5 := rr5
  have C5 := CC5
  clear s5 uu5 rr5 CC5
  have e2 : cur[o + 2]? = some (U (ws 2)) := hw 2 (by omega)
  have e3 : cur[o + 3]? = some (U (ws 3)) := hw 3 (by omega)
  go_upto_region 5 with (fail)
  have s5 : (fun W' : World => W'.heap[g]? = some (.cells cur T (0, 0))) w5.drew := g5
  have rr5 : w5.drew.heap[R]? = _ := r5
  have uu5 : w5.drew.heap[OB]? = _ := u5
  have CC5 : Ch [] w w5.drew := C5.drew
  refine wp_region_held_drew (S := fun W' => W'.heap[g]? = some (.cells cur T (0, 0))) (by kernel_rfl) s5 ?_
  intro _
  simp only [List.size_toArray, List.length_cons, List.length_nil, Nat.reduceAdd]
  clear g5 r5 u5 C5
  generalize w5.drew = w5 at *
  refine tk 0 40 ?_ rfl s5 ?_ ?_; rotate_left
  · intro _ _; go_simp; try with_reducible rfl
  try go_frame
  refine tk 1 41 ?_ rfl s5 ?_ ?_; rotate_left
  · intro _ _; go_simp; try with_reducible rfl
  try go_frame
  refine tk 2 42 ?_ rfl s5 ?_ ?_; rotate_left
  · intro _ _; go_simp; try with_reducible rfl
  try go_frame
  refine tk 3 43 ?_ rfl s5 ?_ ?_; rotate_left
  · intro _ _; go_simp; try with_reducible rfl
  try go_frame
  refine tk 4 44 ?_ rfl s5 ?_ ?_; rotate_left
  · intro _ _; go_simp; try with_reducible rfl
  try go_frame
  refine tk 6 46 ?_ rfl s5 ?_ ?_; rotate_left
  · intro _ _; go_simp; try with_reducible rfl
  try go_frame
  refine tk 7 47 ?_ rfl s5 ?_ ?_; rotate_left
  · intro _ _; go_simp; try with_reducible rfl
  try go_frame
  refine tk 8 48 ?_ rfl s5 ?_ ?_; rotate_left
  · intro _ _; go_simp; try with_reducible rfl
  try go_frame
  refine rd (o := ⟨some 45, _, _, _, _, none⟩) 5 rfl (fun K hK => ?_); go_simp
  refine (number_yes _ (by omega) _).mono ?_
  rintro e w' ⟨rfl, rfl⟩
  refine hK.out _ _ s5 (fun _ => ?_)
  clear hK K
  refine rd (o := ⟨some 49, _, _, _, _, none⟩) 9 rfl (fun K hK => ?_); go_simp
  refine (number_yes _ (by omega) _).mono ?_
  rintro e w' ⟨rfl, rfl⟩
  refine hK.out _ _ s5 (fun _ => ?_)
  clear hK K
  obtain ⟨RV, hRV⟩ : ∃ v, Value.slice (some ⟨g, o + 4, none⟩) (40 - 4) (c - 4) = v := ⟨_, rfl⟩
  rw [hRV] at rr5
  refine tk 10 50 ?_ rfl s5 ?_ ?_; rotate_left
  · intro _ _; go_simp; try with_reducible rfl
  try go_frame
  refine tk 11 51 ?_ rfl s5 ?_ ?_; rotate_left
  · intro _ _; go_simp; try with_reducible rfl
  try go_frame
  refine tk 12 52 ?_ rfl s5 ?_ ?_; rotate_left
  · intro _ _; go_simp; try with_reducible rfl
  try go_frame
  refine rd 13 rfl (fun K hK => ?_); go_simp
  have s6 : (w5.setCell ⟨R, 3, none⟩ (I ((ws 2).toNat : Int))).heap[g]? = some (.cells cur T (0, 0)) := by rw [zaa, if_neg gR]; exact s5
  have uu6 := (show (w5.setCell ⟨R, 3, none⟩ (I ((ws 2).toNat : Int))).heap[OB]? = w5.heap[OB]? by rw [zaa, if_neg oR]).trans uu5
  have rr6 : (w5.setCell ⟨R, 3, none⟩ (I ((ws 2).toNat : Int))).heap[R]? = some (.cells (readC ({ rdA ws with can := ((ws 2).toNat : Int) }) RV) 170 (0, 0)) := by rw [zaa, if_pos rfl, rr5, Option.map_some, zac]; exact congrArg (fun x => some (Obj.cells x 170 (0, 0))) (by first | exact zdl _ _ _ | exact zdk _ _ _ | exact rset_pre _ _ _ | exact rset_can _ _ _ | exact rset_live _ _ _)
  have CC6 : Ch [] w (w5.setCell ⟨R, 3, none⟩ (I ((ws 2).toNat : Int))) := CC5.setCell (p := ⟨R, 3, none⟩) (.inr (by simp; omega)) _
  refine hK.out _ _ s6 (fun _ => ?_)
  clear hK K s5 uu5 rr5 CC5
  obtain ⟨w6, hw6⟩ : ∃ W, (w5.setCell ⟨R, 3, none⟩ (I ((ws 2).toNat : Int))) = W := ⟨_, rfl⟩
  rw [hw6] at s6 uu6 rr6 CC6 ⊢
  clear hw6
  refine tk 14 53 ?_ rfl s6 ?_ ?_; rotate_left
  · intro _ _; go_simp; try with_reducible rfl
  try go_frame
  refine tk 15 54 ?_ rfl s6 ?_ ?_; rotate_left
  · intro _ _; go_simp; try with_reducible rfl
  try go_frame
  refine tk 16 55 ?_ rfl s6 ?_ ?_; rotate_left
  · intro _ _; go_simp; try with_reducible rfl
  try go_frame
  refine rd 17 rfl (fun K hK => ?_); go_simp
  have s7 : (w6.setCell ⟨R, 4, none⟩ (I ((ws 3).toNat : Int))).heap[g]? = some (.cells cur T (0, 0)) := by rw [zaa, if_neg gR]; exact s6
  have uu7 := (show (w6.setCell ⟨R, 4, none⟩ (I ((ws 3).toNat : Int))).heap[OB]? = w6.heap[OB]? by rw [zaa, if_neg oR]).trans uu6
  have rr7 : (w6.setCell ⟨R, 4, none⟩ (I ((ws 3).toNat : Int))).heap[R]? = some (.cells (readC (rdB ws) RV) 170 (0, 0)) := by rw [zaa, if_pos rfl, rr6, Option.map_some, zac]; exact congrArg (fun x => some (Obj.cells x 170 (0, 0))) (by first | exact zdl _ _ _ | exact zdk _ _ _ | exact rset_pre _ _ _ | exact rset_can _ _ _ | exact rset_live _ _ _)
  have CC7 : Ch [] w (w6.setCell ⟨R, 4, none⟩ (I ((ws 3).toNat : Int))) := CC6.setCell (p := ⟨R, 4, none⟩) (.inr (by simp; omega)) _
  refine hK.out _ _ s7 (fun _ => ?_)
  clear hK K s6 uu6 rr6 CC6
  obtain ⟨w7, hw7⟩ : ∃ W, (w6.setCell ⟨R, 4, none⟩ (I ((ws 3).toNat : Int))) = W := ⟨_, rfl⟩
  rw [hw7] at s7 uu7 rr7 CC7 ⊢
  clear hw7
  rw [← hRV] at rr7
  clear hRV RV
  refine wpAnyH_done (by kernel_rfl) ?_ _
  have g7 := s7
  have u7 := uu7
  have r7 := rr7
  have C7 := CC7
  clear s7 uu7 rr7 CC7
  go_upto_region 6 with (fail)
  have s7 : (fun W' : World => W'.heap[g]? = some (.cells cur T (0, 0))) w7.drew := g7
  have rr7 : w7.drew.heap[R]? = _ := r7
  have uu7 : w7.drew.heap[OB]? = _ := u7
  have CC7 : Ch [] w w7.drew := C7.drew
  refine wp_region_held_drew (S := fun W' => W'.heap[g]? = some (.cells cur T (0, 0))) (by kernel_rfl) s7 ?_
  intro _
  simp only [List.size_toArray, List.length_cons, List.length_nil, Nat.reduceAdd]
  clear g7 r7 u7 C7
  generalize w7.drew = w7 at *
  refine tk 0 56 ?_ rfl s7 ?_ ?_; rotate_left
  · intro _ _; go_simp; try with_reducible rfl
  try go_frame
  refine tk 1 57 ?_ rfl s7 ?_ ?_; rotate_left
  · intro _ _; go_simp; try with_reducible rfl
  try go_frame
  refine tk 2 58 ?_ rfl s7 ?_ ?_; rotate_left
  · intro _ _; go_simp; try with_reducible rfl
  try go_frame
  refine tk 3 59 ?_ rfl s7 ?_ ?_; rotate_left
  · intro _ _; go_simp; try with_reducible rfl
  try go_frame
  refine tk 4 60 ?_ rfl s7 ?_ ?_; rotate_left
  · intro _ _; go_simp; try with_reducible rfl
  try go_frame
  refine tk 5 61 ?_ rfl s7 ?_ ?_; rotate_left
  · intro _ _; go_simp; try with_reducible rfl
  try go_frame
  refine rd (o := ⟨some 62, _, _, _, _, none⟩) 6 rfl (fun K hK => ?_); go_simp
  refine (next_any (rdB ws) R g (o + 4) (40 - 4) (c - 4) 2 (by omega) (by omega) (by omega) (by omega) _ rr7).mono ?_
  rintro e w8 ⟨rfl, rr8, hc8⟩
  have s8 := (hc8.block g (Array.getElem?_eq_some_iff.1 s7).1 (by simpa using gR)).trans s7
  have uu8 := (hc8.block OB (Array.getElem?_eq_some_iff.1 uu7).1 (by simpa using oR)).trans uu7
  have CC8 : Ch [] w w8 := CC7.trans2 hc8 (by intro t ht; right; simp at ht; omega)
  refine hK.out _ _ s8 (fun _ => ?_)
  clear hK K hc8 rr7 s7 uu7 CC7
  have hcp := copy_rd (ob := 5) (cap := 2) (n := 2) (m := 4) (ws := ws) (o + 4) rr8 s8 (fun j hj => by have := hw (4 + j) (by omega); rw [show o + (4 + j) = o + 4 + j by omega] at this; exact this) (by omega) (rsplice_c _ _ (fun i => ws (4 + i)))
  have hcp2 : _ = Result.ok _ (w8.setRow R (readC (rdC ws) _)) := hcp
  clear hcp
  refine rd (o := ⟨some 63, _, _, _, _, none⟩) 7 rfl (fun K hK => ?_); go_simp
  have s9 : (w8.setRow R (readC (rdC ws) (.slice (some ⟨g, o + 4 + 2, none⟩) ((40 - 4) - 2) (c - 4 - 2)))).heap[g]? = some (.cells cur T (0, 0)) := by rw [setRow_ne _ gR]; exact s8
  have uu9 := (setRow_ne (w := w8) (readC (rdC ws) (.slice (some ⟨g, o + 4 + 2, none⟩) ((40 - 4) - 2) (c - 4 - 2))) oR).trans uu8
  have rr9 := setRow_rd (cu' := readC (rdC ws) (.slice (some ⟨g, o + 4 + 2, none⟩) ((40 - 4) - 2) (c - 4 - 2))) rr8
  have CC9 : Ch [] w (w8.setRow R (readC (rdC ws) (.slice (some ⟨g, o + 4 + 2, none⟩) ((40 - 4) - 2) (c - 4 - 2)))) := CC8.trans2 (setRow_ch _) (by intro t ht; right; simp at ht; omega)
  refine hK.out _ _ s9 (fun _ => ?_)
  clear hK K hcp2 s8 uu8 rr8 CC8
  obtain ⟨w9, hw9⟩ : ∃ W, (w8.setRow R (readC (rdC ws) (.slice (some ⟨g, o + 4 + 2, none⟩) ((40 - 4) - 2) (c - 4 - 2)))) = W := ⟨_, rfl⟩
  rw [hw9] at s9 uu9 rr9 CC9 ⊢
  clear hw9
  refine wpAnyH_done (by kernel_rfl) ?_ _
  have g9 := s9
  have u9 := uu9
  have r9 := rr9
  have C9 := CC9
  clear s9 uu9 rr9 CC9
  go_upto_region 7 with (fail)
  have s9 : (fun W' : World => W'.heap[g]? = some (.cells cur T (0, 0))) w9.drew := g9
  have rr9 : w9.drew.heap[R]? = _ := r9
  have uu9 : w9.drew.heap[OB]? = _ := u9
  have CC9 : Ch [] w w9.drew := C9.drew
  refine wp_region_held_drew (S := fun W' => W'.heap[g]? = some (.cells cur T (0, 0))) (by kernel_rfl) s9 ?_
  intro _
  simp only [List.size_toArray, List.length_cons, List.length_nil, Nat.reduceAdd]
  clear g9 r9 u9 C9
  generalize w9.drew = w9 at *
  refine tk 0 64 ?_ rfl s9 ?_ ?_; rotate_left
  · intro _ _; go_simp; try with_reducible rfl
  try go_frame
  refine tk 1 65 ?_ rfl s9 ?_ ?_; rotate_left
  · intro _ _; go_simp; try with_reducible rfl
  try go_frame
  refine tk 2 66 ?_ rfl s9 ?_ ?_; rotate_left
  · intro _ _; go_simp; try with_reducible rfl
  try go_frame
  refine tk 3 67 ?_ rfl s9 ?_ ?_; rotate_left
  · intro _ _; go_simp; try with_reducible rfl
  try go_frame
  refine tk 4 68 ?_ rfl s9 ?_ ?_; rotate_left
  · intro _ _; go_simp; try with_reducible rfl
  try go_frame
  refine tk 5 69 ?_ rfl s9 ?_ ?_; rotate_left
  · intro _ _; go_simp; try with_reducible rfl
  try go_frame
  refine rd (o := ⟨some 70, _, _, _, _, none⟩) 6 rfl (fun K hK => ?_); go_simp
  refine (next_any (rdC ws) R g (o + 4 + 2) (40 - 4 - 2) (c - 4 - 2) 16 (by omega) (by omega) (by omega) (by omega) _ rr9).mono ?_
  rintro e w10 ⟨rfl, rr10, hc10⟩
  have s10 := (hc10.block g (Array.getElem?_eq_some_iff.1 s9).1 (by simpa using gR)).trans s9
  have uu10 := (hc10.block OB (Array.getElem?_eq_some_iff.1 uu9).1 (by simpa using oR)).trans uu9
  have CC10 : Ch [] w w10 := CC9.trans2 hc10 (by intro t ht; right; simp at ht; omega)
  refine hK.out _ _ s10 (fun _ => ?_)
  clear hK K hc10 rr9 s9 uu9 CC9
  have hcp := copy_rd (ob := 7) (cap := 16) (n := 16) (m := 6) (ws := ws) (o + 4 + 2) rr10 s10 (fun j hj => by have := hw (6 + j) (by omega); rw [show o + (6 + j) = o + 4 + 2 + j by omega] at this; exact this) (by omega) (rsplice_k _ _ (fun i => ws (6 + i)))
  have hcp2 : _ = Result.ok _ (w10.setRow R (readC (rdD ws) _)) := hcp
  clear hcp
  refine rd (o := ⟨some 71, _, _, _, _, none⟩) 7 rfl (fun K hK => ?_); go_simp
  have s11 : (w10.setRow R (readC (rdD ws) (.slice (some ⟨g, o + 4 + 2 + 16, none⟩) ((40 - 4 - 2) - 16) (c - 4 - 2 - 16)))).heap[g]? = some (.cells cur T (0, 0)) := by rw [setRow_ne _ gR]; exact s10
  have uu11 := (setRow_ne (w := w10) (readC (rdD ws) (.slice (some ⟨g, o + 4 + 2 + 16, none⟩) ((40 - 4 - 2) - 16) (c - 4 - 2 - 16))) oR).trans uu10
  have rr11 := setRow_rd (cu' := readC (rdD ws) (.slice (some ⟨g, o + 4 + 2 + 16, none⟩) ((40 - 4 - 2) - 16) (c - 4 - 2 - 16))) rr10
  have CC11 : Ch [] w (w10.setRow R (readC (rdD ws) (.slice (some ⟨g, o + 4 + 2 + 16, none⟩) ((40 - 4 - 2) - 16) (c - 4 - 2 - 16)))) := CC10.trans2 (setRow_ch _) (by intro t ht; right; simp at ht; omega)
  refine hK.out _ _ s11 (fun _ => ?_)
  clear hK K hcp2 s10 uu10 rr10 CC10
  obtain ⟨w11, hw11⟩ : ∃ W, (w10.setRow R (readC (rdD ws) (.slice (some ⟨g, o + 4 + 2 + 16, none⟩) ((40 - 4 - 2) - 16) (c - 4 - 2 - 16)))) = W := ⟨_, rfl⟩
  rw [hw11] at s11 uu11 rr11 CC11 ⊢
  clear hw11
  refine wpAnyH_done (by kernel_rfl) ?_ _
  have g11 := s11
  have u11 := uu11
  have r11 := rr11
  have C11 := CC11
  clear s11 uu11 rr11 CC11
  go_upto_region 8 with (fail)
  have s11 : (fun W' : World => W'.heap[g]? = some (.cells cur T (0, 0))) w11.drew := g11
  have rr11 : w11.drew.heap[R]? = _ := r11
  have uu11 : w11.drew.heap[OB]? = _ := u11
  have CC11 : Ch [] w w11.drew := C11.drew
  refine wp_region_held_drew (S := fun W' => W'.heap[g]? = some (.cells cur T (0, 0))) (by kernel_rfl) s11 ?_
  intro _
  simp only [List.size_toArray, List.length_cons, List.length_nil, Nat.reduceAdd]
  clear g11 r11 u11 C11
  generalize w11.drew = w11 at *
  refine tk 0 72 ?_ rfl s11 ?_ ?_; rotate_left
  · intro _ _; go_simp; try with_reducible rfl
  try go_frame
  refine tk 1 73 ?_ rfl s11 ?_ ?_; rotate_left
  · intro _ _; go_simp; try with_reducible rfl
  try go_frame
  refine tk 2 74 ?_ rfl s11 ?_ ?_; rotate_left
  · intro _ _; go_simp; try with_reducible rfl
  try go_frame
  refine tk 3 75 ?_ rfl s11 ?_ ?_; rotate_left
  · intro _ _; go_simp; try with_reducible rfl
  try go_frame
  refine tk 4 76 ?_ rfl s11 ?_ ?_; rotate_left
  · intro _ _; go_simp; try with_reducible rfl
  try go_frame
  refine tk 5 77 ?_ rfl s11 ?_ ?_; rotate_left
  · intro _ _; go_simp; try with_reducible rfl
  try go_frame
  refine rd (o := ⟨some 78, _, _, _, _, none⟩) 6 rfl (fun K hK => ?_); go_simp
  refine (next_any (rdD ws) R g (o + 4 + 2 + 16) (40 - 4 - 2 - 16) (c - 4 - 2 - 16) 16 (by omega) (by omega) (by omega) (by omega) _ rr11).mono ?_
  rintro e w12 ⟨rfl, rr12, hc12⟩
  have s12 := (hc12.block g (Array.getElem?_eq_some_iff.1 s11).1 (by simpa using gR)).trans s11
  have uu12 := (hc12.block OB (Array.getElem?_eq_some_iff.1 uu11).1 (by simpa using oR)).trans uu11
  have CC12 : Ch [] w w12 := CC11.trans2 hc12 (by intro t ht; right; simp at ht; omega)
  refine hK.out _ _ s12 (fun _ => ?_)
  clear hK K hc12 rr11 s11 uu11 CC11
  have hcp := copy_rd (ob := 23) (cap := 16) (n := 16) (m := 22) (ws := ws) (o + 4 + 2 + 16) rr12 s12 (fun j hj => by have := hw (22 + j) (by omega); rw [show o + (22 + j) = o + 4 + 2 + 16 + j by omega] at this; exact this) (by omega) (rsplice_v _ _ (fun i => ws (22 + i)))
  have hcp2 : _ = Result.ok _ (w12.setRow R (readC (readTab ws) _)) := hcp
  clear hcp
  refine rd (o := ⟨some 79, _, _, _, _, none⟩) 7 rfl (fun K hK => ?_); go_simp
  have s13 : (w12.setRow R (readC (readTab ws) (.slice (some ⟨g, o + 4 + 2 + 16 + 16, none⟩) ((40 - 4 - 2 - 16) - 16) (c - 4 - 2 - 16 - 16)))).heap[g]? = some (.cells cur T (0, 0)) := by rw [setRow_ne _ gR]; exact s12
  have uu13 := (setRow_ne (w := w12) (readC (readTab ws) (.slice (some ⟨g, o + 4 + 2 + 16 + 16, none⟩) ((40 - 4 - 2 - 16) - 16) (c - 4 - 2 - 16 - 16))) oR).trans uu12
  have rr13 := setRow_rd (cu' := readC (readTab ws) (.slice (some ⟨g, o + 4 + 2 + 16 + 16, none⟩) ((40 - 4 - 2 - 16) - 16) (c - 4 - 2 - 16 - 16))) rr12
  have CC13 : Ch [] w (w12.setRow R (readC (readTab ws) (.slice (some ⟨g, o + 4 + 2 + 16 + 16, none⟩) ((40 - 4 - 2 - 16) - 16) (c - 4 - 2 - 16 - 16)))) := CC12.trans2 (setRow_ch _) (by intro t ht; right; simp at ht; omega)
  refine hK.out _ _ s13 (fun _ => ?_)
  clear hK K hcp2 s12 uu12 rr12 CC12
  obtain ⟨w13, hw13⟩ : ∃ W, (w12.setRow R (readC (readTab ws) (.slice (some ⟨g, o + 4 + 2 + 16 + 16, none⟩) ((40 - 4 - 2 - 16) - 16) (c - 4 - 2 - 16 - 16)))) = W := ⟨_, rfl⟩
  rw [hw13] at s13 uu13 rr13 CC13 ⊢
  clear hw13
  refine wpAnyH_done (by kernel_rfl) ?_ _
  have g13 := s13
  have u13 := uu13
  have r13 := rr13
  have C13 := CC13
  clear s13 uu13 rr13 CC13
  have e38 := Lib.hid (show cur[o + 4 + 2 + 16 + 16]? = some (U (ws 38)) from hw 38 (by omega))
  have e39 := Lib.hid (show cur[o + 4 + 2 + 16 + 16 + 1]? = some (U (ws 39)) from hw 39 (by omega))
  clear e0 e1 e2 e3
  obtain ⟨tt, htt⟩ : ∃ t, readTab ws = t := ⟨_, rfl⟩
  rw [htt] at r13 hf
  have HT := Lib.hid htt
  clear htt
  have F1 := fun w => flat_any tt w
  have N1 := fun cc w (h : w.heap[g]? = some (.cells cur T (0, 0))) => containsNz_any g (o + 4 + 2 + 16 + 16) cc cur T (ws 38) (ws 39) w h e38.out e39.out
  have hcs : flatT tt = false ∨ flatT tt = true ∧ (ws 38 != 0#64 || ws 39 != 0#64) = true := by
    cases h : flatT tt
    · exact .inl rfl
    · right; rw [h] at hf; refine ⟨rfl, ?_⟩; rw [Bool.true_and] at hf; rw [bne, bne]; cases h8 : (ws 38 == 0#64) <;> cases h9 : (ws 39 == 0#64) <;> rw [h8, h9] at hf <;> first | rfl | cases hf
  obtain ⟨fl, hfl⟩ : ∃ b, flatT tt = b := ⟨_, rfl⟩
  obtain ⟨nz, hnz⟩ : ∃ b, (ws 38 != 0#64 || ws 39 != 0#64) = b := ⟨_, rfl⟩
  rw [hfl] at F1 hcs
  rw [hnz] at N1 hcs
  clear hf hfl hnz
  rcases hcs with rfl | ⟨rfl, rfl⟩
  all_goals
    go_wp2_with fail
    refine (F1 _).mono ?_
    rintro e wf ⟨rfl, hcf⟩
    have gf := hkeep hcf g13
    have Cf := C13.trans hcf
    have rf := hkeep hcf r13
    clear hcf g13 u13 C13 r13 F1
  · go_wp2_with (go_at_call 107; refine (lneed_no _).mono ?_; rintro e w' ⟨rfl, rfl⟩)
    exact ⟨rfl, rfl, Cf⟩
  · go_wp2_with fail
    refine (N1 _ _ gf).mono ?_
    rintro e w' ⟨rfl, rfl⟩
    go_wp2_with (go_at_call 107; refine (lneed_no _).mono ?_; rintro e w' ⟨rfl, rfl⟩)
    exact ⟨rfl, rfl, Cf⟩
attribute [local irreducible] tcells in
theorem tbl1_ok (WB OB g o c : Nat) (cur : Array Value) (T : TypeId) (ws : Nat → BitVec 64) (h2 : (ws 2).toNat ≤ 14) (h3 : (ws 3).toNat ≤ 14) (hf : flatT (readTab ws) = true) (h38 : ws 38 = 0#64) (h39 : ws 39 = 0#64) (hnc : 40 ≤ c) (hc : c ≤ 9223372036854775807) (w : World) (hW : w.heap[WB]? = some (.cells #[.slice (some ⟨g, o, none⟩) 40 c] 44 (0, 0))) (hO : w.heap[OB]? = some (.cells (tcells zeroT) 26 (0, 0))) (hg : w.heap[g]? = some (.cells cur T (0, 0))) (hw : AtW cur o ws) (hgo : ¬ g = OB) :
    Calls Tryz.prog 105 #[.pointer (some ⟨WB, 0, none⟩), .pointer (some ⟨OB, 0, none⟩)] w fun e w' => e = .returned (.tuple #[]) ∧ Ch [OB] w w' ∧ w'.heap[OB]? = some (.cells (tcells (readTab ws)) 26 (0, 0)) := by
  have hWn : ¬ WB = w.heap.size := by have := (Array.getElem?_eq_some_iff.1 hW).1; omega
  have hOn : ¬ OB = w.heap.size := by have := (Array.getElem?_eq_some_iff.1 hO).1; omega
  have hgn : ¬ g = w.heap.size := by have := (Array.getElem?_eq_some_iff.1 hg).1; omega
  go_enter Tryz.func105, Tryz.ntmps105
  go_upto_region 3 with (go_at_call 107; refine (lneed_yes _).mono ?_; rintro e w' ⟨rfl, rfl⟩)
  have hC := (Ch.refl [] w).alloc (.cells (readC zeroT (.slice (some ⟨g, o, none⟩) 40 c)) 170 (0, 0))
  have g1 := hkeep hC hg
  have u1 := hkeep hC hO
  have r1 : (w.alloc (.cells (readC zeroT (.slice (some ⟨g, o, none⟩) 40 c)) 170)).heap[w.heap.size]? = some (.cells (readC zeroT (.slice (some ⟨g, o, none⟩) 40 c)) 170 (0, 0)) := by rw [zab, if_pos rfl]
  obtain ⟨w1, hw1⟩ : ∃ W, w.alloc (.cells (readC zeroT (.slice (some ⟨g, o, none⟩) 40 c)) 170) = W := ⟨_, rfl⟩
  rw [hw1] at hC g1 u1 r1 ⊢
  clear hw1
  have C1 : Ch [] w w1 := hC
  obtain ⟨R, hR⟩ : ∃ R, w.heap.size = R := ⟨_, rfl⟩
  have hRw : w.heap.size ≤ R := by omega
  have gR : ¬ g = R := by omega
  have oR : ¬ OB = R := by omega
  rw [hR] at r1 ⊢
  clear hC hW hO hg hWn hgn hOn hR
  go_wp2_with fail
  refine (next_any (zeroT) R g (o) 40 (c) 4 (by omega) (by omega) (by omega) (by omega) _ r1).mono ?_
  rintro e w2 ⟨rfl, r2, hc2⟩
  have g2 := (hc2.block g (Array.getElem?_eq_some_iff.1 g1).1 (by simpa using gR)).trans g1
  have u2 := (hc2.block OB (Array.getElem?_eq_some_iff.1 u1).1 (by simpa using oR)).trans u1
  have C2 : Ch [] w w2 := C1.trans2 hc2 (by intro t ht; right; simp at ht; omega)
  clear hc2 r1 g1 u1 C1
  have e0 : cur[o]? = some (U (ws 0)) := hw 0 (by omega)
  have e1 : cur[o + 1]? = some (U (ws 1)) := hw 1 (by omega)
  go_upto_region 4 with (fail)
  have s2 : (fun W' : World => W'.heap[g]? = some (.cells cur T (0, 0))) w2.drew := g2
  have rr2 : w2.drew.heap[R]? = _ := r2
  have uu2 : w2.drew.heap[OB]? = _ := u2
  have CC2 : Ch [] w w2.drew := C2.drew
  refine wp_region_held_drew (S := fun W' => W'.heap[g]? = some (.cells cur T (0, 0))) (by kernel_rfl) s2 ?_
  intro _
  simp only [List.size_toArray, List.length_cons, List.length_nil, Nat.reduceAdd]
  clear g2 r2 u2 C2
  generalize w2.drew = w2 at *
  refine tk 0 16 ?_ rfl s2 ?_ ?_; rotate_left
  · intro _ _; go_simp; try with_reducible rfl
  try go_frame
  refine tk 1 17 ?_ rfl s2 ?_ ?_; rotate_left
  · intro _ _; go_simp; try with_reducible rfl
  try go_frame
  refine tk 2 18 ?_ rfl s2 ?_ ?_; rotate_left
  · intro _ _; go_simp; try with_reducible rfl
  try go_frame
  refine tk 3 19 ?_ rfl s2 ?_ ?_; rotate_left
  · intro _ _; go_simp; try with_reducible rfl
  try go_frame
  refine tk 4 20 ?_ rfl s2 ?_ ?_; rotate_left
  · intro _ _; go_simp; try with_reducible rfl
  try go_frame
  refine tk 5 21 ?_ rfl s2 ?_ ?_; rotate_left
  · intro _ _; go_simp; try with_reducible rfl
  try go_frame
  refine tk 6 22 ?_ rfl s2 ?_ ?_; rotate_left
  · intro _ _; go_simp; try with_reducible rfl
  try go_frame
  refine tk 7 23 ?_ rfl s2 ?_ ?_; rotate_left
  · intro _ _; go_simp; try with_reducible rfl
  try go_frame
  refine tk 8 24 ?_ rfl s2 ?_ ?_; rotate_left
  · intro _ _; go_simp; try with_reducible rfl
  try go_frame
  refine tk 9 25 ?_ rfl s2 ?_ ?_; rotate_left
  · intro _ _; go_simp; try with_reducible rfl
  try go_frame
  refine tk 10 26 ?_ rfl s2 ?_ ?_; rotate_left
  · intro _ _; go_simp; try with_reducible rfl
  try go_frame
  refine tk 11 27 ?_ rfl s2 ?_ ?_; rotate_left
  · intro _ _; go_simp; try with_reducible rfl
  try go_frame
  refine tk 12 28 ?_ rfl s2 ?_ ?_; rotate_left
  · intro _ _; go_simp; try with_reducible rfl
  try go_frame
  refine tk 13 29 ?_ rfl s2 ?_ ?_; rotate_left
  · intro _ _; go_simp; try with_reducible rfl
  try go_frame
  refine tk 14 30 ?_ rfl s2 ?_ ?_; rotate_left
  · intro _ _; go_simp; try with_reducible rfl
  try go_frame
  refine tk 15 31 ?_ rfl s2 ?_ ?_; rotate_left
  · intro _ _; go_simp; try with_reducible rfl
  try go_frame
  refine tk 16 32 ?_ rfl s2 ?_ ?_; rotate_left
  · intro _ _; go_simp; try with_reducible rfl
  try go_frame
  refine tk 17 33 ?_ rfl s2 ?_ ?_; rotate_left
  · intro _ _; go_simp; try with_reducible rfl
  try go_frame
  obtain ⟨RV, hRV⟩ : ∃ v, Value.slice (some ⟨g, o + 4, none⟩) (40 - 4) (c - 4) = v := ⟨_, rfl⟩
  rw [hRV] at rr2
  refine rd 18 rfl (fun K hK => ?_); go_simp
  have s3 : (w2.setCell ⟨R, 0, none⟩ (U (ws 0))).heap[g]? = some (.cells cur T (0, 0)) := by rw [zaa, if_neg gR]; exact s2
  have uu3 := (show (w2.setCell ⟨R, 0, none⟩ (U (ws 0))).heap[OB]? = w2.heap[OB]? by rw [zaa, if_neg oR]).trans uu2
  have rr3 : (w2.setCell ⟨R, 0, none⟩ (U (ws 0))).heap[R]? = some (.cells (readC ({ zeroT with count := ws 0 }) RV) 170 (0, 0)) := by rw [zaa, if_pos rfl, rr2, Option.map_some, zac]; exact congrArg (fun x => some (Obj.cells x 170 (0, 0))) (by first | exact zdl _ _ _ | exact zdk _ _ _ | exact rset_pre _ _ _ | exact rset_can _ _ _ | exact rset_live _ _ _)
  have CC3 : Ch [] w (w2.setCell ⟨R, 0, none⟩ (U (ws 0))) := CC2.setCell (p := ⟨R, 0, none⟩) (.inr (by simp; omega)) _
  refine hK.out _ _ s3 (fun _ => ?_)
  clear hK K s2 uu2 rr2 CC2
  obtain ⟨w3, hw3⟩ : ∃ W, (w2.setCell ⟨R, 0, none⟩ (U (ws 0))) = W := ⟨_, rfl⟩
  rw [hw3] at s3 uu3 rr3 CC3 ⊢
  clear hw3
  refine tk 19 34 ?_ rfl s3 ?_ ?_; rotate_left
  · intro _ _; go_simp; try with_reducible rfl
  try go_frame
  refine tk 20 35 ?_ rfl s3 ?_ ?_; rotate_left
  · intro _ _; go_simp; try with_reducible rfl
  try go_frame
  refine tk 21 36 ?_ rfl s3 ?_ ?_; rotate_left
  · intro _ _; go_simp; try with_reducible rfl
  try go_frame
  refine rd 22 rfl (fun K hK => ?_); go_simp
  have s4 : (w3.setCell ⟨R, 1, none⟩ (I (lowD (ws 1)))).heap[g]? = some (.cells cur T (0, 0)) := by rw [zaa, if_neg gR]; exact s3
  have uu4 := (show (w3.setCell ⟨R, 1, none⟩ (I (lowD (ws 1)))).heap[OB]? = w3.heap[OB]? by rw [zaa, if_neg oR]).trans uu3
  have rr4 : (w3.setCell ⟨R, 1, none⟩ (I (lowD (ws 1)))).heap[R]? = some (.cells (readC ({ zeroT with count := ws 0, depth := lowD (ws 1) }) RV) 170 (0, 0)) := by rw [zaa, if_pos rfl, rr3, Option.map_some, zac]; exact congrArg (fun x => some (Obj.cells x 170 (0, 0))) (by first | exact zdl _ _ _ | exact zdk _ _ _ | exact rset_pre _ _ _ | exact rset_can _ _ _ | exact rset_live _ _ _)
  have CC4 : Ch [] w (w3.setCell ⟨R, 1, none⟩ (I (lowD (ws 1)))) := CC3.setCell (p := ⟨R, 1, none⟩) (.inr (by simp; omega)) _
  refine hK.out _ _ s4 (fun _ => ?_)
  clear hK K s3 uu3 rr3 CC3
  obtain ⟨w4, hw4⟩ : ∃ W, (w3.setCell ⟨R, 1, none⟩ (I (lowD (ws 1)))) = W := ⟨_, rfl⟩
  rw [hw4] at s4 uu4 rr4 CC4 ⊢
  clear hw4
  refine tk 23 37 ?_ rfl s4 ?_ ?_; rotate_left
  · intro _ _; go_simp; try with_reducible rfl
  try go_frame
  refine tk 24 38 ?_ rfl s4 ?_ ?_; rotate_left
  · intro _ _; go_simp; try with_reducible rfl
  try go_frame
  refine tk 25 39 ?_ rfl s4 ?_ ?_; rotate_left
  · intro _ _; go_simp; try with_reducible rfl
  try go_frame
  refine rd 26 rfl (fun K hK => ?_); go_simp
  have s5 : (w4.setCell ⟨R, 2, none⟩ (U (ws 1 >>> 8))).heap[g]? = some (.cells cur T (0, 0)) := by rw [zaa, if_neg gR]; exact s4
  have uu5 := (show (w4.setCell ⟨R, 2, none⟩ (U (ws 1 >>> 8))).heap[OB]? = w4.heap[OB]? by rw [zaa, if_neg oR]).trans uu4
  have rr5 : (w4.setCell ⟨R, 2, none⟩ (U (ws 1 >>> 8))).heap[R]? = some (.cells (readC (rdA ws) RV) 170 (0, 0)) := by rw [zaa, if_pos rfl, rr4, Option.map_some, zac]; exact congrArg (fun x => some (Obj.cells x 170 (0, 0))) (by first | exact zdl _ _ _ | exact zdk _ _ _ | exact rset_pre _ _ _ | exact rset_can _ _ _ | exact rset_live _ _ _)
  have CC5 : Ch [] w (w4.setCell ⟨R, 2, none⟩ (U (ws 1 >>> 8))) := CC4.setCell (p := ⟨R, 2, none⟩) (.inr (by simp; omega)) _
  refine hK.out _ _ s5 (fun _ => ?_)
  clear hK K s4 uu4 rr4 CC4
  obtain ⟨w5, hw5⟩ : ∃ W, (w4.setCell ⟨R, 2, none⟩ (U (ws 1 >>> 8))) = W := ⟨_, rfl⟩
  rw [hw5] at s5 uu5 rr5 CC5 ⊢
  clear hw5
  rw [← hRV] at rr5
  clear hRV RV
  refine wpAnyH_done (by kernel_rfl) ?_ _
  have g5 := s5
  have u5 := uu5
  have r5 := rr5
  have C5 := CC5
  clear s5 uu5 rr5 CC5
  have e2 : cur[o + 2]? = some (U (ws 2)) := hw 2 (by omega)
  have e3 : cur[o + 3]? = some (U (ws 3)) := hw 3 (by omega)
  go_upto_region 5 with (fail)
  have s5 : (fun W' : World => W'.heap[g]? = some (.cells cur T (0, 0))) w5.drew := g5
  have rr5 : w5.drew.heap[R]? = _ := r5
  have uu5 : w5.drew.heap[OB]? = _ := u5
  have CC5 : Ch [] w w5.drew := C5.drew
  refine wp_region_held_drew (S := fun W' => W'.heap[g]? = some (.cells cur T (0, 0))) (by kernel_rfl) s5 ?_
  intro _
  simp only [List.size_toArray, List.length_cons, List.length_nil, Nat.reduceAdd]
  clear g5 r5 u5 C5
  generalize w5.drew = w5 at *
  refine tk 0 40 ?_ rfl s5 ?_ ?_; rotate_left
  · intro _ _; go_simp; try with_reducible rfl
  try go_frame
  refine tk 1 41 ?_ rfl s5 ?_ ?_; rotate_left
  · intro _ _; go_simp; try with_reducible rfl
  try go_frame
  refine tk 2 42 ?_ rfl s5 ?_ ?_; rotate_left
  · intro _ _; go_simp; try with_reducible rfl
  try go_frame
  refine tk 3 43 ?_ rfl s5 ?_ ?_; rotate_left
  · intro _ _; go_simp; try with_reducible rfl
  try go_frame
  refine tk 4 44 ?_ rfl s5 ?_ ?_; rotate_left
  · intro _ _; go_simp; try with_reducible rfl
  try go_frame
  refine tk 6 46 ?_ rfl s5 ?_ ?_; rotate_left
  · intro _ _; go_simp; try with_reducible rfl
  try go_frame
  refine tk 7 47 ?_ rfl s5 ?_ ?_; rotate_left
  · intro _ _; go_simp; try with_reducible rfl
  try go_frame
  refine tk 8 48 ?_ rfl s5 ?_ ?_; rotate_left
  · intro _ _; go_simp; try with_reducible rfl
  try go_frame
  refine rd (o := ⟨some 45, _, _, _, _, none⟩) 5 rfl (fun K hK => ?_); go_simp
  refine (number_yes _ (by omega) _).mono ?_
  rintro e w' ⟨rfl, rfl⟩
  refine hK.out _ _ s5 (fun _ => ?_)
  clear hK K
  refine rd (o := ⟨some 49, _, _, _, _, none⟩) 9 rfl (fun K hK => ?_); go_simp
  refine (number_yes _ (by omega) _).mono ?_
  rintro e w' ⟨rfl, rfl⟩
  refine hK.out _ _ s5 (fun _ => ?_)
  clear hK K
  obtain ⟨RV, hRV⟩ : ∃ v, Value.slice (some ⟨g, o + 4, none⟩) (40 - 4) (c - 4) = v := ⟨_, rfl⟩
  rw [hRV] at rr5
  refine tk 10 50 ?_ rfl s5 ?_ ?_; rotate_left
  · intro _ _; go_simp; try with_reducible rfl
  try go_frame
  refine tk 11 51 ?_ rfl s5 ?_ ?_; rotate_left
  · intro _ _; go_simp; try with_reducible rfl
  try go_frame
  refine tk 12 52 ?_ rfl s5 ?_ ?_; rotate_left
  · intro _ _; go_simp; try with_reducible rfl
  try go_frame
  refine rd 13 rfl (fun K hK => ?_); go_simp
  have s6 : (w5.setCell ⟨R, 3, none⟩ (I ((ws 2).toNat : Int))).heap[g]? = some (.cells cur T (0, 0)) := by rw [zaa, if_neg gR]; exact s5
  have uu6 := (show (w5.setCell ⟨R, 3, none⟩ (I ((ws 2).toNat : Int))).heap[OB]? = w5.heap[OB]? by rw [zaa, if_neg oR]).trans uu5
  have rr6 : (w5.setCell ⟨R, 3, none⟩ (I ((ws 2).toNat : Int))).heap[R]? = some (.cells (readC ({ rdA ws with can := ((ws 2).toNat : Int) }) RV) 170 (0, 0)) := by rw [zaa, if_pos rfl, rr5, Option.map_some, zac]; exact congrArg (fun x => some (Obj.cells x 170 (0, 0))) (by first | exact zdl _ _ _ | exact zdk _ _ _ | exact rset_pre _ _ _ | exact rset_can _ _ _ | exact rset_live _ _ _)
  have CC6 : Ch [] w (w5.setCell ⟨R, 3, none⟩ (I ((ws 2).toNat : Int))) := CC5.setCell (p := ⟨R, 3, none⟩) (.inr (by simp; omega)) _
  refine hK.out _ _ s6 (fun _ => ?_)
  clear hK K s5 uu5 rr5 CC5
  obtain ⟨w6, hw6⟩ : ∃ W, (w5.setCell ⟨R, 3, none⟩ (I ((ws 2).toNat : Int))) = W := ⟨_, rfl⟩
  rw [hw6] at s6 uu6 rr6 CC6 ⊢
  clear hw6
  refine tk 14 53 ?_ rfl s6 ?_ ?_; rotate_left
  · intro _ _; go_simp; try with_reducible rfl
  try go_frame
  refine tk 15 54 ?_ rfl s6 ?_ ?_; rotate_left
  · intro _ _; go_simp; try with_reducible rfl
  try go_frame
  refine tk 16 55 ?_ rfl s6 ?_ ?_; rotate_left
  · intro _ _; go_simp; try with_reducible rfl
  try go_frame
  refine rd 17 rfl (fun K hK => ?_); go_simp
  have s7 : (w6.setCell ⟨R, 4, none⟩ (I ((ws 3).toNat : Int))).heap[g]? = some (.cells cur T (0, 0)) := by rw [zaa, if_neg gR]; exact s6
  have uu7 := (show (w6.setCell ⟨R, 4, none⟩ (I ((ws 3).toNat : Int))).heap[OB]? = w6.heap[OB]? by rw [zaa, if_neg oR]).trans uu6
  have rr7 : (w6.setCell ⟨R, 4, none⟩ (I ((ws 3).toNat : Int))).heap[R]? = some (.cells (readC (rdB ws) RV) 170 (0, 0)) := by rw [zaa, if_pos rfl, rr6, Option.map_some, zac]; exact congrArg (fun x => some (Obj.cells x 170 (0, 0))) (by first | exact zdl _ _ _ | exact zdk _ _ _ | exact rset_pre _ _ _ | exact rset_can _ _ _ | exact rset_live _ _ _)
  have CC7 : Ch [] w (w6.setCell ⟨R, 4, none⟩ (I ((ws 3).toNat : Int))) := CC6.setCell (p := ⟨R, 4, none⟩) (.inr (by simp; omega)) _
  refine hK.out _ _ s7 (fun _ => ?_)
  clear hK K s6 uu6 rr6 CC6
  obtain ⟨w7, hw7⟩ : ∃ W, (w6.setCell ⟨R, 4, none⟩ (I ((ws 3).toNat : Int))) = W := ⟨_, rfl⟩
  rw [hw7] at s7 uu7 rr7 CC7 ⊢
  clear hw7
  rw [← hRV] at rr7
  clear hRV RV
  refine wpAnyH_done (by kernel_rfl) ?_ _
  have g7 := s7
  have u7 := uu7
  have r7 := rr7
  have C7 := CC7
  clear s7 uu7 rr7 CC7
  go_upto_region 6 with (fail)
  have s7 : (fun W' : World => W'.heap[g]? = some (.cells cur T (0, 0))) w7.drew := g7
  have rr7 : w7.drew.heap[R]? = _ := r7
  have uu7 : w7.drew.heap[OB]? = _ := u7
  have CC7 : Ch [] w w7.drew := C7.drew
  refine wp_region_held_drew (S := fun W' => W'.heap[g]? = some (.cells cur T (0, 0))) (by kernel_rfl) s7 ?_
  intro _
  simp only [List.size_toArray, List.length_cons, List.length_nil, Nat.reduceAdd]
  clear g7 r7 u7 C7
  generalize w7.drew = w7 at *
  refine tk 0 56 ?_ rfl s7 ?_ ?_; rotate_left
  · intro _ _; go_simp; try with_reducible rfl
  try go_frame
  refine tk 1 57 ?_ rfl s7 ?_ ?_; rotate_left
  · intro _ _; go_simp; try with_reducible rfl
  try go_frame
  refine tk 2 58 ?_ rfl s7 ?_ ?_; rotate_left
  · intro _ _; go_simp; try with_reducible rfl
  try go_frame
  refine tk 3 59 ?_ rfl s7 ?_ ?_; rotate_left
  · intro _ _; go_simp; try with_reducible rfl
  try go_frame
  refine tk 4 60 ?_ rfl s7 ?_ ?_; rotate_left
  · intro _ _; go_simp; try with_reducible rfl
  try go_frame
  refine tk 5 61 ?_ rfl s7 ?_ ?_; rotate_left
  · intro _ _; go_simp; try with_reducible rfl
  try go_frame
  refine rd (o := ⟨some 62, _, _, _, _, none⟩) 6 rfl (fun K hK => ?_); go_simp
  refine (next_any (rdB ws) R g (o + 4) (40 - 4) (c - 4) 2 (by omega) (by omega) (by omega) (by omega) _ rr7).mono ?_
  rintro e w8 ⟨rfl, rr8, hc8⟩
  have s8 := (hc8.block g (Array.getElem?_eq_some_iff.1 s7).1 (by simpa using gR)).trans s7
  have uu8 := (hc8.block OB (Array.getElem?_eq_some_iff.1 uu7).1 (by simpa using oR)).trans uu7
  have CC8 : Ch [] w w8 := CC7.trans2 hc8 (by intro t ht; right; simp at ht; omega)
  refine hK.out _ _ s8 (fun _ => ?_)
  clear hK K hc8 rr7 s7 uu7 CC7
  have hcp := copy_rd (ob := 5) (cap := 2) (n := 2) (m := 4) (ws := ws) (o + 4) rr8 s8 (fun j hj => by have := hw (4 + j) (by omega); rw [show o + (4 + j) = o + 4 + j by omega] at this; exact this) (by omega) (rsplice_c _ _ (fun i => ws (4 + i)))
  have hcp2 : _ = Result.ok _ (w8.setRow R (readC (rdC ws) _)) := hcp
  clear hcp
  refine rd (o := ⟨some 63, _, _, _, _, none⟩) 7 rfl (fun K hK => ?_); go_simp
  have s9 : (w8.setRow R (readC (rdC ws) (.slice (some ⟨g, o + 4 + 2, none⟩) ((40 - 4) - 2) (c - 4 - 2)))).heap[g]? = some (.cells cur T (0, 0)) := by rw [setRow_ne _ gR]; exact s8
  have uu9 := (setRow_ne (w := w8) (readC (rdC ws) (.slice (some ⟨g, o + 4 + 2, none⟩) ((40 - 4) - 2) (c - 4 - 2))) oR).trans uu8
  have rr9 := setRow_rd (cu' := readC (rdC ws) (.slice (some ⟨g, o + 4 + 2, none⟩) ((40 - 4) - 2) (c - 4 - 2))) rr8
  have CC9 : Ch [] w (w8.setRow R (readC (rdC ws) (.slice (some ⟨g, o + 4 + 2, none⟩) ((40 - 4) - 2) (c - 4 - 2)))) := CC8.trans2 (setRow_ch _) (by intro t ht; right; simp at ht; omega)
  refine hK.out _ _ s9 (fun _ => ?_)
  clear hK K hcp2 s8 uu8 rr8 CC8
  obtain ⟨w9, hw9⟩ : ∃ W, (w8.setRow R (readC (rdC ws) (.slice (some ⟨g, o + 4 + 2, none⟩) ((40 - 4) - 2) (c - 4 - 2)))) = W := ⟨_, rfl⟩
  rw [hw9] at s9 uu9 rr9 CC9 ⊢
  clear hw9
  refine wpAnyH_done (by kernel_rfl) ?_ _
  have g9 := s9
  have u9 := uu9
  have r9 := rr9
  have C9 := CC9
  clear s9 uu9 rr9 CC9
  go_upto_region 7 with (fail)
  have s9 : (fun W' : World => W'.heap[g]? = some (.cells cur T (0, 0))) w9.drew := g9
  have rr9 : w9.drew.heap[R]? = _ := r9
  have uu9 : w9.drew.heap[OB]? = _ := u9
  have CC9 : Ch [] w w9.drew := C9.drew
  refine wp_region_held_drew (S := fun W' => W'.heap[g]? = some (.cells cur T (0, 0))) (by kernel_rfl) s9 ?_
  intro _
  simp only [List.size_toArray, List.length_cons, List.length_nil, Nat.reduceAdd]
  clear g9 r9 u9 C9
  generalize w9.drew = w9 at *
  refine tk 0 64 ?_ rfl s9 ?_ ?_; rotate_left
  · intro _ _; go_simp; try with_reducible rfl
  try go_frame
  refine tk 1 65 ?_ rfl s9 ?_ ?_; rotate_left
  · intro _ _; go_simp; try with_reducible rfl
  try go_frame
  refine tk 2 66 ?_ rfl s9 ?_ ?_; rotate_left
  · intro _ _; go_simp; try with_reducible rfl
  try go_frame
  refine tk 3 67 ?_ rfl s9 ?_ ?_; rotate_left
  · intro _ _; go_simp; try with_reducible rfl
  try go_frame
  refine tk 4 68 ?_ rfl s9 ?_ ?_; rotate_left
  · intro _ _; go_simp; try with_reducible rfl
  try go_frame
  refine tk 5 69 ?_ rfl s9 ?_ ?_; rotate_left
  · intro _ _; go_simp; try with_reducible rfl
  try go_frame
  refine rd (o := ⟨some 70, _, _, _, _, none⟩) 6 rfl (fun K hK => ?_); go_simp
  refine (next_any (rdC ws) R g (o + 4 + 2) (40 - 4 - 2) (c - 4 - 2) 16 (by omega) (by omega) (by omega) (by omega) _ rr9).mono ?_
  rintro e w10 ⟨rfl, rr10, hc10⟩
  have s10 := (hc10.block g (Array.getElem?_eq_some_iff.1 s9).1 (by simpa using gR)).trans s9
  have uu10 := (hc10.block OB (Array.getElem?_eq_some_iff.1 uu9).1 (by simpa using oR)).trans uu9
  have CC10 : Ch [] w w10 := CC9.trans2 hc10 (by intro t ht; right; simp at ht; omega)
  refine hK.out _ _ s10 (fun _ => ?_)
  clear hK K hc10 rr9 s9 uu9 CC9
  have hcp := copy_rd (ob := 7) (cap := 16) (n := 16) (m := 6) (ws := ws) (o + 4 + 2) rr10 s10 (fun j hj => by have := hw (6 + j) (by omega); rw [show o + (6 + j) = o + 4 + 2 + j by omega] at this; exact this) (by omega) (rsplice_k _ _ (fun i => ws (6 + i)))
  have hcp2 : _ = Result.ok _ (w10.setRow R (readC (rdD ws) _)) := hcp
  clear hcp
  refine rd (o := ⟨some 71, _, _, _, _, none⟩) 7 rfl (fun K hK => ?_); go_simp
  have s11 : (w10.setRow R (readC (rdD ws) (.slice (some ⟨g, o + 4 + 2 + 16, none⟩) ((40 - 4 - 2) - 16) (c - 4 - 2 - 16)))).heap[g]? = some (.cells cur T (0, 0)) := by rw [setRow_ne _ gR]; exact s10
  have uu11 := (setRow_ne (w := w10) (readC (rdD ws) (.slice (some ⟨g, o + 4 + 2 + 16, none⟩) ((40 - 4 - 2) - 16) (c - 4 - 2 - 16))) oR).trans uu10
  have rr11 := setRow_rd (cu' := readC (rdD ws) (.slice (some ⟨g, o + 4 + 2 + 16, none⟩) ((40 - 4 - 2) - 16) (c - 4 - 2 - 16))) rr10
  have CC11 : Ch [] w (w10.setRow R (readC (rdD ws) (.slice (some ⟨g, o + 4 + 2 + 16, none⟩) ((40 - 4 - 2) - 16) (c - 4 - 2 - 16)))) := CC10.trans2 (setRow_ch _) (by intro t ht; right; simp at ht; omega)
  refine hK.out _ _ s11 (fun _ => ?_)
  clear hK K hcp2 s10 uu10 rr10 CC10
  obtain ⟨w11, hw11⟩ : ∃ W, (w10.setRow R (readC (rdD ws) (.slice (some ⟨g, o + 4 + 2 + 16, none⟩) ((40 - 4 - 2) - 16) (c - 4 - 2 - 16)))) = W := ⟨_, rfl⟩
  rw [hw11] at s11 uu11 rr11 CC11 ⊢
  clear hw11
  refine wpAnyH_done (by kernel_rfl) ?_ _
  have g11 := s11
  have u11 := uu11
  have r11 := rr11
  have C11 := CC11
  clear s11 uu11 rr11 CC11
  go_upto_region 8 with (fail)
  have s11 : (fun W' : World => W'.heap[g]? = some (.cells cur T (0, 0))) w11.drew := g11
  have rr11 : w11.drew.heap[R]? = _ := r11
  have uu11 : w11.drew.heap[OB]? = _ := u11
  have CC11 : Ch [] w w11.drew := C11.drew
  refine wp_region_held_drew (S := fun W' => W'.heap[g]? = some (.cells cur T (0, 0))) (by kernel_rfl) s11 ?_
  intro _
  simp only [List.size_toArray, List.length_cons, List.length_nil, Nat.reduceAdd]
  clear g11 r11 u11 C11
  generalize w11.drew = w11 at *
  refine tk 0 72 ?_ rfl s11 ?_ ?_; rotate_left
  · intro _ _; go_simp; try with_reducible rfl
  try go_frame
  refine tk 1 73 ?_ rfl s11 ?_ ?_; rotate_left
  · intro _ _; go_simp; try with_reducible rfl
  try go_frame
  refine tk 2 74 ?_ rfl s11 ?_ ?_; rotate_left
  · intro _ _; go_simp; try with_reducible rfl
  try go_frame
  refine tk 3 75 ?_ rfl s11 ?_ ?_; rotate_left
  · intro _ _; go_simp; try with_reducible rfl
  try go_frame
  refine tk 4 76 ?_ rfl s11 ?_ ?_; rotate_left
  · intro _ _; go_simp; try with_reducible rfl
  try go_frame
  refine tk 5 77 ?_ rfl s11 ?_ ?_; rotate_left
  · intro _ _; go_simp; try with_reducible rfl
  try go_frame
  refine rd (o := ⟨some 78, _, _, _, _, none⟩) 6 rfl (fun K hK => ?_); go_simp
  refine (next_any (rdD ws) R g (o + 4 + 2 + 16) (40 - 4 - 2 - 16) (c - 4 - 2 - 16) 16 (by omega) (by omega) (by omega) (by omega) _ rr11).mono ?_
  rintro e w12 ⟨rfl, rr12, hc12⟩
  have s12 := (hc12.block g (Array.getElem?_eq_some_iff.1 s11).1 (by simpa using gR)).trans s11
  have uu12 := (hc12.block OB (Array.getElem?_eq_some_iff.1 uu11).1 (by simpa using oR)).trans uu11
  have CC12 : Ch [] w w12 := CC11.trans2 hc12 (by intro t ht; right; simp at ht; omega)
  refine hK.out _ _ s12 (fun _ => ?_)
  clear hK K hc12 rr11 s11 uu11 CC11
  have hcp := copy_rd (ob := 23) (cap := 16) (n := 16) (m := 22) (ws := ws) (o + 4 + 2 + 16) rr12 s12 (fun j hj => by have := hw (22 + j) (by omega); rw [show o + (22 + j) = o + 4 + 2 + 16 + j by omega] at this; exact this) (by omega) (rsplice_v _ _ (fun i => ws (22 + i)))
  have hcp2 : _ = Result.ok _ (w12.setRow R (readC (readTab ws) _)) := hcp
  clear hcp
  refine rd (o := ⟨some 79, _, _, _, _, none⟩) 7 rfl (fun K hK => ?_); go_simp
  have s13 : (w12.setRow R (readC (readTab ws) (.slice (some ⟨g, o + 4 + 2 + 16 + 16, none⟩) ((40 - 4 - 2 - 16) - 16) (c - 4 - 2 - 16 - 16)))).heap[g]? = some (.cells cur T (0, 0)) := by rw [setRow_ne _ gR]; exact s12
  have uu13 := (setRow_ne (w := w12) (readC (readTab ws) (.slice (some ⟨g, o + 4 + 2 + 16 + 16, none⟩) ((40 - 4 - 2 - 16) - 16) (c - 4 - 2 - 16 - 16))) oR).trans uu12
  have rr13 := setRow_rd (cu' := readC (readTab ws) (.slice (some ⟨g, o + 4 + 2 + 16 + 16, none⟩) ((40 - 4 - 2 - 16) - 16) (c - 4 - 2 - 16 - 16))) rr12
  have CC13 : Ch [] w (w12.setRow R (readC (readTab ws) (.slice (some ⟨g, o + 4 + 2 + 16 + 16, none⟩) ((40 - 4 - 2 - 16) - 16) (c - 4 - 2 - 16 - 16)))) := CC12.trans2 (setRow_ch _) (by intro t ht; right; simp at ht; omega)
  refine hK.out _ _ s13 (fun _ => ?_)
  clear hK K hcp2 s12 uu12 rr12 CC12
  obtain ⟨w13, hw13⟩ : ∃ W, (w12.setRow R (readC (readTab ws) (.slice (some ⟨g, o + 4 + 2 + 16 + 16, none⟩) ((40 - 4 - 2 - 16) - 16) (c - 4 - 2 - 16 - 16)))) = W := ⟨_, rfl⟩
  rw [hw13] at s13 uu13 rr13 CC13 ⊢
  clear hw13
  refine wpAnyH_done (by kernel_rfl) ?_ _
  have g13 := s13
  have u13 := uu13
  have r13 := rr13
  have C13 := CC13
  clear s13 uu13 rr13 CC13
  have e38 := Lib.hid (show cur[o + 4 + 2 + 16 + 16]? = some (U (ws 38)) from hw 38 (by omega))
  have e39 := Lib.hid (show cur[o + 4 + 2 + 16 + 16 + 1]? = some (U (ws 39)) from hw 39 (by omega))
  clear e0 e1 e2 e3
  obtain ⟨tt, htt⟩ : ∃ t, readTab ws = t := ⟨_, rfl⟩
  rw [htt] at r13 hf
  have HT := Lib.hid htt
  clear htt
  have F1 := fun w => flat_any tt w
  have N1 := fun cc w (h : w.heap[g]? = some (.cells cur T (0, 0))) => containsNz_any g (o + 4 + 2 + 16 + 16) cc cur T (ws 38) (ws 39) w h e38.out e39.out
  have hnz : (ws 38 != 0#64 || ws 39 != 0#64) = false := by rw [h38, h39]; rfl
  rw [hf] at F1
  rw [hnz] at N1
  clear hnz hf h38 h39
  go_wp2_with fail
  refine (F1 _).mono ?_
  rintro e wf ⟨rfl, hcf⟩
  have gf := hkeep hcf g13
  have uf := hkeep hcf u13
  have rf := hkeep hcf r13
  have Cf := C13.trans hcf
  clear hcf g13 u13 r13 C13 F1
  go_wp2_with fail
  refine (N1 _ _ gf).mono ?_
  rintro e w' ⟨rfl, rfl⟩
  clear N1 gf
  go_wp2_with (go_at_call 107; refine (lneed_yes _).mono ?_; rintro e w' ⟨rfl, rfl⟩)
  go_end0
  refine ⟨rfl, Cf.of_nil.onObj (p := OB) (.inl (by simp)) _, ?_⟩
  rw [HT.out]
  rw [zae, if_pos rfl, uf, Option.map_some, zah, laid_whole _ _ (by rw [zag, zag])]
end
end Go.Proofs.Hc
