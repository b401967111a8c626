/- The reference of layer 19: Step, where it adds. -/
import Derived.Test.YtmfajobocpaimaaGreatKHca
import Derived.Test.YtmfajobocpaimaaGreatKHcg
import Derived.Test.YtmfajobocpaimaaGreatKHxe
import Derived.Test.YtmfajobocpaimaaGreatKHni
import Derived.Test.YtmfajobocpaimaaGreatKHnl
import Derived.Test.YtmfajobocpaimaaGreatKHnq
import Derived.Test.YtmfajobocpaimaaGreatKHnw
import Derived.Test.YtmfajobocpaimaaGreatKHpa
import Derived.Test.YtmfajobocpaimaaGreatKHq
import Derived.Test.YtmfajobocpaimaaGreatKHr
import Derived.Test.YtmfajobocpaimaaGreatKHdh
import Derived.Test.YtmfajobocpaimaaGreatKHop2
import Derived.Below
import Derived.BigQuiet
import Derived.Deep.Draws
import Derived.Deep.Light
import Derived.Deep.OwnRows
import Derived.Deep.QuietTactic
import Derived.Deep.RegionHeld
import Derived.IntWalk
import Derived.Laws.CopyOwn
import Derived.Laws.CopyRow
import Derived.Laws.StructEq
import Derived.Laws.Tables
import Derived.Lib.AppendZerosOnto
import Derived.Lib.Hide
import Derived.Lib.Tables
import Derived.Lib.Walk
import Derived.LoopIn
import Derived.LoopN
import Derived.LoopNIn
import Derived.Maps.AppendAt
import Derived.Maps.Views
import Derived.OwnWalkIn
import Derived.RangeFuncBox
import Derived.RangeFuncCalls
import Derived.RangeFuncRecord
import Derived.RangeFuncSeq
import Derived.Recover
import Derived.RegionTactic
import Derived.ScopeJumps
import Derived.Shelf.Slices.Clone
import Derived.StillTail
import Derived.StillTailTactics
import Derived.TacticsInMore
import Derived.Test.YtmfajobocpaimaaGreatProg
import Derived.WalkKit
import Derived.WalkLawsBesides
import Derived.WalkMore
import Derived.WalkSpells
set_option linter.unusedSimpArgs false
set_option linter.unusedVariables false
namespace Go.Proofs.Hc
open Go.RowKit
attribute [local go_sem] wrap_u64 wrap_u8 bits_xor64 bits_and64 bits_or64 bits_not64 bits_xor8 bits_and8 bits_or8 signed64 signed8 ofInt_N BitVec.ofInt_add BitVec.ofInt_mul ofInt_sub' ofInt8_N64 ofInt64_N8 wide8 eqN neN shr_pow shr1 shr7 shr56
attribute [local go_sem high] bits_com64 shl_wrap
attribute [local go_sem] cell_heap ice_heap cellAt_cells iceAt_cells setAt_cells rowAt_cells canLay_cells laidAt_cells size_onObj size_setCell rowRes_some layRes_true
attribute [local go_sem] load26 load73 load23 store26 build73
attribute [local go_sem ↓] lrow26 lrow73 lrow23 srow26 zero26 brow73 heap_alloc heap_drew heap_drewN heap_setCell heap_onObj
attribute [local go_sem] tcells_size hcells_size tcells_get hcells_get tcells_one hcells_one hcells_table tcells_table hcells_all hcells_ctrl tcells_ctrl
attribute [local go_sem] nn2 nm2 nn3 nm3 nn4 nm4 nn5 nm5 nn6 nm6 nn7 nm7 nn8 nm8
attribute [local go_sem] nn2 nm2 nn3 nm3 nn4 nm4 nn5 nm5 nn6 nm6 nn7 nm7 nn8 nm8
attribute [local go_sem] ofInt_N ofInt_pow8
attribute [local go_sem] Oper.semAt_some make_func1
attribute [local go_sem] pen_g0 pen_g1 pen_g2 pen_g3 pen_g4 pen_g5 pen_g6 pen_g7 pen_g8 pen_g9 pen_g10 pen_g11 pen_g12 pen_g13 pen_g14 pen_g15 pen_g16 pen_g17 penC_size penC_one penC_all
attribute [local irreducible] penC
attribute [local go_sem] pen_s0 pen_s1 pen_s2 pen_s3 pen_s4 pen_s5 pen_s6 pen_s7 pen_s8 pen_s9 pen_s10 pen_s11 pen_s12 pen_s13 pen_s14 pen_s15 pen_s16 pen_s17
attribute [local go_sem] acc_g0 acc_g1 acc_g2 acc_g4 acc_s0 acc_s1 acc_s2 acc_s4 accC_size accC_one accC_all loadAcc storeAcc bacc0 bacc2 bacc3 bacc3u bacc4
attribute [local go_sem ↓] lrowAcc srowAcc browAcc zeroAcc_run
attribute [local go_sem high] laidAt_acc
attribute [local irreducible] accC
attribute [local go_sem] boxPen loadPen storePen buildPen0
attribute [local go_sem ↓] lrowPen srowPen wzeroPen_run browPen
attribute [local go_sem high] wlaidAt_pen
set_option maxHeartbeats 2000000 in
set_option maxRecDepth 100000 in
theorem r19Step_4 (l : List (BitVec 64)) (g c : Nat) (cur : Array Value) (p q : PenT) (j : Nat) (x y : BitVec 64) (w : World) (hj : j < l.length) (hl : l.length ≤ 8192) (hx : l[j]? = some x) (hb : w.heap[g]? = some (.cells cur 22 (0, 0))) (hw : WordsAt cur l)
    (N1 : ∀ w, Calls Tryz.prog 110 #[.agg (penC p), .int .i64 0] w fun e w' => e = .returned (.tuple #[.agg (accC 0 4 j (N y)), .bool true]) ∧ Ch [] w w')
    (T1 : ∀ w, Calls Tryz.prog 111 #[.agg (penC p), U x] w fun e w' => e = .returned (.agg (penC q)) ∧ Ch [] w w') : Calls Tryz.prog 45 #[.slice (some ⟨g, 0, none⟩) l.length c, .agg (penC p)] w fun e w' => ∃ R c2 base, e = .returned (.tuple #[.slice R l.length c2, .agg (penC q), .bool true]) ∧ w.heap.size ≤ base ∧ w'.ownsRow base 22 1 (.slice R l.length c2) l.length ((l.set j (x + y)).map fun x => U x) ∧ Ch [] w w' := by
  have C0 : Ch [] w ((w.alloc (.cells (penC p) 71)).alloc (.cells (penC zeroPen) 71)) := ((Ch.refl [] w).alloc _).alloc _
  have b0 := wnew_pen2 p w
  have z0 := wnew_penz p w
  have g0 := hkeep C0 hb
  have hone : ∀ u ∈ l.map (fun x => U x), u.oneCell' = true := by
    intro u hu
    obtain ⟨y, _, rfl⟩ := List.mem_map.1 hu
    rfl
  have hcell : ∀ w' : World, w'.heap[g]? = some (.cells cur 22 (0, 0)) → ∀ j u, (l.map fun x => U x)[j]? = some u → w'.cell? ((⟨g, 0, none⟩ : Addr).add j) = some u := by
    intro w' hw' j u hju
    rw [List.getElem?_map] at hju
    cases hlj : l[j]? with
    | none => rw [hlj] at hju; cases hju
    | some y =>
      rw [hlj] at hju
      have hu : U y = u := by simpa using hju
      have hadd : (⟨g, 0, none⟩ : Addr).add j = ⟨g, 0 + j, none⟩ := by unfold Addr.add; split <;> simp_all
      rw [hadd, cell_heap, hw', Nat.zero_add]
      show cur[j]? = some u
      rw [hw j y hlj, hu]
  obtain ⟨n, hn⟩ : ∃ n, l.length = n := ⟨_, rfl⟩
  have hlen : (l.map fun x => U x).length = n * 1 := by simp [hn]
  have hlj : (l.map fun x => U x)[j]? = some (U x) := by rw [List.getElem?_map, hx]; rfl
  rw [hn] at hj hl ⊢
  have hcur : cur[j]? = some (U x) := hw j x hx
  go_enter Tryz.func45, Tryz.ntmps45
  go_wp2_with fail
  generalize (w.alloc (.cells (penC p) 71)).alloc (.cells (penC zeroPen) 71) = W0 at *
  refine (N1 _).mono ?_
  rintro e w3 ⟨rfl, hc3⟩
  have b3 := hkeep hc3 b0
  have z3 := hkeep hc3 z0
  have g3 := hkeep hc3 g0
  have C3 := C0.trans hc3
  have hA3 := C3.size
  have hne : ¬ w.heap.size + 1 = w3.heap.size := by have := (Array.getElem?_eq_some_iff.1 z3).1; omega
  have hne2 : ¬ w.heap.size = w3.heap.size := by have := (Array.getElem?_eq_some_iff.1 b3).1; omega
  have hne3 : ¬ g = w3.heap.size := by have := (Array.getElem?_eq_some_iff.1 g3).1; omega
  clear b0 z0 C0 hc3 N1 g0
  have hj1 : (j : Int) < n := by omega
  have hn1 : (n : Int) ≤ 8192 := by omega
  have hj0 : (0 : Int) ≤ j := by omega
  obtain ⟨i0, hi, hz0, hz1, hz2⟩ := info_parts infoU
  have hcA : Ch [] w3 (w3.alloc (.cells (accC 0 0 0 0) 96)) := (Ch.refl [] w3).alloc _
  have k1 : w.heap.size < w3.heap.size := (Array.getElem?_eq_some_iff.1 b3).1
  have k2 : w.heap.size + 1 < w3.heap.size := (Array.getElem?_eq_some_iff.1 z3).1
  have k3 : g < w3.heap.size := (Array.getElem?_eq_some_iff.1 g3).1
  have bb : (World.onObj (w3.alloc (.cells (accC 0 0 0 0) 96)) w3.heap.size (laidAt 0 (accC 0 4 (j : Int) (N y)))).heap[w.heap.size]? = some (.cells (penC p) 71 (0, 0)) := by rw [heap_onObj, if_neg (by omega)]; exact hkeep hcA b3
  have zz : (World.onObj (w3.alloc (.cells (accC 0 0 0 0) 96)) w3.heap.size (laidAt 0 (accC 0 4 (j : Int) (N y)))).heap[w.heap.size + 1]? = some (.cells (penC zeroPen) 71 (0, 0)) := by rw [heap_onObj, if_neg (by omega)]; exact hkeep hcA z3
  have gg : (World.onObj (w3.alloc (.cells (accC 0 0 0 0) 96)) w3.heap.size (laidAt 0 (accC 0 4 (j : Int) (N y)))).heap[g]? = some (.cells cur 22 (0, 0)) := by rw [heap_onObj, if_neg (by omega)]; exact hkeep hcA g3
  have aa : (World.onObj (w3.alloc (.cells (accC 0 0 0 0) 96)) w3.heap.size (laidAt 0 (accC 0 4 (j : Int) (N y)))).heap[w3.heap.size]? = some (.cells (accC 0 4 (j : Int) (N y)) 96 (0, 0)) := by rw [heap_onObj, if_pos rfl, heap_alloc, if_pos rfl, Option.map_some, laidAt_acc]
  have CC : Ch [] w (World.onObj (w3.alloc (.cells (accC 0 0 0 0) 96)) w3.heap.size (laidAt 0 (accC 0 4 (j : Int) (N y)))) := (C3.trans hcA).onObj (.inr hA3) _
  have K2 := Lib.hid k2
  clear b3 z3 C3 hcA g3 k1 k2 k3 hne hne2 hne3
  obtain ⟨w4, h4⟩ : ∃ w4, (World.onObj (w3.alloc (.cells (accC 0 0 0 0) 96)) w3.heap.size (laidAt 0 (accC 0 4 (j : Int) (N y)))) = w4 := ⟨_, rfl⟩
  rw [h4] at bb zz gg aa CC
  have hAw4 : ¬ w3.heap.size = w4.heap.size := by have := (Array.getElem?_eq_some_iff.1 aa).1; omega
  have hBw4 : ¬ w.heap.size = w4.heap.size := by have := (Array.getElem?_eq_some_iff.1 bb).1; omega
  have hZw4 : ¬ w.heap.size + 1 = w4.heap.size := by have := (Array.getElem?_eq_some_iff.1 zz).1; omega
  have hgw4 : ¬ g = w4.heap.size := by have := (Array.getElem?_eq_some_iff.1 gg).1; omega
  have HA4 : Hid (w3.heap.size < w4.heap.size) := Lib.hid (Array.getElem?_eq_some_iff.1 aa).1
  have HG4 : Hid (g < w4.heap.size) := Lib.hid (Array.getElem?_eq_some_iff.1 gg).1
  have HZ4 : Hid (w.heap.size + 1 < w4.heap.size) := Lib.hid (Array.getElem?_eq_some_iff.1 zz).1
  have HAB : Hid (¬ w3.heap.size = w.heap.size + 1) := Lib.hid (by have := K2.out; omega)
  have HgB : Hid (¬ g = w.heap.size + 1) := Lib.hid (by have := (Array.getElem?_eq_some_iff.1 hb).1; omega)
  have hmade : (w4.alloc (.cells #[] 22)).ownsRow w4.heap.size 22 1 (.slice (some ⟨w4.heap.size, 0, none⟩) 0 0) 0 [] := World.ownsRow_made w4 #[] 0 (Nat.le_refl _) (Nat.zero_le _) (by simp)
  go_wp2_with (at_builtin; refine wpList_append_own _ rfl _ _ 53 rfl w4.heap.size 22 i0 (U 0#64) 1 8 Tryz.underlying53 hi hz0 hz1 hz2 rfl (by decide) _ _ _ rfl hmade ⟨g, 0, none⟩ n c (l.map fun x => U x) rfl hlen (hcell _ (by rw [heap_alloc, if_neg hgw4]; exact gg)) hone (by unfold maxLen; omega) (by omega) (by simp) ?_; intro v2 w5 hown2 hgr2 _; have hgr3 : (w4.alloc (.cells #[] 22)).grownBy w5 (some w4.heap.size) := hgr2; clear hgr2; have hcw : Ch [] w4 w5 := ((Ch.refl [] w4).alloc _).trans2 (Ch.of_grown (S := [w4.heap.size]) hgr3 (fun k hk => by simp at hk; simp [hk])) (by simp); have a5 := hkeep hcw aa; have b5 := hkeep hcw bb; have z5 := hkeep hcw zz; have g5 := hkeep hcw gg; have C5 := CC.trans hcw; clear aa bb zz gg CC hcw hgr3; rw [Nat.zero_add, List.nil_append] at hown2; have HO := Lib.hid hown2; obtain ⟨_, ⟨hv0, hn0⟩ | ⟨R, c2, cur2, rfl, hRb, hW2, hle2, _, hsz2, hcur2⟩⟩ := hown2; exfalso; omega; have hcj2 : cur2[j]? = some (U x) := by { have h1 : (cur2.toList.take (n * 1))[j]? = some (U x) := by { rw [hcur2]; exact hlj }; rw [List.getElem?_take, if_pos (by omega)] at h1; simpa using h1 }; clear hcur2 hsz2; have hAR : ¬ w3.heap.size = R := by { have := HA4.out; omega }; have hAR2 : ¬ R = w3.heap.size := by { have := HA4.out; omega }; have hBR : ¬ w.heap.size = R := by { have := HZ4.out; omega }; have hgR : ¬ g = R := by { have := HG4.out; omega })
  have s6 : (fun W' : World => W'.heap[w3.heap.size]? = some (.cells (accC 0 4 (j : Int) (N y)) 96 (0, 0))) w5.drew := a5
  refine wp_region_held_drew (S := fun W' => W'.heap[w3.heap.size]? = some (.cells (accC 0 4 (j : Int) (N y)) 96 (0, 0))) (by kernel_rfl) s6 ?_
  intro _
  simp only [List.size_toArray, List.length_cons, List.length_nil, Nat.reduceAdd]
  have b5d : w5.drew.heap[w.heap.size]? = some (.cells (penC p) 71 (0, 0)) := b5
  have z5d : w5.drew.heap[w.heap.size + 1]? = some (.cells (penC zeroPen) 71 (0, 0)) := z5
  have g5d : w5.drew.heap[g]? = some (.cells cur 22 (0, 0)) := g5
  have R5d : w5.drew.heap[R]? = some (.cells cur2 22 (0, 0)) := hW2
  have C5d : Ch [] w w5.drew := C5.drew
  have HOd : Hid (w5.drew.ownsRow w4.heap.size 22 1 (.slice (some ⟨R, 0, none⟩) n c2) n (l.map fun x => U x)) := Lib.hid HO.out.drew
  clear b5 z5 g5 hW2 C5 HO a5
  generalize w5.drew = w5 at *
  refine wpAnyH_take (i := 0) (oi := ⟨some 40, _, _, _, _, none⟩) (v := ?_) rfl (by kernel_rfl) (by kernel_rfl) (by kernel_rfl) (fun _ _ _ h => h) (Or.inl ⟨by rfl, ?_⟩) s6 ?_
  rotate_left
  · intro wq hSq
    first | (go_simp; done) | (go_simp; with_reducible rfl)
  try simp only [Act.put, List.setIfInBounds_toArray, List.set_cons_zero, List.set_cons_succ]
  refine wpAnyH_take (i := 1) (oi := ⟨some 41, _, _, _, _, none⟩) (v := ?_) rfl (by kernel_rfl) (by kernel_rfl) (by kernel_rfl) (fun _ _ _ h => h) (Or.inl ⟨by rfl, ?_⟩) s6 ?_
  rotate_left
  · intro wq hSq
    first | (go_simp; done) | (go_simp; with_reducible rfl)
  try simp only [Act.put, List.setIfInBounds_toArray, List.set_cons_zero, List.set_cons_succ]
  refine wpAnyH_take (i := 2) (oi := ⟨some 42, _, _, _, _, none⟩) (v := ?_) rfl (by kernel_rfl) (by kernel_rfl) (by kernel_rfl) (fun _ _ _ h => h) (Or.inl ⟨by rfl, ?_⟩) s6 ?_
  rotate_left
  · intro wq hSq
    first | (go_simp; done) | (go_simp; with_reducible rfl)
  try simp only [Act.put, List.setIfInBounds_toArray, List.set_cons_zero, List.set_cons_succ]
  refine wpAnyH_take (i := 3) (oi := ⟨some 43, _, _, _, _, none⟩) (v := ?_) rfl (by kernel_rfl) (by kernel_rfl) (by kernel_rfl) (fun _ _ _ h => h) (Or.inl ⟨by rfl, ?_⟩) s6 ?_
  rotate_left
  · intro wq hSq
    first | (go_simp; done) | (go_simp; with_reducible rfl)
  try simp only [Act.put, List.setIfInBounds_toArray, List.set_cons_zero, List.set_cons_succ]
  refine wpAnyH_take (i := 4) (oi := ⟨some 44, _, _, _, _, none⟩) (v := ?_) rfl (by kernel_rfl) (by kernel_rfl) (by kernel_rfl) (fun _ _ _ h => h) (Or.inl ⟨by rfl, ?_⟩) s6 ?_
  rotate_left
  · intro wq hSq
    first | (go_simp; done) | (go_simp; with_reducible rfl)
  try simp only [Act.put, List.setIfInBounds_toArray, List.set_cons_zero, List.set_cons_succ]
  refine wpAnyH_take (i := 5) (oi := ⟨some 45, _, _, _, _, none⟩) (v := ?_) rfl (by kernel_rfl) (by kernel_rfl) (by kernel_rfl) (fun _ _ _ h => h) (Or.inl ⟨by rfl, ?_⟩) s6 ?_
  rotate_left
  · intro wq hSq
    first | (go_simp; done) | (go_simp; with_reducible rfl)
  try simp only [Act.put, List.setIfInBounds_toArray, List.set_cons_zero, List.set_cons_succ]
  refine wpAnyH_take (i := 6) (oi := ⟨some 46, _, _, _, _, none⟩) (v := ?_) rfl (by kernel_rfl) (by kernel_rfl) (by kernel_rfl) (fun _ _ _ h => h) (Or.inl ⟨by rfl, ?_⟩) s6 ?_
  rotate_left
  · intro wq hSq
    first | (go_simp; done) | (go_simp; with_reducible rfl)
  try simp only [Act.put, List.setIfInBounds_toArray, List.set_cons_zero, List.set_cons_succ]
  refine wpAnyH_take (i := 8) (oi := ⟨some 48, _, _, _, _, none⟩) (v := ?_) rfl (by kernel_rfl) (by kernel_rfl) (by kernel_rfl) (fun _ _ _ h => h) (Or.inl ⟨by rfl, ?_⟩) s6 ?_
  rotate_left
  · intro wq hSq
    first | (go_simp; done) | (go_simp; with_reducible rfl)
  try simp only [Act.put, List.setIfInBounds_toArray, List.set_cons_zero, List.set_cons_succ]
  refine wpAnyH_take (i := 9) (oi := ⟨some 49, _, _, _, _, none⟩) (v := ?_) rfl (by kernel_rfl) (by kernel_rfl) (by kernel_rfl) (fun _ _ _ h => h) (Or.inl ⟨by rfl, ?_⟩) s6 ?_
  rotate_left
  · intro wq hSq
    first | (go_simp; done) | (go_simp; with_reducible rfl)
  try simp only [Act.put, List.setIfInBounds_toArray, List.set_cons_zero, List.set_cons_succ]
  refine wpAnyH_ready (rs := [7]) (by kernel_rfl) (by simp) ?_
  refine AllReadyH.cons (o := ⟨some 47, _, _, _, _, none⟩) rfl (fun K hK => ?_) AllReadyH.nil
  go_simp
  refine hK.out _ _ s6 (fun _ => ?_)
  clear hK K
  refine wpAnyH_take (i := 10) (oi := ⟨some 50, _, _, _, _, none⟩) (v := ?_) rfl (by kernel_rfl) (by kernel_rfl) (by kernel_rfl) (fun _ _ _ h => h) (Or.inl ⟨by rfl, ?_⟩) s6 ?_
  rotate_left
  · intro wq hSq
    first | (go_simp; done) | (go_simp; with_reducible rfl)
  try simp only [Act.put, List.setIfInBounds_toArray, List.set_cons_zero, List.set_cons_succ]
  refine wpAnyH_take (i := 11) (oi := ⟨some 51, _, _, _, _, none⟩) (v := ?_) rfl (by kernel_rfl) (by kernel_rfl) (by kernel_rfl) (fun _ _ _ h => h) (Or.inl ⟨by rfl, ?_⟩) s6 ?_
  rotate_left
  · intro wq hSq
    first | (go_simp; done) | (go_simp; with_reducible rfl)
  try simp only [Act.put, List.setIfInBounds_toArray, List.set_cons_zero, List.set_cons_succ]
  refine wpAnyH_ready (rs := [12]) (by kernel_rfl) (by simp) ?_
  refine AllReadyH.cons rfl (fun K hK => ?_) AllReadyH.nil
  go_simp
  have hcs : Ch [R] w5 (w5.setCell ⟨R, j, none⟩ (.int .u64 (N (x + y)))) := (Ch.refl [R] w5).setCell (p := ⟨R, j, none⟩) (.inl (by simp)) _
  have hZ4 := HZ4.out
  have hA4 := HA4.out
  have hG4 := HG4.out
  have b6 := (hcs.block _ (Array.getElem?_eq_some_iff.1 b5d).1 (by simp; omega)).trans b5d
  have z6 := (hcs.block _ (Array.getElem?_eq_some_iff.1 z5d).1 (by simp; omega)).trans z5d
  have a6 := (hcs.block _ (Array.getElem?_eq_some_iff.1 s6).1 (by simp; omega)).trans s6
  have g6 := (hcs.block _ (Array.getElem?_eq_some_iff.1 g5d).1 (by simp; omega)).trans g5d
  have C6 : Ch [] w (w5.setCell ⟨R, j, none⟩ (.int .u64 (N (x + y)))) := C5d.setCell (p := ⟨R, j, none⟩) (.inr (by show w.heap.size ≤ R; omega)) _
  have HO6 : Hid ((w5.setCell ⟨R, j, none⟩ (.int .u64 (N (x + y)))).ownsRow w4.heap.size 22 1 (.slice (some ⟨R, 0, none⟩) n c2) n ((l.set j (x + y)).map fun x => U x)) := Lib.hid (by rw [List.map_set]; exact (HOd.out.stored j (U (x + y))).1)
  clear hAR hAR2 hBR hgR hcs hZ4 hA4 hG4 b5d z5d g5d C5d HOd R5d hcj2
  refine hK.out _ _ a6 (fun _ => ?_)
  clear hK K s6
  generalize w5.setCell ⟨R, j, none⟩ (.int .u64 (N (x + y))) = w6 at *
  refine wpAnyH_done (by kernel_rfl) ?_ _
  go_wp2
  obtain ⟨B, hB⟩ : ∃ B, w.heap.size = B := ⟨_, rfl⟩
  rw [hB] at b6 z6 hA3 HZ4 HAB HgB ⊢
  have HB := Lib.hid hB
  clear hB hBw4 hZw4 hgw4 hAw4
  generalize w3.heap.size = A at *
  have s7 : (fun W' : World => W'.heap[B]? = some (.cells (penC p) 71 (0, 0)) ∧ W'.heap[A]? = some (.cells (accC 0 4 (j : Int) (N y)) 96 (0, 0)) ∧ W'.heap[g]? = some (.cells cur 22 (0, 0))) w6.drew := ⟨b6, a6, g6⟩
  refine wp_region_held_drew (S := fun W' => W'.heap[B]? = some (.cells (penC p) 71 (0, 0)) ∧ W'.heap[A]? = some (.cells (accC 0 4 (j : Int) (N y)) 96 (0, 0)) ∧ W'.heap[g]? = some (.cells cur 22 (0, 0))) (by kernel_rfl) s7 ?_
  intro _
  simp only [List.size_toArray, List.length_cons, List.length_nil, Nat.reduceAdd]
  have z7 : w6.drew.heap[B + 1]? = some (.cells (penC zeroPen) 71 (0, 0)) := z6
  have C7 : Ch [] w w6.drew := C6.drew
  have O7 : Hid (w6.drew.ownsRow w4.heap.size 22 1 (.slice (some ⟨R, 0, none⟩) n c2) n ((l.set j (x + y)).map fun x => U x)) := Lib.hid HO6.out.drew
  clear a6 b6 z6 g6 C6 HO6
  generalize w6.drew = w7 at *
  refine wpAnyH_take (i := 0) (oi := ⟨some 52, _, _, _, _, none⟩) (v := ?_) rfl (by kernel_rfl) (by kernel_rfl) (by kernel_rfl) (fun _ _ _ h => h) (Or.inl ⟨by rfl, ?_⟩) s7 ?_
  rotate_left
  · intro wq hSq
    obtain ⟨q1, q2, q3⟩ := hSq
    first | (go_simp; done) | (go_simp; with_reducible rfl)
  try simp only [Act.put, List.setIfInBounds_toArray, List.set_cons_zero, List.set_cons_succ]
  refine wpAnyH_take (i := 1) (oi := ⟨some 53, _, _, _, _, none⟩) (v := ?_) rfl (by kernel_rfl) (by kernel_rfl) (by kernel_rfl) (fun _ _ _ h => h) (Or.inl ⟨by rfl, ?_⟩) s7 ?_
  rotate_left
  · intro wq hSq
    obtain ⟨q1, q2, q3⟩ := hSq
    first | (go_simp; done) | (go_simp; with_reducible rfl)
  try simp only [Act.put, List.setIfInBounds_toArray, List.set_cons_zero, List.set_cons_succ]
  refine wpAnyH_take (i := 2) (oi := ⟨some 54, _, _, _, _, none⟩) (v := ?_) rfl (by kernel_rfl) (by kernel_rfl) (by kernel_rfl) (fun _ _ _ h => h) (Or.inl ⟨by rfl, ?_⟩) s7 ?_
  rotate_left
  · intro wq hSq
    obtain ⟨q1, q2, q3⟩ := hSq
    first | (go_simp; done) | (go_simp; with_reducible rfl)
  try simp only [Act.put, List.setIfInBounds_toArray, List.set_cons_zero, List.set_cons_succ]
  refine wpAnyH_take (i := 3) (oi := ⟨some 55, _, _, _, _, none⟩) (v := ?_) rfl (by kernel_rfl) (by kernel_rfl) (by kernel_rfl) (fun _ _ _ h => h) (Or.inl ⟨by rfl, ?_⟩) s7 ?_
  rotate_left
  · intro wq hSq
    obtain ⟨q1, q2, q3⟩ := hSq
    first | (go_simp; done) | (go_simp; with_reducible rfl)
  try simp only [Act.put, List.setIfInBounds_toArray, List.set_cons_zero, List.set_cons_succ]
  refine wpAnyH_take (i := 4) (oi := ⟨some 56, _, _, _, _, none⟩) (v := ?_) rfl (by kernel_rfl) (by kernel_rfl) (by kernel_rfl) (fun _ _ _ h => h) (Or.inl ⟨by rfl, ?_⟩) s7 ?_
  rotate_left
  · intro wq hSq
    obtain ⟨q1, q2, q3⟩ := hSq
    first | (go_simp; done) | (go_simp; with_reducible rfl)
  try simp only [Act.put, List.setIfInBounds_toArray, List.set_cons_zero, List.set_cons_succ]
  refine wpAnyH_take (i := 5) (oi := ⟨some 57, _, _, _, _, none⟩) (v := ?_) rfl (by kernel_rfl) (by kernel_rfl) (by kernel_rfl) (fun _ _ _ h => h) (Or.inl ⟨by rfl, ?_⟩) s7 ?_
  rotate_left
  · intro wq hSq
    obtain ⟨q1, q2, q3⟩ := hSq
    first | (go_simp; done) | (go_simp; with_reducible rfl)
  try simp only [Act.put, List.setIfInBounds_toArray, List.set_cons_zero, List.set_cons_succ]
  refine wpAnyH_take (i := 6) (oi := ⟨some 58, _, _, _, _, none⟩) (v := ?_) rfl (by kernel_rfl) (by kernel_rfl) (by kernel_rfl) (fun _ _ _ h => h) (Or.inl ⟨by rfl, ?_⟩) s7 ?_
  rotate_left
  · intro wq hSq
    obtain ⟨q1, q2, q3⟩ := hSq
    first | (go_simp; done) | (go_simp; with_reducible rfl)
  try simp only [Act.put, List.setIfInBounds_toArray, List.set_cons_zero, List.set_cons_succ]
  refine wpAnyH_ready (rs := [7]) (by kernel_rfl) (by simp) ?_
  refine AllReadyH.cons rfl (fun K hK => ?_) AllReadyH.nil
  go_simp
  refine (T1 _).mono ?_
  rintro e w8 ⟨rfl, hc8⟩
  have s8 : w8.heap[B]? = some (.cells (penC p) 71 (0, 0)) ∧ w8.heap[A]? = some (.cells (accC 0 4 (j : Int) (N y)) 96 (0, 0)) ∧ w8.heap[g]? = some (.cells cur 22 (0, 0)) := ⟨hkeep hc8 s7.1, hkeep hc8 s7.2.1, hkeep hc8 s7.2.2⟩
  have z8 := hkeep hc8 z7
  have C8 := C7.trans hc8
  have O8 : Hid (w8.ownsRow w4.heap.size 22 1 (.slice (some ⟨R, 0, none⟩) n c2) n ((l.set j (x + y)).map fun x => U x)) := Lib.hid (own_ch O7.out hc8 (by simp))
  refine hK.out _ _ s8 (fun _ => ?_)
  clear hK K s7 z7 C7 O7 hc8 T1
  refine wpAnyH_take (i := 8) (oi := ⟨some 4, _, _, _, _, none⟩) (v := ?_) rfl (by kernel_rfl) (by kernel_rfl) (by kernel_rfl) (fun _ _ _ h => h) (Or.inl ⟨by rfl, ?_⟩) s8 ?_
  rotate_left
  · intro wq hSq
    obtain ⟨q1, q2, q3⟩ := hSq
    first | (go_simp; done) | (go_simp; with_reducible rfl)
  try simp only [Act.put, List.setIfInBounds_toArray, List.set_cons_zero, List.set_cons_succ]
  refine wpAnyH_ready (rs := [9]) (by kernel_rfl) (by simp) ?_
  refine AllReadyH.cons rfl (fun K hK => ?_) AllReadyH.nil
  go_simp
  have s9 : (World.onObj w8 (B + 1) (laidAt 0 (penC q))).heap[B]? = some (.cells (penC p) 71 (0, 0)) ∧ (World.onObj w8 (B + 1) (laidAt 0 (penC q))).heap[A]? = some (.cells (accC 0 4 (j : Int) (N y)) 96 (0, 0)) ∧ (World.onObj w8 (B + 1) (laidAt 0 (penC q))).heap[g]? = some (.cells cur 22 (0, 0)) := by
    have hAB : ¬ A = B + 1 := HAB.out
    have hgB : ¬ g = B + 1 := HgB.out
    refine ⟨?_, ?_, ?_⟩
    · rw [heap_onObj, if_neg (by omega)]; exact s8.1
    · rw [heap_onObj, if_neg hAB]; exact s8.2.1
    · rw [heap_onObj, if_neg hgB]; exact s8.2.2
  have z9 : (World.onObj w8 (B + 1) (laidAt 0 (penC q))).heap[B + 1]? = some (.cells (penC q) 71 (0, 0)) := by rw [heap_onObj, if_pos rfl, z8, Option.map_some, wlaidAt_pen]
  have C9 : Ch [] w (World.onObj w8 (B + 1) (laidAt 0 (penC q))) := C8.onObj (.inr (by rw [HB.out]; omega)) _
  have O9 : Hid ((World.onObj w8 (B + 1) (laidAt 0 (penC q))).ownsRow w4.heap.size 22 1 (.slice (some ⟨R, 0, none⟩) n c2) n ((l.set j (x + y)).map fun x => U x)) := Lib.hid (own_ch O8.out ((Ch.refl [B + 1] w8).onObj (p := B + 1) (.inl (by simp)) _) (by have := HZ4.out; simp; omega))
  refine hK.out _ _ s9 (fun _ => ?_)
  clear hK K s8 z8 C8 O8
  generalize World.onObj w8 (B + 1) (laidAt 0 (penC q)) = w9 at *
  refine wpAnyH_take (i := 10) (oi := ⟨some 6, _, _, _, _, none⟩) (v := ?_) rfl (by kernel_rfl) (by kernel_rfl) (by kernel_rfl) (fun _ _ _ h => h) (Or.inl ⟨by rfl, ?_⟩) s9 ?_
  rotate_left
  · intro wq hSq
    obtain ⟨q1, q2, q3⟩ := hSq
    first | (go_simp; done) | (go_simp; with_reducible rfl)
  try simp only [Act.put, List.setIfInBounds_toArray, List.set_cons_zero, List.set_cons_succ]
  refine wpAnyH_done (by kernel_rfl) ?_ _
  go_wp2
  refine bodyPost_ret (step_results Tryz.results45 _ (B + 1) _ q _ _ rfl rfl rfl z9) rfl ⟨some ⟨R, 0, none⟩, c2, w4.heap.size, rfl, by rw [HB.out]; have := HZ4.out; omega, O9.out, C9⟩
end Go.Proofs.Hc
