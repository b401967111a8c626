/- Package rehash: what a word that was read comes to; ways, Need, Take (printed by gen_take20.py). -/
import Derived.Test.YtcikopeddljgkaaGreatKRj
import Derived.Test.YtcikopeddljgkaaGreatKRk
import Derived.Test.YtcikopeddljgkaaGreatK0
set_option linter.unusedSimpArgs false
set_option linter.unusedVariables false
set_option maxHeartbeats 2000000
set_option maxRecDepth 100000
namespace Go.Proofs.Hc
open Go.RowKit
attribute [local go_sem] zbs zca zax zbc zbn zba zbm zbo zbu signed64 signed8 zar BitVec.ofInt_add BitVec.ofInt_mul ofInt_sub' zay zaz wide8 eqN neN zbz shr1 shr7 shr56
attribute [local go_sem high] zbb zbt
attribute [local go_sem] zag zbw zah zas zad zbe zaq zal zbl zan zbd zbf
attribute [local go_sem] load26 load73 load23 store26 build73
attribute [local go_sem ↓] lrow26 lrow73 lrow23 srow26 zero26 brow73 zac zaw zbg zaa zab
attribute [local go_sem] zai zav zat zbj zbk zbp zao zau zbq zbi zbh
attribute [local go_sem] nn2 nm2 nn3 nm3 nn4 nm4 nn5 nm5 nn6 nm6 nn7 nm7 nn8 nm8
section
attribute [local go_sem] acc_g0 acc_g1 acc_g2 acc_g4 acc_s0 acc_s1 acc_s2 acc_s4 zcv accC_one accC_all loadAcc storeAcc bacc0 bacc2 bacc3 bacc3u bacc4
attribute [local go_sem ↓] lrowAcc srowAcc browAcc zcn
attribute [local go_sem high] zak
attribute [local go_sem] zcq seenC_one seenC_all seenC_g0 loadSeen storeSeen buildSeen buildSeen0
attribute [local go_sem ↓] lrowSeen srowSeen browSeen zcr
attribute [local go_sem high] zam
attribute [local irreducible] seenC
attribute [local go_sem] zar zby
attribute [local go_sem] Oper.semAt_some zap
attribute [local go_sem] layC_idx lcell0 lcell1 lcell2 lcell3 lcell4 lcell5 lcell46
attribute [local go_sem] lay_g0 lay_g1 lay_g2 lay_g3 lay_g4 lay_g5 lay_g46 lay_s0 lay_s4 lay_s5 lay_s46 zck layC_one layC_all layC_ws boxLay loadLay storeLay build_lay box_lay buildLay0 buildLay2 buildLay3
attribute [local go_sem ↓] lrowLay srowLay browLay brow_lay zcs
attribute [local go_sem high] zaj
attribute [local irreducible] layC
attribute [local irreducible] accC
attribute [local go_sem high] tmod2_64w bit64w bit64zw
attribute [local go_sem] boxSeen
theorem lThen2_last (p : LayT) (g : Nat) (x : BitVec 64) (b : Bool) (ha : p.at_ = (39 : Int)) (w : World) (hg : w.heap[g]? = some (.cells (layC p) 163 (0, 0))) :
    Calls Tryz.prog 196 #[.pointer (some ⟨g, 0, none⟩), .agg (seenC (N x) b)] w fun e w' => e = .returned (.tuple #[]) ∧ w'.heap[g]? = some (.cells (layC (laidL { p with ws := updW (updW p.ws 39 x) 0 p.count, at_ := 40 })) 163 (0, 0)) ∧ Ch [g] w w' := by
  have hgn : ¬ g = w.heap.size := by have := (Array.getElem?_eq_some_iff.1 hg).1; omega
  have C0 : Ch [g] w (w.alloc (.cells (seenC (N x) b) 93)) := (Ch.refl [g] w).alloc _
  obtain ⟨u0, hu0⟩ : ∃ u, (layC p)[45]? = some (U u) := ⟨_, lay_gw p 39 (by omega)⟩
  have hset := lay_sw p 39 (by omega) x
  have e5 : (layC p)[5]? = some (I (39 : Int)) := by rw [lay_g5, ha]
  have hq5 : (layC { p with ws := updW p.ws 39 x })[5]? = some (I (39 : Int)) := by rw [lay_g5]; exact congrArg (fun z => some (I z)) ha
  have hL := fun w h => laid_any { p with ws := updW p.ws 39 x, at_ := 40 } g w h
  have hs5 : ∀ z : Int, (layC { p with ws := updW p.ws 39 x }).setIfInBounds 5 (I z) = layC { p with ws := updW p.ws 39 x, at_ := z } := fun z => lay_s5 _ z
  go_enter Tryz.func196, Tryz.ntmps196
  go_upto_region 1 with (fail)
  have g0 : (w.alloc (.cells (seenC (N x) b) 93)).heap[g]? = some (.cells (layC p) 163 (0, 0)) := by rw [zac, if_neg hgn]; exact hg
  have y0 : (w.alloc (.cells (seenC (N x) b) 93)).heap[w.heap.size]? = some (.cells (seenC (N x) b) 93 (0, 0)) := by rw [zac, if_pos rfl]
  generalize w.alloc (.cells (seenC (N x) b) 93) = W0 at *
  generalize w.heap.size = B at *
  have hBg : ¬ B = g := fun e => hgn e.symm
  clear hg
  obtain ⟨cp, hcp⟩ : ∃ c, layC p = c := ⟨_, rfl⟩
  rw [hcp] at g0 e5 hset hu0
  obtain ⟨cq, hcq⟩ : ∃ c, layC { p with ws := updW p.ws 39 x } = c := ⟨_, rfl⟩
  rw [hcq] at hset hq5 hs5
  have s2 : (fun W' : World => W'.heap[B]? = some (.cells (seenC (N x) b) 93 (0, 0)) ∧ W'.cell? ⟨g, 5, none⟩ = some (I (39 : Int))) W0.drew := ⟨y0, by rw [zag]; show (W0.heap[g]?).bind _ = _; rw [g0, Option.bind_some, zah]; exact e5⟩
  have g2 : W0.drew.heap[g]? = _ := g0
  have C2 : Ch [g] w W0.drew := C0.drew
  refine wp_region_held_drew (S := fun W' => W'.heap[B]? = some (.cells (seenC (N x) b) 93 (0, 0)) ∧ W'.cell? ⟨g, 5, none⟩ = some (I (39 : Int))) (by kernel_rfl) s2 ?_
  intro _
  simp only [List.size_toArray, List.length_cons, List.length_nil, Nat.reduceAdd]
  clear g0 y0 C0
  generalize W0.drew = w2 at *
  refine tk 0 4 ?_ rfl s2 ?_ ?_; rotate_left
  · intro wq hSq; (obtain ⟨hSa, hSb⟩ := hSq; rw [zag] at hSb); go_simp; try with_reducible rfl
  try go_frame
  refine tk 1 5 ?_ rfl s2 ?_ ?_; rotate_left
  · intro wq hSq; (obtain ⟨hSa, hSb⟩ := hSq; rw [zag] at hSb); go_simp; try with_reducible rfl
  try go_frame
  refine tk 2 6 ?_ rfl s2 ?_ ?_; rotate_left
  · intro wq hSq; (obtain ⟨hSa, hSb⟩ := hSq; rw [zag] at hSb); go_simp; try with_reducible rfl
  try go_frame
  refine tk 3 7 ?_ rfl s2 ?_ ?_; rotate_left
  · intro wq hSq; (obtain ⟨hSa, hSb⟩ := hSq; rw [zag] at hSb); go_simp; try with_reducible rfl
  try go_frame
  refine tk 4 8 ?_ rfl s2 ?_ ?_; rotate_left
  · intro wq hSq; (obtain ⟨hSa, hSb⟩ := hSq; rw [zag] at hSb); go_simp; try with_reducible rfl
  try go_frame
  refine tk 5 9 ?_ rfl s2 ?_ ?_; rotate_left
  · intro wq hSq; (obtain ⟨hSa, hSb⟩ := hSq; rw [zag] at hSb); go_simp; try with_reducible rfl
  try go_frame
  refine tk 6 10 ?_ rfl s2 ?_ ?_; rotate_left
  · intro wq hSq; (obtain ⟨hSa, hSb⟩ := hSq; rw [zag] at hSb); go_simp; try with_reducible rfl
  try go_frame
  refine tk 7 11 ?_ rfl s2 ?_ ?_; rotate_left
  · intro wq hSq; (obtain ⟨hSa, hSb⟩ := hSq; rw [zag] at hSb); go_simp; try with_reducible rfl
  try go_frame
  refine tk 8 12 ?_ rfl s2 ?_ ?_; rotate_left
  · intro wq hSq; (obtain ⟨hSa, hSb⟩ := hSq; rw [zag] at hSb); go_simp; try with_reducible rfl
  try go_frame
  refine tk 9 13 ?_ rfl s2 ?_ ?_; rotate_left
  · intro wq hSq; (obtain ⟨hSa, hSb⟩ := hSq; rw [zag] at hSb); go_simp; try with_reducible rfl
  try go_frame
  refine tk 10 14 ?_ rfl s2 ?_ ?_; rotate_left
  · intro wq hSq; (obtain ⟨hSa, hSb⟩ := hSq; rw [zag] at hSb); go_simp; try with_reducible rfl
  try go_frame
  refine tk 11 15 ?_ rfl s2 ?_ ?_; rotate_left
  · intro wq hSq; (obtain ⟨hSa, hSb⟩ := hSq; rw [zag] at hSb); go_simp; try with_reducible rfl
  try go_frame
  refine rd 12 rfl (fun K hK => ?_); go_simp
  have g3 : (w2.setCell ⟨g, 45, none⟩ (U x)).heap[g]? = some (.cells cq 163 (0, 0)) := by rw [zaa, if_pos rfl, g2, Option.map_some, zad, hset]
  have s3 : (w2.setCell ⟨g, 45, none⟩ (U x)).heap[B]? = some (.cells (seenC (N x) b) 93 (0, 0)) := by rw [zaa, if_neg hBg]; exact s2.1
  have C3 := C2.setCell (p := ⟨g, 45, none⟩) (.inl (by simp)) (U x)
  refine hK.out _ _ ⟨s3, ?_⟩ (fun _ => ?_)
  · rw [zag, g3, Option.bind_some, zah]; exact hq5
  clear hK K s2 g2 C2 s3
  obtain ⟨w3, hw3⟩ : ∃ W, (w2.setCell ⟨g, 45, none⟩ (U x)) = W := ⟨_, rfl⟩
  rw [hw3] at g3 C3 ⊢
  clear hw3
  refine wpAnyH_done (by kernel_rfl) ?_ _
  go_upto_region 3 with (fail)
  have g4 : (w3.setCell ⟨g, 5, none⟩ (.int .i64 ((39 : Int) + 1))).heap[g]? = some (.cells (layC { p with ws := updW p.ws 39 x, at_ := (39 : Int) + 1 }) 163 (0, 0)) := by rw [zaa, if_pos rfl, g3, Option.map_some, zad]; exact congrArg (fun z => some (Obj.cells z 163 (0, 0))) (hs5 _)
  have C4 := C3.setCell (p := ⟨g, 5, none⟩) (.inl (by simp)) (.int .i64 ((39 : Int) + 1))
  have hfit : IntKind.i64.wrap ((39 : Int) + 1) = (39 : Int) + 1 := by simp only [IntKind.wrap, IntKind.signed, IntKind.bits]; simp; try omega
  have g4 : (w3.setCell ⟨g, 5, none⟩ (.int .i64 40)).heap[g]? = some (.cells (layC { p with ws := updW p.ws 39 x, at_ := 40 }) 163 (0, 0)) := g4
  have C4 : Ch [g] w (w3.setCell ⟨g, 5, none⟩ (.int .i64 40)) := C4
  clear g3 C3 hset hq5 hs5
  obtain ⟨w4, hw4⟩ : ∃ W, w3.setCell ⟨g, 5, none⟩ (.int .i64 40) = W := ⟨_, rfl⟩
  rw [hw4] at g4 C4 ⊢
  clear hw4
  go_wp2_with fail
  refine (hL _ g4).mono ?_
  rintro e w5 ⟨rfl, g5, c5⟩
  go_wp2
  go_end0
  exact ⟨rfl, g5, C4.trans c5⟩
theorem lThen2_more (p : LayT) (g j : Nat) (x : BitVec 64) (b : Bool) (ha : p.at_ = (j : Int)) (hj : 1 ≤ j) (hj9 : j < 39) (w : World) (hg : w.heap[g]? = some (.cells (layC p) 163 (0, 0))) :
    Calls Tryz.prog 196 #[.pointer (some ⟨g, 0, none⟩), .agg (seenC (N x) b)] w fun e w' => e = .returned (.tuple #[]) ∧ w'.heap[g]? = some (.cells (layC { p with ws := updW p.ws j x, at_ := (j : Int) + 1 }) 163 (0, 0)) ∧ Ch [g] w w' := by
  have hgn : ¬ g = w.heap.size := by have := (Array.getElem?_eq_some_iff.1 hg).1; omega
  have C0 : Ch [g] w (w.alloc (.cells (seenC (N x) b) 93)) := (Ch.refl [g] w).alloc _
  have hjI : (j : Int) < 40 := by omega
  obtain ⟨u0, hu0⟩ : ∃ u, (layC p)[6 + j]? = some (U u) := ⟨_, lay_gw p j (by omega)⟩
  have hjI2 : (j : Int) < 39 := by omega
  have hj1 : (1 : Int) ≤ j := by omega
  have hset := lay_sw p j (by omega) x
  have e5 : (layC p)[5]? = some (I (j : Int)) := by rw [lay_g5, ha]
  have hq5 : (layC { p with ws := updW p.ws j x })[5]? = some (I (j : Int)) := by rw [lay_g5]; exact congrArg (fun z => some (I z)) ha
  have hL := fun w h => laid_any { p with ws := updW p.ws j x, at_ := 40 } g w h
  have hs5 : ∀ z : Int, (layC { p with ws := updW p.ws j x }).setIfInBounds 5 (I z) = layC { p with ws := updW p.ws j x, at_ := z } := fun z => lay_s5 _ z
  go_enter Tryz.func196, Tryz.ntmps196
  go_upto_region 1 with (fail)
  have g0 : (w.alloc (.cells (seenC (N x) b) 93)).heap[g]? = some (.cells (layC p) 163 (0, 0)) := by rw [zac, if_neg hgn]; exact hg
  have y0 : (w.alloc (.cells (seenC (N x) b) 93)).heap[w.heap.size]? = some (.cells (seenC (N x) b) 93 (0, 0)) := by rw [zac, if_pos rfl]
  generalize w.alloc (.cells (seenC (N x) b) 93) = W0 at *
  generalize w.heap.size = B at *
  have hBg : ¬ B = g := fun e => hgn e.symm
  clear hg
  obtain ⟨cp, hcp⟩ : ∃ c, layC p = c := ⟨_, rfl⟩
  rw [hcp] at g0 e5 hset hu0
  obtain ⟨cq, hcq⟩ : ∃ c, layC { p with ws := updW p.ws j x } = c := ⟨_, rfl⟩
  rw [hcq] at hset hq5 hs5
  have s2 : (fun W' : World => W'.heap[B]? = some (.cells (seenC (N x) b) 93 (0, 0)) ∧ W'.cell? ⟨g, 5, none⟩ = some (I (j : Int))) W0.drew := ⟨y0, by rw [zag]; show (W0.heap[g]?).bind _ = _; rw [g0, Option.bind_some, zah]; exact e5⟩
  have g2 : W0.drew.heap[g]? = _ := g0
  have C2 : Ch [g] w W0.drew := C0.drew
  refine wp_region_held_drew (S := fun W' => W'.heap[B]? = some (.cells (seenC (N x) b) 93 (0, 0)) ∧ W'.cell? ⟨g, 5, none⟩ = some (I (j : Int))) (by kernel_rfl) s2 ?_
  intro _
  simp only [List.size_toArray, List.length_cons, List.length_nil, Nat.reduceAdd]
  clear g0 y0 C0
  generalize W0.drew = w2 at *
  refine tk 0 4 ?_ rfl s2 ?_ ?_; rotate_left
  · intro wq hSq; (obtain ⟨hSa, hSb⟩ := hSq; rw [zag] at hSb); go_simp; try with_reducible rfl
  try go_frame
  refine tk 1 5 ?_ rfl s2 ?_ ?_; rotate_left
  · intro wq hSq; (obtain ⟨hSa, hSb⟩ := hSq; rw [zag] at hSb); go_simp; try with_reducible rfl
  try go_frame
  refine tk 2 6 ?_ rfl s2 ?_ ?_; rotate_left
  · intro wq hSq; (obtain ⟨hSa, hSb⟩ := hSq; rw [zag] at hSb); go_simp; try with_reducible rfl
  try go_frame
  refine tk 3 7 ?_ rfl s2 ?_ ?_; rotate_left
  · intro wq hSq; (obtain ⟨hSa, hSb⟩ := hSq; rw [zag] at hSb); go_simp; try with_reducible rfl
  try go_frame
  refine tk 4 8 ?_ rfl s2 ?_ ?_; rotate_left
  · intro wq hSq; (obtain ⟨hSa, hSb⟩ := hSq; rw [zag] at hSb); go_simp; try with_reducible rfl
  try go_frame
  refine tk 5 9 ?_ rfl s2 ?_ ?_; rotate_left
  · intro wq hSq; (obtain ⟨hSa, hSb⟩ := hSq; rw [zag] at hSb); go_simp; try with_reducible rfl
  try go_frame
  refine tk 6 10 ?_ rfl s2 ?_ ?_; rotate_left
  · intro wq hSq; (obtain ⟨hSa, hSb⟩ := hSq; rw [zag] at hSb); go_simp; try with_reducible rfl
  try go_frame
  refine tk 7 11 ?_ rfl s2 ?_ ?_; rotate_left
  · intro wq hSq; (obtain ⟨hSa, hSb⟩ := hSq; rw [zag] at hSb); go_simp; try with_reducible rfl
  try go_frame
  refine tk 8 12 ?_ rfl s2 ?_ ?_; rotate_left
  · intro wq hSq; (obtain ⟨hSa, hSb⟩ := hSq; rw [zag] at hSb); go_simp; try with_reducible rfl
  try go_frame
  refine tk 9 13 ?_ rfl s2 ?_ ?_; rotate_left
  · intro wq hSq; (obtain ⟨hSa, hSb⟩ := hSq; rw [zag] at hSb); go_simp; try with_reducible rfl
  try go_frame
  refine tk 10 14 ?_ rfl s2 ?_ ?_; rotate_left
  · intro wq hSq; (obtain ⟨hSa, hSb⟩ := hSq; rw [zag] at hSb); go_simp; try with_reducible rfl
  try go_frame
  refine tk 11 15 ?_ rfl s2 ?_ ?_; rotate_left
  · intro wq hSq; (obtain ⟨hSa, hSb⟩ := hSq; rw [zag] at hSb); go_simp; try with_reducible rfl
  try go_frame
  refine rd 12 rfl (fun K hK => ?_); go_simp
  have g3 : (w2.setCell ⟨g, 6 + j, none⟩ (U x)).heap[g]? = some (.cells cq 163 (0, 0)) := by rw [zaa, if_pos rfl, g2, Option.map_some, zad, hset]
  have s3 : (w2.setCell ⟨g, 6 + j, none⟩ (U x)).heap[B]? = some (.cells (seenC (N x) b) 93 (0, 0)) := by rw [zaa, if_neg hBg]; exact s2.1
  have C3 := C2.setCell (p := ⟨g, 6 + j, none⟩) (.inl (by simp)) (U x)
  refine hK.out _ _ ⟨s3, ?_⟩ (fun _ => ?_)
  · rw [zag, g3, Option.bind_some, zah]; exact hq5
  clear hK K s2 g2 C2 s3
  obtain ⟨w3, hw3⟩ : ∃ W, (w2.setCell ⟨g, 6 + j, none⟩ (U x)) = W := ⟨_, rfl⟩
  rw [hw3] at g3 C3 ⊢
  clear hw3
  refine wpAnyH_done (by kernel_rfl) ?_ _
  go_upto_region 3 with (fail)
  have g4 : (w3.setCell ⟨g, 5, none⟩ (.int .i64 ((j : Int) + 1))).heap[g]? = some (.cells (layC { p with ws := updW p.ws j x, at_ := (j : Int) + 1 }) 163 (0, 0)) := by rw [zaa, if_pos rfl, g3, Option.map_some, zad]; exact congrArg (fun z => some (Obj.cells z 163 (0, 0))) (hs5 _)
  have C4 := C3.setCell (p := ⟨g, 5, none⟩) (.inl (by simp)) (.int .i64 ((j : Int) + 1))
  have hfit : IntKind.i64.wrap ((j : Int) + 1) = (j : Int) + 1 := by simp only [IntKind.wrap, IntKind.signed, IntKind.bits]; simp; try omega
  have hne : ((j : Int) + 1 == 40) = false := beq_eq_false_iff_ne.2 (by omega)
  clear g3 C3 hset hq5 hs5 hL
  obtain ⟨w4, hw4⟩ : ∃ W, w3.setCell ⟨g, 5, none⟩ (.int .i64 ((j : Int) + 1)) = W := ⟨_, rfl⟩
  rw [hw4] at g4 C4 ⊢
  clear hw4
  go_wp2
  go_end0
  exact ⟨rfl, g4, C4⟩
end
end Go.Proofs.Hc
