/- Law 22: does the layer do anything? (printed by gen_wakes22.py) -/
import Derived.Test.YtcikopeddljgkaaGreatJPy
import Derived.Test.YtcikopeddljgkaaGreatJQc
import Derived.Test.YtcikopeddljgkaaGreatJ0
set_option linter.unusedSimpArgs false
set_option linter.unusedVariables false
set_option maxHeartbeats 8000000
set_option maxRecDepth 100000
namespace Go.Proofs.Hc
open Go.RowKit
attribute [local go_sem] zbu zcc zax zbf zbo zbd zbn zbp zbw signed64 signed8 zap BitVec.ofInt_add BitVec.ofInt_mul ofInt_sub' zbb zbc wide8 eqN neN zca shr1 shr7 shr56
attribute [local go_sem high] zbe zbv
attribute [local go_sem] zaw zby zaj zas zaf zaz zar zak zbm zal zay zba
attribute [local go_sem] load26 load73 load23 store26 build73
attribute [local go_sem ↓] lrow26 lrow73 lrow23 srow26 zero26 brow73 zae zbk zbg zaa zab
attribute [local go_sem] zai zav zat zbj zbl zbr zaq zau zbs zbi zbh
attribute [local go_sem] nn2 nm2 nn3 nm3 nn4 nm4 nn5 nm5 nn6 nm6 nn7 nm7 nn8 nm8
section
attribute [local go_sem] box26 zcb cell0 cell1 cell2 cell3 cell4 zcn zcm
attribute [local go_sem] zap zbq
attribute [local go_sem] Oper.semAt_some zao
attribute [local go_sem] zcj pacell0 pacell1 pacell2 pacell3 pacell4 pacell5 pacell6 pacell7 pacell42
attribute [local go_sem] zcs zcx zcp zcw zcv zdg zcu zdf zce zcr zdj zdc zch zbt zci zck boxPart loadPart storePart zcf zct buildPart0 buildPart4
attribute [local go_sem ↓] lrowPart srowPart browPart zcl zbz
attribute [local go_sem high] zag
attribute [local irreducible] partC
attribute [local go_sem high] zco
theorem tsetc22 (t : Tab) (x : BitVec 64) : (tcells t).setIfInBounds 0 (U x) = tcells { t with count := x } := by
  apply Array.ext_getElem?; intro i
  rw [Array.getElem?_setIfInBounds, zat, zat, zai]
  by_cases h : 0 = i
  · subst h; rfl
  · rw [if_neg h]
    match i, h with
    | 0, h => exact absurd rfl h
    | 1, _ => rfl
    | 2, _ => rfl
    | 3, _ => rfl
    | 4, _ => rfl
    | 5, _ => rfl
    | 6, _ => rfl
    | i + 7, _ => rfl
def sp0 : Tab := bareT 0#64 0 0#64
def sp1 : Tab := fillT sp0 0#64 1#64 10#64 0
def sp4 : Tab := { sp1 with count := 4#64 }
def sp5 : Tab := { sp1 with count := 5#64 }
def spd : Tab := bareT 0#64 5 0#64
def spp : PartT := firstP22 0 0 1 2 0#64
theorem sp_new : newE 0 0#64 = .ok sp0 := by rw [newE, if_neg (by decide)]; rfl
theorem sp_newd : newE 5 0#64 = .ok spd := by rw [newE, if_neg (by decide)]; rfl
theorem sp_may0 : mayT sp0 0#64 = true := by decide +kernel
theorem sp_place : placeT sp0 0#64 1#64 = .ok 0 := by kernel_rfl
theorem sp_puts : laidT 0#64 sp0 [(1#64, 10#64)] = .ok sp1 := by
  have e1 : fillT sp0 0#64 1#64 10#64 0 = sp1 := by rw [sp1]
  rw [laidT_ok (p := (1#64, 10#64)) sp_place, e1, laidT_nil]
theorem sp_may4 : May sp4 0#64 := (may_iff _ _).1 (by decide +kernel)
theorem sp_flat4 : flatT sp4 = true := sp_may4.flat
theorem sp_flat5 : flatT sp5 = true := by decide +kernel
theorem sp_flatd : flatT spd = true := by decide +kernel
theorem sp_full : nFull sp4 = 1 := by
  have h := sp_may4.live
  have h1 : sp4.live = 1 := by decide +kernel
  omega
theorem sp_slabs : SlabsS 0 1 2 := ⟨by decide, by decide, by decide, by decide, by decide, by decide, by decide⟩
theorem sp_run4 : ∃ l' p', RunsS (cells22 sp4) spp 87 l' p' ∧ p'.ph = 7 ∧ l'[16]? = some 5#64 := by
  obtain ⟨l', p', h1, h2, h3, h4, _⟩ := split_good (x := ⟨halfX sp4 0#64 0, halfX sp4 0#64 1⟩) sp_slabs (fun i h => cells22_get sp4 i h) (by rw [cells22_len]; decide) (by rw [cells22_len]; decide) sp_flat4 (by decide +kernel) (by decide +kernel) (halvesTS_laid sp_may4 (by decide +kernel))
  rw [sp_full] at h1
  exact ⟨l', p', h1, h2, h4⟩
theorem sp_run5 : ∃ p', RunsS (cells22 sp5) spp 1 (cells22 sp5) p' ∧ p'.ph = 8 := split_odd sp_slabs (fun i h => cells22_get sp5 i h) (by decide +kernel)
theorem sp_rund : ∃ p', RunsS (cells22 spd) spp 2 (cells22 spd) p' ∧ p'.ph = 9 := split_deep sp_slabs (fun i h => cells22_get spd i h) sp_flatd (by decide +kernel) (by decide +kernel)
theorem sp_right : rightS spp = true := by decide +kernel
theorem sp_begin : begin22E 0 0 1 2 0#64 = .ok spp := by unfold begin22E; rw [show firstP22 0 0 1 2 0#64 = spp from rfl, if_pos sp_right]
theorem sp_many : manyS spp = 0 := by decide +kernel
theorem sp_there : ThereS 136 spp := ⟨by decide, by decide, by decide⟩
theorem run136 (t : Tab) (l' : List (BitVec 64)) (p' : PartT) (k : Nat) (hrun : RunsS (cells22 t) spp k l' p') (hk : k ≤ 100) (R : Nat) (w : World) (hb : w.heap[R]? = some (.cells (wcells (cells22 t)) 22 (0, 0))) :
    Calls Tryz.prog 26 #[.slice (some ⟨R, 0, none⟩) 136 136, .agg (partC spp)] w fun e w' => ∃ Q, e = .returned (.tuple #[.slice (some ⟨Q, 0, none⟩) 136 136, .agg (partC p'), I (k : Nat), I 0]) ∧ w'.heap[Q]? = some (.cells (wcells l') 22 (0, 0)) ∧ Ch [] w w' := by
  have h := s22Run_go (cells22 t) l' R 136 (wcells (cells22 t)) spp p' k w (by rw [cells22_len]; omega) (by rw [cells22_len]; omega) hb (wcells_at _) sp_right (by rw [cells22_len]; exact sp_there) hrun (by omega)
  rw [cells22_len] at h
  exact h.mono fun e w' ⟨Q, h1, _, h2, h3⟩ => ⟨Q, h1, h2, h3⟩
theorem sp_pairsAt : PairsAt #[.int .u64 1, .int .u64 10] [(1#64, 10#64)] := by
  intro i p hp
  match i, hp with
  | 0, hp => cases hp; rfl
  | i + 1, hp => cases hp
theorem sp_region_cut {P : Program} {c : Code} {Q : Exit → Act → World → Prop} {a : Act} {w : World} (R : Act → Act → World → Prop) (h1 : c.wp P (fun e a' w' => e = .normal ∧ R a a' w') a w) (h2 : ∀ a' w', R a a' w' → Q .normal a' w') : c.wp P Q a w :=
  wp_mono h1 fun _ a' w' h => h.1 ▸ h2 a' w' h.2
theorem build_two (w : World) : (Instr.build 45 #[(0, .int .i64 1), (1, .int .i64 2)]).run Tryz.prog w = .ok (.agg #[.int .i64 1, .int .i64 2]) w := by kernel_rfl
attribute [local go_sem] build_two build_slice1
attribute [local irreducible] tcells sp0 sp1 sp4 sp5 spd spp cells22
theorem wakes22_any (w : World) : Calls Tryz.prog 22 #[] w fun e w' => e = .returned (.bool true) ∧ Ch [] w w' := by
  have N1 : ∀ w, Calls Tryz.prog 75 #[.int .i64 0, .int .u64 0] w fun e w' => e = .returned (.tuple #[.agg (tcells sp0), I 0]) ∧ Ch [] w w' := fun w => by
    have := New_any 0 0#64 w
    rw [sp_new] at this
    exact this
  have N5 : ∀ w, Calls Tryz.prog 75 #[.int .i64 5, .int .u64 0] w fun e w' => e = .returned (.tuple #[.agg (tcells spd), I 0]) ∧ Ch [] w w' := fun w => by
    have := New_any 5 0#64 w
    rw [sp_newd] at this
    exact this
  have P1 : ∀ (r : Nat) w, w.heap[r]? = some (.cells #[.int .u64 1, .int .u64 10] 31 (0, 0)) → Calls Tryz.prog 17 #[.int .u64 0, .agg (tcells sp0), .slice (some ⟨r, 0, none⟩) 1 1] w fun e w' => e = .returned (.tuple #[.agg (tcells sp1), I 0]) ∧ Ch [] w w' := fun r w h => by
    have := Puts_any sp0 0#64 [(1#64, 10#64)] (some ⟨r, 0, none⟩) 1 _ w (by decide) sp_pairsAt (fun _ => ⟨r, rfl⟩) (fun r' e => by cases e; exact h)
    rw [sp_puts, ifMay, if_pos sp_may0] at this
    exact this
  have B1 : ∀ w, Calls Tryz.prog 24 #[.int .i64 0, .int .i64 0, .agg #[.int .i64 1, .int .i64 2], .int .u64 0] w fun e w' => e = .returned (.tuple #[.agg (partC spp), I 0]) ∧ Ch [] w w' := fun w => by
    have := s22Begin_any 0 0 1 2 0#64 w
    rw [sp_begin] at this
    exact this
  have M1 : ∀ w, Calls Tryz.prog 49 #[.agg (partC spp)] w fun e w' => e = .returned (I 0) ∧ Ch [] w w' := fun w => by
    have := s22Many_any spp w
    rw [sp_many] at this
    exact this
  have L4 := fun w => cells22_ok sp4 sp_flat4 w
  have L5 := fun w => cells22_ok sp5 sp_flat5 w
  have LLd := fun w => cells22_ok spd sp_flatd w
  obtain ⟨l4, p4, h4, hp4, hl4⟩ := sp_run4
  obtain ⟨p5, h5, hp5⟩ := sp_run5
  obtain ⟨pd, hd, hpd⟩ := sp_rund
  have R4 := fun R w hb => run136 sp4 l4 p4 87 h4 (by omega) R w hb
  have R5 := fun R w hb => run136 sp5 _ p5 1 h5 (by omega) R w hb
  have RRd := fun R w hb => run136 spd _ pd 2 hd (by omega) R w hb
  have x4 : (p4.ph == 7) = true := by rw [hp4]; rfl
  have x5 : (p5.ph == 8) = true := by rw [hp5]; rfl
  have xd : (pd.ph == 9) = true := by rw [hpd]; rfl
  have y4 : (wcells l4)[16]? = some (U 5#64) := wcells_at l4 16 5#64 hl4
  obtain ⟨c4, hc4⟩ : ∃ c, wcells (cells22 sp4) = c := ⟨_, rfl⟩
  obtain ⟨c5, hc5⟩ : ∃ c, wcells (cells22 sp5) = c := ⟨_, rfl⟩
  obtain ⟨cd, hcd⟩ : ∃ c, wcells (cells22 spd) = c := ⟨_, rfl⟩
  obtain ⟨d4, hd4⟩ : ∃ c, wcells l4 = c := ⟨_, rfl⟩
  rw [hc4] at L4
  rw [hc5] at L5
  rw [hcd] at LLd
  simp only [hc4] at R4
  simp only [hc5] at R5
  simp only [hcd] at RRd
  rw [hd4] at y4
  simp only [hd4] at R4
  clear h4 hp4 hl4 h5 hp5 hd hpd hc4 hc5 hcd hd4
  go_enter Tryz.func22, Tryz.ntmps22
  go_wp2_with fail
  refine (N1 _).mono ?_
  rintro e w1 ⟨rfl, hc1⟩
  go_upto_region 2 with (fail)
  have T2 := tab_block22 w1 zeroT sp0
  have C2 := hc1.trans (tab_ch22 w1 zeroT sp0)
  obtain ⟨w2, hw2⟩ : ∃ W, World.onObj (w1.alloc (.cells (tcells zeroT) 26)) w1.heap.size (laidAt 0 (tcells sp0)) = W := ⟨_, rfl⟩
  rw [hw2] at T2 C2 ⊢
  clear hw2
  obtain ⟨T, hT⟩ : ∃ T, w1.heap.size = T := ⟨_, rfl⟩
  have hTw : w.heap.size ≤ T := by have := hc1.size; omega
  rw [hT] at T2 ⊢
  clear hT hc1 N1
  go_wp2_with fail
  have r3 : (w2.alloc (.cells #[.int .u64 1, .int .u64 10] 31)).heap[w2.heap.size]? = some (.cells #[.int .u64 1, .int .u64 10] 31 (0, 0)) := by rw [zae, if_pos rfl]
  have hc3 : Ch [] w2 (w2.alloc (.cells #[.int .u64 1, .int .u64 10] 31)) := (Ch.refl [] w2).alloc _
  have T3 := hkeep hc3 T2
  have C3 := C2.trans hc3
  refine (P1 _ _ r3).mono ?_
  rintro e w4 ⟨rfl, hc4⟩
  have T4 := hkeep hc4 T3
  have C4 := C3.trans hc4
  clear T2 C2 r3 hc3 T3 C3 hc4 P1
  go_upto_region 3 with (fail)
  have T5 : (World.onObj w4 T (laidAt 0 (tcells sp1))).heap[T]? = some (.cells (tcells sp1) 26 (0, 0)) := by rw [zab, if_pos rfl, T4, Option.map_some, zco]
  have C5 : Ch [] w (World.onObj w4 T (laidAt 0 (tcells sp1))) := C4.onObj (.inr hTw) _
  obtain ⟨w5, hw5⟩ : ∃ W, (World.onObj w4 T (laidAt 0 (tcells sp1))) = W := ⟨_, rfl⟩
  rw [hw5] at T5 C5 ⊢
  clear hw5 T4 C4
  go_upto_region 4 with (fail)
  have T6 : (w5.setCell ⟨T, 0, none⟩ (.int .u64 4)).heap[T]? = some (.cells (tcells sp4) 26 (0, 0)) := by rw [zaa, if_pos rfl, T5, Option.map_some, zaf]; exact congrArg (fun z => some (Obj.cells z 26 (0, 0))) ((tsetc22 sp1 4#64).trans (by rw [sp4]))
  have C6 : Ch [] w (w5.setCell ⟨T, 0, none⟩ (.int .u64 4)) := C5.setCell (p := ⟨T, 0, none⟩) (.inr hTw) _
  obtain ⟨w6, hw6⟩ : ∃ W, (w5.setCell ⟨T, 0, none⟩ (.int .u64 4)) = W := ⟨_, rfl⟩
  rw [hw6] at T6 C6 ⊢
  clear hw6 T5 C5
  go_wp2_with fail
  refine (B1 _).mono ?_
  rintro e w7 ⟨rfl, hc7⟩
  have T7 := hkeep hc7 T6
  have C7 := C6.trans hc7
  clear T6 C6 hc7 B1
  go_upto_region 5 with (fail)
  have hcp := zac spp w7
  have P8 := zbx spp w7
  have T8 := hkeep hcp T7
  have C8 := C7.trans hcp
  have lTP := zad T7
  have hPw := C7.size
  clear T7 C7 hcp
  obtain ⟨w8, hw8⟩ : ∃ W, World.onObj (w7.alloc (.cells (partC zeroPart) 51)) w7.heap.size (laidAt 0 (partC spp)) = W := ⟨_, rfl⟩
  rw [hw8] at P8 T8 C8 ⊢
  clear hw8
  obtain ⟨P, hP⟩ : ∃ P, w7.heap.size = P := ⟨_, rfl⟩
  rw [hP] at P8 lTP hPw ⊢
  clear hP
  refine sp_region_cut (fun a a' w' => ∃ (xr xt : Value) (X4 Q4 : Nat), a' = (((((((((((((a.put (some 39) (.agg (tcells sp4))).put (some 40) xr).put (some 41) (.agg (partC spp))).put (some 42) xt).put (some 38) xt).put (some 43) (.slice (some ⟨Q4, 0, none⟩) 136 136)).put (some 44) (.agg (partC p4))).put (some 45) (I (87 : Nat))).put (some 46) (I 0)).put (some 7) (.pointer (some ⟨X4, 0, none⟩))).put (some 6) (.slice (some ⟨Q4, 0, none⟩) 136 136)).put (some 8) (I (87 : Nat))).put (some 9) (I 0)) ∧ w'.heap[T]? = some (.cells (tcells sp4) 26 (0, 0)) ∧ w'.heap[P]? = some (.cells (partC spp) 51 (0, 0)) ∧ w'.heap[X4]? = some (.cells (partC p4) 51 (0, 0)) ∧ w'.heap[Q4]? = some (.cells d4 22 (0, 0)) ∧ Ch [] w w') ?_ ?_
  · have s : (fun W' : World => W'.heap[T]? = some (.cells (tcells sp4) 26 (0, 0)) ∧ W'.heap[P]? = some (.cells (partC spp) 51 (0, 0))) w8.drew := ⟨T8, P8⟩
    have Cd : Ch [] w w8.drew := C8.drew
    refine wp_region_held_drew (S := fun W' => W'.heap[T]? = some (.cells (tcells sp4) 26 (0, 0)) ∧ W'.heap[P]? = some (.cells (partC spp) 51 (0, 0))) (by kernel_rfl) s ?_
    intro _
    simp only [List.size_toArray, List.length_cons, List.length_nil, Nat.reduceAdd]
    obtain ⟨wd, hwd⟩ : ∃ W, w8.drew = W := ⟨_, rfl⟩
    rw [hwd] at s Cd  ⊢
    clear hwd
    refine wpAnyH_take (i := 0) (oi := ⟨some 39, _, _, _, _, none⟩) (v := ?_) rfl (by kernel_rfl) (by kernel_rfl) (by kernel_rfl) (fun _ _ _ h => by cases h.1) (Or.inl ⟨by rfl, ?_⟩) s ?_
    rotate_left
    · intro wq hSq
      obtain ⟨hSa, hSb⟩ := hSq
      first | (go_simp; done) | (go_simp; with_reducible rfl)
    try simp only [Act.put, List.setIfInBounds_toArray, List.set_cons_zero, List.set_cons_succ]
    refine wpAnyH_take (i := 2) (oi := ⟨some 41, _, _, _, _, none⟩) (v := ?_) rfl (by kernel_rfl) (by kernel_rfl) (by kernel_rfl) (fun _ _ _ h => by cases h.1) (Or.inl ⟨by rfl, ?_⟩) s ?_
    rotate_left
    · intro wq hSq
      obtain ⟨hSa, hSb⟩ := hSq
      first | (go_simp; done) | (go_simp; with_reducible rfl)
    try simp only [Act.put, List.setIfInBounds_toArray, List.set_cons_zero, List.set_cons_succ]
    refine wpAnyH_ready (rs := [1, 9]) (by kernel_rfl) (by simp) ?_
    refine AllReadyH.cons rfl (fun K hK => ?_) (AllReadyH.cons (o := ⟨some 7, _, _, _, _, none⟩) rfl (fun K hK => ?_) AllReadyH.nil)
    · go_simp
      refine (L4 _).mono ?_
      rintro e wr ⟨R, rfl, -, Rd, hr⟩
      have s' : (fun W' : World => W'.heap[T]? = some (.cells (tcells sp4) 26 (0, 0)) ∧ W'.heap[P]? = some (.cells (partC spp) 51 (0, 0))) wr := ⟨hkeep hr s.1, hkeep hr s.2⟩
      have C' := Cd.trans hr
      refine hK.out _ _ s' (fun _ => ?_)
      clear hK K s Cd  hr
      skip
      have s := s'
      have Cd := C'
      clear s' C' 
      refine wpAnyH_ready (rs := [3, 9]) (by kernel_rfl) (by simp) ?_
      refine AllReadyH.cons rfl (fun K hK => ?_) (AllReadyH.cons (o := ⟨some 7, _, _, _, _, none⟩) rfl (fun K hK => ?_) AllReadyH.nil)
      · go_simp
        refine (R4 _ _ Rd).mono ?_
        rintro e wq ⟨Q, rfl, Qd, hq⟩
        have s' : (fun W' : World => W'.heap[T]? = some (.cells (tcells sp4) 26 (0, 0)) ∧ W'.heap[P]? = some (.cells (partC spp) 51 (0, 0))) wq := ⟨hkeep hq s.1, hkeep hq s.2⟩
        have R' := hkeep hq Rd
        have C' := Cd.trans hq
        refine hK.out _ _ s' (fun _ => ?_)
        clear hK K s Cd Rd hq
        skip
        have s := s'
        have Cd := C'
        have Rd := R'
        clear s' C' R'
        clear Rd
        refine wpAnyH_take (i := 4) (oi := ⟨some 38, _, _, _, _, none⟩) (v := ?_) rfl (by kernel_rfl) (by kernel_rfl) (by kernel_rfl) (fun _ _ _ h => by cases h.1) (Or.inl ⟨by rfl, ?_⟩) s ?_
        rotate_left
        · intro wq hSq
          first | (go_simp; done) | (go_simp; with_reducible rfl)
        try simp only [Act.put, List.setIfInBounds_toArray, List.set_cons_zero, List.set_cons_succ]
        refine wpAnyH_take (i := 5) (oi := ⟨some 43, _, _, _, _, none⟩) (v := ?_) rfl (by kernel_rfl) (by kernel_rfl) (by kernel_rfl) (fun _ _ _ h => by cases h.1) (Or.inl ⟨by rfl, ?_⟩) s ?_
        rotate_left
        · intro wq hSq
          first | (go_simp; done) | (go_simp; with_reducible rfl)
        try simp only [Act.put, List.setIfInBounds_toArray, List.set_cons_zero, List.set_cons_succ]
        refine wpAnyH_take (i := 6) (oi := ⟨some 44, _, _, _, _, none⟩) (v := ?_) rfl (by kernel_rfl) (by kernel_rfl) (by kernel_rfl) (fun _ _ _ h => by cases h.1) (Or.inl ⟨by rfl, ?_⟩) s ?_
        rotate_left
        · intro wq hSq
          first | (go_simp; done) | (go_simp; with_reducible rfl)
        try simp only [Act.put, List.setIfInBounds_toArray, List.set_cons_zero, List.set_cons_succ]
        refine wpAnyH_take (i := 7) (oi := ⟨some 45, _, _, _, _, none⟩) (v := ?_) rfl (by kernel_rfl) (by kernel_rfl) (by kernel_rfl) (fun _ _ _ h => by cases h.1) (Or.inl ⟨by rfl, ?_⟩) s ?_
        rotate_left
        · intro wq hSq
          first | (go_simp; done) | (go_simp; with_reducible rfl)
        try simp only [Act.put, List.setIfInBounds_toArray, List.set_cons_zero, List.set_cons_succ]
        refine wpAnyH_take (i := 8) (oi := ⟨some 46, _, _, _, _, none⟩) (v := ?_) rfl (by kernel_rfl) (by kernel_rfl) (by kernel_rfl) (fun _ _ _ h => by cases h.1) (Or.inl ⟨by rfl, ?_⟩) s ?_
        rotate_left
        · intro wq hSq
          first | (go_simp; done) | (go_simp; with_reducible rfl)
        try simp only [Act.put, List.setIfInBounds_toArray, List.set_cons_zero, List.set_cons_succ]
        refine rd (o := ⟨some 7, _, _, _, _, none⟩) 9 rfl (fun K hK => ?_); go_simp
        have hx : Ch [] wq (wq.alloc (.cells (partC zeroPart) 51)) := (Ch.refl [] wq).alloc _
        have Xd : (wq.alloc (.cells (partC zeroPart) 51)).heap[wq.heap.size]? = some (.cells (partC zeroPart) 51 (0, 0)) := by rw [zae, if_pos rfl]
        have hXw := Cd.size
        have lT := zad s.1
        have lP := zad s.2
        obtain ⟨wx, hwx⟩ : ∃ W, wq.alloc (.cells (partC zeroPart) 51) = W := ⟨_, rfl⟩
        rw [hwx] at hx Xd ⊢
        clear hwx
        obtain ⟨X, hX⟩ : ∃ X, wq.heap.size = X := ⟨_, rfl⟩
        rw [hX] at Xd hXw lT lP  ⊢
        clear hX
        have s' : (fun W' : World => W'.heap[T]? = some (.cells (tcells sp4) 26 (0, 0)) ∧ W'.heap[P]? = some (.cells (partC spp) 51 (0, 0))) wx := ⟨hkeep hx s.1, hkeep hx s.2⟩
        have Q' := hkeep hx Qd
        have C' := Cd.trans hx
        refine hK.out _ _ s' (fun _ => ?_)
        clear hK K s Cd Qd hx
        skip
        have s := s'
        have Cd := C'
        have Qd := Q'
        clear s' C' Q'
        refine wpAnyH_take (i := 10) (oi := ⟨some 6, _, _, _, _, none⟩) (v := ?_) rfl (by kernel_rfl) (by kernel_rfl) (by kernel_rfl) (fun _ _ _ h => by cases h.1) (Or.inl ⟨by rfl, ?_⟩) s ?_
        rotate_left
        · intro wq hSq
          first | (go_simp; done) | (go_simp; with_reducible rfl)
        try simp only [Act.put, List.setIfInBounds_toArray, List.set_cons_zero, List.set_cons_succ]
        refine rd 11 rfl (fun K hK => ?_); go_simp
        have nT : ¬ T = X := by omega
        have nP : ¬ P = X := by omega
        have nQ : ¬ Q = X := zcq Qd Xd (by decide)
        have s' : (fun W' : World => W'.heap[T]? = some (.cells (tcells sp4) 26 (0, 0)) ∧ W'.heap[P]? = some (.cells (partC spp) 51 (0, 0))) (World.onObj wx X (laidAt 0 (partC p4))) := ⟨(zan (w := wx) (F := X) (laidAt 0 (partC p4)) nT).trans s.1, (zan (w := wx) (F := X) (laidAt 0 (partC p4)) nP).trans s.2⟩
        have Q' := (zan (w := wx) (F := X) (laidAt 0 (partC p4)) nQ).trans Qd
        have X' : (World.onObj wx X (laidAt 0 (partC p4))).heap[X]? = some (.cells (partC p4) 51 (0, 0)) := by rw [zab, if_pos rfl, Xd, Option.map_some, zag]
        have C' : Ch [] w (World.onObj wx X (laidAt 0 (partC p4))) := Cd.onObj (p := X) (.inr hXw) _
        refine hK.out _ _ s' (fun _ => ?_)
        clear hK K s Cd Xd
        generalize (World.onObj wx X (laidAt 0 (partC p4))) = wz at *
        refine wpAnyH_take (i := 12) (oi := ⟨some 8, _, _, _, _, none⟩) (v := ?_) rfl (by kernel_rfl) (by kernel_rfl) (by kernel_rfl) (fun _ _ _ h => by cases h.1) (Or.inl ⟨by rfl, ?_⟩) s' ?_
        rotate_left
        · intro wq hSq
          first | (go_simp; done) | (go_simp; with_reducible rfl)
        try simp only [Act.put, List.setIfInBounds_toArray, List.set_cons_zero, List.set_cons_succ]
        refine wpAnyH_take (i := 13) (oi := ⟨some 9, _, _, _, _, none⟩) (v := ?_) rfl (by kernel_rfl) (by kernel_rfl) (by kernel_rfl) (fun _ _ _ h => by cases h.1) (Or.inl ⟨by rfl, ?_⟩) s' ?_
        rotate_left
        · intro wq hSq
          first | (go_simp; done) | (go_simp; with_reducible rfl)
        try simp only [Act.put, List.setIfInBounds_toArray, List.set_cons_zero, List.set_cons_succ]
        refine wpAnyH_done (by kernel_rfl) ?_ _
        exact ⟨rfl, _, _, X, Q, rfl, s'.1, s'.2, X', Q', C'⟩
      · go_simp
        have hx : Ch [] wr (wr.alloc (.cells (partC zeroPart) 51)) := (Ch.refl [] wr).alloc _
        have Xd : (wr.alloc (.cells (partC zeroPart) 51)).heap[wr.heap.size]? = some (.cells (partC zeroPart) 51 (0, 0)) := by rw [zae, if_pos rfl]
        have hXw := Cd.size
        have lT := zad s.1
        have lP := zad s.2
        obtain ⟨wx, hwx⟩ : ∃ W, wr.alloc (.cells (partC zeroPart) 51) = W := ⟨_, rfl⟩
        rw [hwx] at hx Xd ⊢
        clear hwx
        obtain ⟨X, hX⟩ : ∃ X, wr.heap.size = X := ⟨_, rfl⟩
        rw [hX] at Xd hXw lT lP  ⊢
        clear hX
        have s' : (fun W' : World => W'.heap[T]? = some (.cells (tcells sp4) 26 (0, 0)) ∧ W'.heap[P]? = some (.cells (partC spp) 51 (0, 0))) wx := ⟨hkeep hx s.1, hkeep hx s.2⟩
        have R' := hkeep hx Rd
        have C' := Cd.trans hx
        refine hK.out _ _ s' (fun _ => ?_)
        clear hK K s Cd Rd hx
        skip
        have s := s'
        have Cd := C'
        have Rd := R'
        clear s' C' R'
        refine rd (o := ⟨some 42, _, _, _, _, none⟩) 3 rfl (fun K hK => ?_); go_simp
        refine (R4 _ _ Rd).mono ?_
        rintro e wq ⟨Q, rfl, Qd, hq⟩
        have s' : (fun W' : World => W'.heap[T]? = some (.cells (tcells sp4) 26 (0, 0)) ∧ W'.heap[P]? = some (.cells (partC spp) 51 (0, 0))) wq := ⟨hkeep hq s.1, hkeep hq s.2⟩
        have R' := hkeep hq Rd
        have X' := hkeep hq Xd
        have C' := Cd.trans hq
        refine hK.out _ _ s' (fun _ => ?_)
        clear hK K s Cd Rd Xd hq
        skip
        have s := s'
        have Cd := C'
        have Rd := R'
        have Xd := X'
        clear s' C' R' X'
        clear Rd
        refine wpAnyH_take (i := 4) (oi := ⟨some 38, _, _, _, _, none⟩) (v := ?_) rfl (by kernel_rfl) (by kernel_rfl) (by kernel_rfl) (fun _ _ _ h => by cases h.1) (Or.inl ⟨by rfl, ?_⟩) s ?_
        rotate_left
        · intro wq hSq
          first | (go_simp; done) | (go_simp; with_reducible rfl)
        try simp only [Act.put, List.setIfInBounds_toArray, List.set_cons_zero, List.set_cons_succ]
        refine wpAnyH_take (i := 5) (oi := ⟨some 43, _, _, _, _, none⟩) (v := ?_) rfl (by kernel_rfl) (by kernel_rfl) (by kernel_rfl) (fun _ _ _ h => by cases h.1) (Or.inl ⟨by rfl, ?_⟩) s ?_
        rotate_left
        · intro wq hSq
          first | (go_simp; done) | (go_simp; with_reducible rfl)
        try simp only [Act.put, List.setIfInBounds_toArray, List.set_cons_zero, List.set_cons_succ]
        refine wpAnyH_take (i := 6) (oi := ⟨some 44, _, _, _, _, none⟩) (v := ?_) rfl (by kernel_rfl) (by kernel_rfl) (by kernel_rfl) (fun _ _ _ h => by cases h.1) (Or.inl ⟨by rfl, ?_⟩) s ?_
        rotate_left
        · intro wq hSq
          first | (go_simp; done) | (go_simp; with_reducible rfl)
        try simp only [Act.put, List.setIfInBounds_toArray, List.set_cons_zero, List.set_cons_succ]
        refine wpAnyH_take (i := 7) (oi := ⟨some 45, _, _, _, _, none⟩) (v := ?_) rfl (by kernel_rfl) (by kernel_rfl) (by kernel_rfl) (fun _ _ _ h => by cases h.1) (Or.inl ⟨by rfl, ?_⟩) s ?_
        rotate_left
        · intro wq hSq
          first | (go_simp; done) | (go_simp; with_reducible rfl)
        try simp only [Act.put, List.setIfInBounds_toArray, List.set_cons_zero, List.set_cons_succ]
        refine wpAnyH_take (i := 8) (oi := ⟨some 46, _, _, _, _, none⟩) (v := ?_) rfl (by kernel_rfl) (by kernel_rfl) (by kernel_rfl) (fun _ _ _ h => by cases h.1) (Or.inl ⟨by rfl, ?_⟩) s ?_
        rotate_left
        · intro wq hSq
          first | (go_simp; done) | (go_simp; with_reducible rfl)
        try simp only [Act.put, List.setIfInBounds_toArray, List.set_cons_zero, List.set_cons_succ]
        refine wpAnyH_take (i := 10) (oi := ⟨some 6, _, _, _, _, none⟩) (v := ?_) rfl (by kernel_rfl) (by kernel_rfl) (by kernel_rfl) (fun _ _ _ h => by cases h.1) (Or.inl ⟨by rfl, ?_⟩) s ?_
        rotate_left
        · intro wq hSq
          first | (go_simp; done) | (go_simp; with_reducible rfl)
        try simp only [Act.put, List.setIfInBounds_toArray, List.set_cons_zero, List.set_cons_succ]
        refine rd 11 rfl (fun K hK => ?_); go_simp
        have nT : ¬ T = X := by omega
        have nP : ¬ P = X := by omega
        have nQ : ¬ Q = X := zcq Qd Xd (by decide)
        have s' : (fun W' : World => W'.heap[T]? = some (.cells (tcells sp4) 26 (0, 0)) ∧ W'.heap[P]? = some (.cells (partC spp) 51 (0, 0))) (World.onObj wq X (laidAt 0 (partC p4))) := ⟨(zan (w := wq) (F := X) (laidAt 0 (partC p4)) nT).trans s.1, (zan (w := wq) (F := X) (laidAt 0 (partC p4)) nP).trans s.2⟩
        have Q' := (zan (w := wq) (F := X) (laidAt 0 (partC p4)) nQ).trans Qd
        have X' : (World.onObj wq X (laidAt 0 (partC p4))).heap[X]? = some (.cells (partC p4) 51 (0, 0)) := by rw [zab, if_pos rfl, Xd, Option.map_some, zag]
        have C' : Ch [] w (World.onObj wq X (laidAt 0 (partC p4))) := Cd.onObj (p := X) (.inr hXw) _
        refine hK.out _ _ s' (fun _ => ?_)
        clear hK K s Cd Xd
        generalize (World.onObj wq X (laidAt 0 (partC p4))) = wz at *
        refine wpAnyH_take (i := 12) (oi := ⟨some 8, _, _, _, _, none⟩) (v := ?_) rfl (by kernel_rfl) (by kernel_rfl) (by kernel_rfl) (fun _ _ _ h => by cases h.1) (Or.inl ⟨by rfl, ?_⟩) s' ?_
        rotate_left
        · intro wq hSq
          first | (go_simp; done) | (go_simp; with_reducible rfl)
        try simp only [Act.put, List.setIfInBounds_toArray, List.set_cons_zero, List.set_cons_succ]
        refine wpAnyH_take (i := 13) (oi := ⟨some 9, _, _, _, _, none⟩) (v := ?_) rfl (by kernel_rfl) (by kernel_rfl) (by kernel_rfl) (fun _ _ _ h => by cases h.1) (Or.inl ⟨by rfl, ?_⟩) s' ?_
        rotate_left
        · intro wq hSq
          first | (go_simp; done) | (go_simp; with_reducible rfl)
        try simp only [Act.put, List.setIfInBounds_toArray, List.set_cons_zero, List.set_cons_succ]
        refine wpAnyH_done (by kernel_rfl) ?_ _
        exact ⟨rfl, _, _, X, Q, rfl, s'.1, s'.2, X', Q', C'⟩
    · go_simp
      have hx : Ch [] wd (wd.alloc (.cells (partC zeroPart) 51)) := (Ch.refl [] wd).alloc _
      have Xd : (wd.alloc (.cells (partC zeroPart) 51)).heap[wd.heap.size]? = some (.cells (partC zeroPart) 51 (0, 0)) := by rw [zae, if_pos rfl]
      have hXw := Cd.size
      have lT := zad s.1
      have lP := zad s.2
      obtain ⟨wx, hwx⟩ : ∃ W, wd.alloc (.cells (partC zeroPart) 51) = W := ⟨_, rfl⟩
      rw [hwx] at hx Xd ⊢
      clear hwx
      obtain ⟨X, hX⟩ : ∃ X, wd.heap.size = X := ⟨_, rfl⟩
      rw [hX] at Xd hXw lT lP  ⊢
      clear hX
      have s' : (fun W' : World => W'.heap[T]? = some (.cells (tcells sp4) 26 (0, 0)) ∧ W'.heap[P]? = some (.cells (partC spp) 51 (0, 0))) wx := ⟨hkeep hx s.1, hkeep hx s.2⟩
      have C' := Cd.trans hx
      refine hK.out _ _ s' (fun _ => ?_)
      clear hK K s Cd  hx
      skip
      have s := s'
      have Cd := C'
      clear s' C' 
      refine rd (o := ⟨some 40, _, _, _, _, none⟩) 1 rfl (fun K hK => ?_); go_simp
      refine (L4 _).mono ?_
      rintro e wr ⟨R, rfl, -, Rd, hr⟩
      have s' : (fun W' : World => W'.heap[T]? = some (.cells (tcells sp4) 26 (0, 0)) ∧ W'.heap[P]? = some (.cells (partC spp) 51 (0, 0))) wr := ⟨hkeep hr s.1, hkeep hr s.2⟩
      have X' := hkeep hr Xd
      have C' := Cd.trans hr
      refine hK.out _ _ s' (fun _ => ?_)
      clear hK K s Cd Xd hr
      skip
      have s := s'
      have Cd := C'
      have Xd := X'
      clear s' C' X'
      refine rd (o := ⟨some 42, _, _, _, _, none⟩) 3 rfl (fun K hK => ?_); go_simp
      refine (R4 _ _ Rd).mono ?_
      rintro e wq ⟨Q, rfl, Qd, hq⟩
      have s' : (fun W' : World => W'.heap[T]? = some (.cells (tcells sp4) 26 (0, 0)) ∧ W'.heap[P]? = some (.cells (partC spp) 51 (0, 0))) wq := ⟨hkeep hq s.1, hkeep hq s.2⟩
      have X' := hkeep hq Xd
      have R' := hkeep hq Rd
      have C' := Cd.trans hq
      refine hK.out _ _ s' (fun _ => ?_)
      clear hK K s Cd Xd Rd hq
      skip
      have s := s'
      have Cd := C'
      have Xd := X'
      have Rd := R'
      clear s' C' X' R'
      clear Rd
      refine wpAnyH_take (i := 4) (oi := ⟨some 38, _, _, _, _, none⟩) (v := ?_) rfl (by kernel_rfl) (by kernel_rfl) (by kernel_rfl) (fun _ _ _ h => by cases h.1) (Or.inl ⟨by rfl, ?_⟩) s ?_
      rotate_left
      · intro wq hSq
        first | (go_simp; done) | (go_simp; with_reducible rfl)
      try simp only [Act.put, List.setIfInBounds_toArray, List.set_cons_zero, List.set_cons_succ]
      refine wpAnyH_take (i := 5) (oi := ⟨some 43, _, _, _, _, none⟩) (v := ?_) rfl (by kernel_rfl) (by kernel_rfl) (by kernel_rfl) (fun _ _ _ h => by cases h.1) (Or.inl ⟨by rfl, ?_⟩) s ?_
      rotate_left
      · intro wq hSq
        first | (go_simp; done) | (go_simp; with_reducible rfl)
      try simp only [Act.put, List.setIfInBounds_toArray, List.set_cons_zero, List.set_cons_succ]
      refine wpAnyH_take (i := 6) (oi := ⟨some 44, _, _, _, _, none⟩) (v := ?_) rfl (by kernel_rfl) (by kernel_rfl) (by kernel_rfl) (fun _ _ _ h => by cases h.1) (Or.inl ⟨by rfl, ?_⟩) s ?_
      rotate_left
      · intro wq hSq
        first | (go_simp; done) | (go_simp; with_reducible rfl)
      try simp only [Act.put, List.setIfInBounds_toArray, List.set_cons_zero, List.set_cons_succ]
      refine wpAnyH_take (i := 7) (oi := ⟨some 45, _, _, _, _, none⟩) (v := ?_) rfl (by kernel_rfl) (by kernel_rfl) (by kernel_rfl) (fun _ _ _ h => by cases h.1) (Or.inl ⟨by rfl, ?_⟩) s ?_
      rotate_left
      · intro wq hSq
        first | (go_simp; done) | (go_simp; with_reducible rfl)
      try simp only [Act.put, List.setIfInBounds_toArray, List.set_cons_zero, List.set_cons_succ]
      refine wpAnyH_take (i := 8) (oi := ⟨some 46, _, _, _, _, none⟩) (v := ?_) rfl (by kernel_rfl) (by kernel_rfl) (by kernel_rfl) (fun _ _ _ h => by cases h.1) (Or.inl ⟨by rfl, ?_⟩) s ?_
      rotate_left
      · intro wq hSq
        first | (go_simp; done) | (go_simp; with_reducible rfl)
      try simp only [Act.put, List.setIfInBounds_toArray, List.set_cons_zero, List.set_cons_succ]
      refine wpAnyH_take (i := 10) (oi := ⟨some 6, _, _, _, _, none⟩) (v := ?_) rfl (by kernel_rfl) (by kernel_rfl) (by kernel_rfl) (fun _ _ _ h => by cases h.1) (Or.inl ⟨by rfl, ?_⟩) s ?_
      rotate_left
      · intro wq hSq
        first | (go_simp; done) | (go_simp; with_reducible rfl)
      try simp only [Act.put, List.setIfInBounds_toArray, List.set_cons_zero, List.set_cons_succ]
      refine rd 11 rfl (fun K hK => ?_); go_simp
      have nT : ¬ T = X := by omega
      have nP : ¬ P = X := by omega
      have nQ : ¬ Q = X := zcq Qd Xd (by decide)
      have s' : (fun W' : World => W'.heap[T]? = some (.cells (tcells sp4) 26 (0, 0)) ∧ W'.heap[P]? = some (.cells (partC spp) 51 (0, 0))) (World.onObj wq X (laidAt 0 (partC p4))) := ⟨(zan (w := wq) (F := X) (laidAt 0 (partC p4)) nT).trans s.1, (zan (w := wq) (F := X) (laidAt 0 (partC p4)) nP).trans s.2⟩
      have Q' := (zan (w := wq) (F := X) (laidAt 0 (partC p4)) nQ).trans Qd
      have X' : (World.onObj wq X (laidAt 0 (partC p4))).heap[X]? = some (.cells (partC p4) 51 (0, 0)) := by rw [zab, if_pos rfl, Xd, Option.map_some, zag]
      have C' : Ch [] w (World.onObj wq X (laidAt 0 (partC p4))) := Cd.onObj (p := X) (.inr hXw) _
      refine hK.out _ _ s' (fun _ => ?_)
      clear hK K s Cd Xd
      generalize (World.onObj wq X (laidAt 0 (partC p4))) = wz at *
      refine wpAnyH_take (i := 12) (oi := ⟨some 8, _, _, _, _, none⟩) (v := ?_) rfl (by kernel_rfl) (by kernel_rfl) (by kernel_rfl) (fun _ _ _ h => by cases h.1) (Or.inl ⟨by rfl, ?_⟩) s' ?_
      rotate_left
      · intro wq hSq
        first | (go_simp; done) | (go_simp; with_reducible rfl)
      try simp only [Act.put, List.setIfInBounds_toArray, List.set_cons_zero, List.set_cons_succ]
      refine wpAnyH_take (i := 13) (oi := ⟨some 9, _, _, _, _, none⟩) (v := ?_) rfl (by kernel_rfl) (by kernel_rfl) (by kernel_rfl) (fun _ _ _ h => by cases h.1) (Or.inl ⟨by rfl, ?_⟩) s' ?_
      rotate_left
      · intro wq hSq
        first | (go_simp; done) | (go_simp; with_reducible rfl)
      try simp only [Act.put, List.setIfInBounds_toArray, List.set_cons_zero, List.set_cons_succ]
      refine wpAnyH_done (by kernel_rfl) ?_ _
      exact ⟨rfl, _, _, X, Q, rfl, s'.1, s'.2, X', Q', C'⟩
  rintro a' w9 ⟨xr, xt, X4, Q4, rfl, T9, P9, X49, Q49, C9⟩
  try simp only [Act.put, List.setIfInBounds_toArray, List.set_cons_zero, List.set_cons_succ]
  clear T8 P8 C8
  have nT := nsz T9
  have nP := nsz P9
  have nX4 := nsz X49
  have nQ4 := nsz Q49
  go_upto_region 7 with (fail)
  clear nT nP nX4 nQ4
  have hcq := tab_ch22 w9 zeroT sp4
  have O10 := tab_block22 w9 zeroT sp4
  have T10 := hkeep hcq T9
  have lT := zad T9
  have P10 := hkeep hcq P9
  have lP := zad P9
  have X410 := hkeep hcq X49
  have lX4 := zad X49
  have Q410 := hkeep hcq Q49
  have lQ4 := zad Q49
  have C10 := C9.trans hcq
  have hOw := C9.size
  clear T9 P9 X49 Q49 C9 hcq
  obtain ⟨w10, hw10⟩ : ∃ W, World.onObj (w9.alloc (.cells (tcells zeroT) 26)) w9.heap.size (laidAt 0 (tcells sp4)) = W := ⟨_, rfl⟩
  rw [hw10] at O10 T10 P10 X410 Q410 C10 ⊢
  clear hw10
  obtain ⟨O, hO⟩ : ∃ b, w9.heap.size = b := ⟨_, rfl⟩
  rw [hO] at O10 hOw lT lP lX4 lQ4 ⊢
  clear hO
  go_upto_region 8 with (fail)
  have O11 : (w10.setCell ⟨O, 0, none⟩ (.int .u64 5)).heap[O]? = some (.cells (tcells sp5) 26 (0, 0)) := by rw [zaa, if_pos rfl, O10, Option.map_some, zaf]; exact congrArg (fun z => some (Obj.cells z 26 (0, 0))) ((tsetc22 sp4 5#64).trans (by rw [sp4, sp5]))
  have T11 : (w10.setCell ⟨O, 0, none⟩ (.int .u64 5)).heap[T]? = some (.cells (tcells sp4) 26 (0, 0)) := (setCell_other O 0 (.int .u64 5) (show T ≠ O by omega)).trans T10
  have P11 : (w10.setCell ⟨O, 0, none⟩ (.int .u64 5)).heap[P]? = some (.cells (partC spp) 51 (0, 0)) := (setCell_other O 0 (.int .u64 5) (show P ≠ O by omega)).trans P10
  have X411 : (w10.setCell ⟨O, 0, none⟩ (.int .u64 5)).heap[X4]? = some (.cells (partC p4) 51 (0, 0)) := (setCell_other O 0 (.int .u64 5) (show X4 ≠ O by omega)).trans X410
  have Q411 : (w10.setCell ⟨O, 0, none⟩ (.int .u64 5)).heap[Q4]? = some (.cells d4 22 (0, 0)) := (setCell_other O 0 (.int .u64 5) (show Q4 ≠ O by omega)).trans Q410
  have C11 : Ch [] w (w10.setCell ⟨O, 0, none⟩ (.int .u64 5)) := C10.setCell (p := ⟨O, 0, none⟩) (.inr hOw) _
  clear T10 P10 X410 Q410 O10 C10
  obtain ⟨w11, hw11⟩ : ∃ W, (w10.setCell ⟨O, 0, none⟩ (.int .u64 5)) = W := ⟨_, rfl⟩
  rw [hw11] at T11 P11 X411 Q411 O11 C11 ⊢
  clear hw11 lT lP lX4 lQ4 T11
  go_upto_region 8 with (fail)
  have T11 := O11
  clear O11
  refine sp_region_cut (fun a a' w' => ∃ (xr xt : Value) (X5 Q5 : Nat), a' = (((((((((((((a.put (some 50) (.agg (tcells sp5))).put (some 51) xr).put (some 52) (.agg (partC spp))).put (some 53) xt).put (some 49) xt).put (some 54) (.slice (some ⟨Q5, 0, none⟩) 136 136)).put (some 55) (.agg (partC p5))).put (some 56) (I (1 : Nat))).put (some 57) (I 0)).put (some 12) (.pointer (some ⟨X5, 0, none⟩))).put (some 11) (.slice (some ⟨Q5, 0, none⟩) 136 136)).put (some 13) (I (1 : Nat))).put (some 14) (I 0)) ∧ w'.heap[O]? = some (.cells (tcells sp5) 26 (0, 0)) ∧ w'.heap[P]? = some (.cells (partC spp) 51 (0, 0)) ∧ w'.heap[X4]? = some (.cells (partC p4) 51 (0, 0)) ∧ w'.heap[Q4]? = some (.cells d4 22 (0, 0)) ∧ w'.heap[X5]? = some (.cells (partC p5) 51 (0, 0)) ∧ w'.heap[Q5]? = some (.cells c5 22 (0, 0)) ∧ Ch [] w w') ?_ ?_
  · have s : (fun W' : World => W'.heap[O]? = some (.cells (tcells sp5) 26 (0, 0)) ∧ W'.heap[P]? = some (.cells (partC spp) 51 (0, 0))) w11.drew := ⟨T11, P11⟩
    have X4d : w11.drew.heap[X4]? = some (.cells (partC p4) 51 (0, 0)) := X411
    have Q4d : w11.drew.heap[Q4]? = some (.cells d4 22 (0, 0)) := Q411
    have Cd : Ch [] w w11.drew := C11.drew
    refine wp_region_held_drew (S := fun W' => W'.heap[O]? = some (.cells (tcells sp5) 26 (0, 0)) ∧ W'.heap[P]? = some (.cells (partC spp) 51 (0, 0))) (by kernel_rfl) s ?_
    intro _
    simp only [List.size_toArray, List.length_cons, List.length_nil, Nat.reduceAdd]
    obtain ⟨wd, hwd⟩ : ∃ W, w11.drew = W := ⟨_, rfl⟩
    rw [hwd] at s Cd X4d Q4d ⊢
    clear hwd
    refine wpAnyH_take (i := 0) (oi := ⟨some 50, _, _, _, _, none⟩) (v := ?_) rfl (by kernel_rfl) (by kernel_rfl) (by kernel_rfl) (fun _ _ _ h => by cases h.1) (Or.inl ⟨by rfl, ?_⟩) s ?_
    rotate_left
    · intro wq hSq
      obtain ⟨hSa, hSb⟩ := hSq
      first | (go_simp; done) | (go_simp; with_reducible rfl)
    try simp only [Act.put, List.setIfInBounds_toArray, List.set_cons_zero, List.set_cons_succ]
    refine wpAnyH_take (i := 2) (oi := ⟨some 52, _, _, _, _, none⟩) (v := ?_) rfl (by kernel_rfl) (by kernel_rfl) (by kernel_rfl) (fun _ _ _ h => by cases h.1) (Or.inl ⟨by rfl, ?_⟩) s ?_
    rotate_left
    · intro wq hSq
      obtain ⟨hSa, hSb⟩ := hSq
      first | (go_simp; done) | (go_simp; with_reducible rfl)
    try simp only [Act.put, List.setIfInBounds_toArray, List.set_cons_zero, List.set_cons_succ]
    refine wpAnyH_ready (rs := [1, 9]) (by kernel_rfl) (by simp) ?_
    refine AllReadyH.cons rfl (fun K hK => ?_) (AllReadyH.cons (o := ⟨some 12, _, _, _, _, none⟩) rfl (fun K hK => ?_) AllReadyH.nil)
    · go_simp
      refine (L5 _).mono ?_
      rintro e wr ⟨R, rfl, -, Rd, hr⟩
      have s' : (fun W' : World => W'.heap[O]? = some (.cells (tcells sp5) 26 (0, 0)) ∧ W'.heap[P]? = some (.cells (partC spp) 51 (0, 0))) wr := ⟨hkeep hr s.1, hkeep hr s.2⟩
      have X4' := hkeep hr X4d
      have Q4' := hkeep hr Q4d
      have C' := Cd.trans hr
      refine hK.out _ _ s' (fun _ => ?_)
      clear hK K s Cd X4d Q4d hr
      skip
      have s := s'
      have Cd := C'
      have X4d := X4'
      have Q4d := Q4'
      clear s' C' X4' Q4'
      refine wpAnyH_ready (rs := [3, 9]) (by kernel_rfl) (by simp) ?_
      refine AllReadyH.cons rfl (fun K hK => ?_) (AllReadyH.cons (o := ⟨some 12, _, _, _, _, none⟩) rfl (fun K hK => ?_) AllReadyH.nil)
      · go_simp
        refine (R5 _ _ Rd).mono ?_
        rintro e wq ⟨Q, rfl, Qd, hq⟩
        have s' : (fun W' : World => W'.heap[O]? = some (.cells (tcells sp5) 26 (0, 0)) ∧ W'.heap[P]? = some (.cells (partC spp) 51 (0, 0))) wq := ⟨hkeep hq s.1, hkeep hq s.2⟩
        have X4' := hkeep hq X4d
        have Q4' := hkeep hq Q4d
        have R' := hkeep hq Rd
        have C' := Cd.trans hq
        refine hK.out _ _ s' (fun _ => ?_)
        clear hK K s Cd X4d Q4d Rd hq
        skip
        have s := s'
        have Cd := C'
        have X4d := X4'
        have Q4d := Q4'
        have Rd := R'
        clear s' C' X4' Q4' R'
        clear Rd
        refine wpAnyH_take (i := 4) (oi := ⟨some 49, _, _, _, _, none⟩) (v := ?_) rfl (by kernel_rfl) (by kernel_rfl) (by kernel_rfl) (fun _ _ _ h => by cases h.1) (Or.inl ⟨by rfl, ?_⟩) s ?_
        rotate_left
        · intro wq hSq
          first | (go_simp; done) | (go_simp; with_reducible rfl)
        try simp only [Act.put, List.setIfInBounds_toArray, List.set_cons_zero, List.set_cons_succ]
        refine wpAnyH_take (i := 5) (oi := ⟨some 54, _, _, _, _, none⟩) (v := ?_) rfl (by kernel_rfl) (by kernel_rfl) (by kernel_rfl) (fun _ _ _ h => by cases h.1) (Or.inl ⟨by rfl, ?_⟩) s ?_
        rotate_left
        · intro wq hSq
          first | (go_simp; done) | (go_simp; with_reducible rfl)
        try simp only [Act.put, List.setIfInBounds_toArray, List.set_cons_zero, List.set_cons_succ]
        refine wpAnyH_take (i := 6) (oi := ⟨some 55, _, _, _, _, none⟩) (v := ?_) rfl (by kernel_rfl) (by kernel_rfl) (by kernel_rfl) (fun _ _ _ h => by cases h.1) (Or.inl ⟨by rfl, ?_⟩) s ?_
        rotate_left
        · intro wq hSq
          first | (go_simp; done) | (go_simp; with_reducible rfl)
        try simp only [Act.put, List.setIfInBounds_toArray, List.set_cons_zero, List.set_cons_succ]
        refine wpAnyH_take (i := 7) (oi := ⟨some 56, _, _, _, _, none⟩) (v := ?_) rfl (by kernel_rfl) (by kernel_rfl) (by kernel_rfl) (fun _ _ _ h => by cases h.1) (Or.inl ⟨by rfl, ?_⟩) s ?_
        rotate_left
        · intro wq hSq
          first | (go_simp; done) | (go_simp; with_reducible rfl)
        try simp only [Act.put, List.setIfInBounds_toArray, List.set_cons_zero, List.set_cons_succ]
        refine wpAnyH_take (i := 8) (oi := ⟨some 57, _, _, _, _, none⟩) (v := ?_) rfl (by kernel_rfl) (by kernel_rfl) (by kernel_rfl) (fun _ _ _ h => by cases h.1) (Or.inl ⟨by rfl, ?_⟩) s ?_
        rotate_left
        · intro wq hSq
          first | (go_simp; done) | (go_simp; with_reducible rfl)
        try simp only [Act.put, List.setIfInBounds_toArray, List.set_cons_zero, List.set_cons_succ]
        refine rd (o := ⟨some 12, _, _, _, _, none⟩) 9 rfl (fun K hK => ?_); go_simp
        have hx : Ch [] wq (wq.alloc (.cells (partC zeroPart) 51)) := (Ch.refl [] wq).alloc _
        have Xd : (wq.alloc (.cells (partC zeroPart) 51)).heap[wq.heap.size]? = some (.cells (partC zeroPart) 51 (0, 0)) := by rw [zae, if_pos rfl]
        have hXw := Cd.size
        have lT := zad s.1
        have lP := zad s.2
        have lX4 := zad X4d
        have lQ4 := zad Q4d
        obtain ⟨wx, hwx⟩ : ∃ W, wq.alloc (.cells (partC zeroPart) 51) = W := ⟨_, rfl⟩
        rw [hwx] at hx Xd ⊢
        clear hwx
        obtain ⟨X, hX⟩ : ∃ X, wq.heap.size = X := ⟨_, rfl⟩
        rw [hX] at Xd hXw lT lP lX4 lQ4 ⊢
        clear hX
        have s' : (fun W' : World => W'.heap[O]? = some (.cells (tcells sp5) 26 (0, 0)) ∧ W'.heap[P]? = some (.cells (partC spp) 51 (0, 0))) wx := ⟨hkeep hx s.1, hkeep hx s.2⟩
        have X4' := hkeep hx X4d
        have Q4' := hkeep hx Q4d
        have Q' := hkeep hx Qd
        have C' := Cd.trans hx
        refine hK.out _ _ s' (fun _ => ?_)
        clear hK K s Cd X4d Q4d Qd hx
        skip
        have s := s'
        have Cd := C'
        have X4d := X4'
        have Q4d := Q4'
        have Qd := Q'
        clear s' C' X4' Q4' Q'
        refine wpAnyH_take (i := 10) (oi := ⟨some 11, _, _, _, _, none⟩) (v := ?_) rfl (by kernel_rfl) (by kernel_rfl) (by kernel_rfl) (fun _ _ _ h => by cases h.1) (Or.inl ⟨by rfl, ?_⟩) s ?_
        rotate_left
        · intro wq hSq
          first | (go_simp; done) | (go_simp; with_reducible rfl)
        try simp only [Act.put, List.setIfInBounds_toArray, List.set_cons_zero, List.set_cons_succ]
        refine rd 11 rfl (fun K hK => ?_); go_simp
        have nT : ¬ O = X := by omega
        have nP : ¬ P = X := by omega
        have nQ : ¬ Q = X := zcq Qd Xd (by decide)
        have nX4 : ¬ X4 = X := by omega
        have nQ4 : ¬ Q4 = X := by omega
        have s' : (fun W' : World => W'.heap[O]? = some (.cells (tcells sp5) 26 (0, 0)) ∧ W'.heap[P]? = some (.cells (partC spp) 51 (0, 0))) (World.onObj wx X (laidAt 0 (partC p5))) := ⟨(zan (w := wx) (F := X) (laidAt 0 (partC p5)) nT).trans s.1, (zan (w := wx) (F := X) (laidAt 0 (partC p5)) nP).trans s.2⟩
        have X4' := (zan (w := wx) (F := X) (laidAt 0 (partC p5)) nX4).trans X4d
        have Q4' := (zan (w := wx) (F := X) (laidAt 0 (partC p5)) nQ4).trans Q4d
        have Q' := (zan (w := wx) (F := X) (laidAt 0 (partC p5)) nQ).trans Qd
        have X' : (World.onObj wx X (laidAt 0 (partC p5))).heap[X]? = some (.cells (partC p5) 51 (0, 0)) := by rw [zab, if_pos rfl, Xd, Option.map_some, zag]
        have C' : Ch [] w (World.onObj wx X (laidAt 0 (partC p5))) := Cd.onObj (p := X) (.inr hXw) _
        refine hK.out _ _ s' (fun _ => ?_)
        clear hK K s Cd Xd
        generalize (World.onObj wx X (laidAt 0 (partC p5))) = wz at *
        refine wpAnyH_take (i := 12) (oi := ⟨some 13, _, _, _, _, none⟩) (v := ?_) rfl (by kernel_rfl) (by kernel_rfl) (by kernel_rfl) (fun _ _ _ h => by cases h.1) (Or.inl ⟨by rfl, ?_⟩) s' ?_
        rotate_left
        · intro wq hSq
          first | (go_simp; done) | (go_simp; with_reducible rfl)
        try simp only [Act.put, List.setIfInBounds_toArray, List.set_cons_zero, List.set_cons_succ]
        refine wpAnyH_take (i := 13) (oi := ⟨some 14, _, _, _, _, none⟩) (v := ?_) rfl (by kernel_rfl) (by kernel_rfl) (by kernel_rfl) (fun _ _ _ h => by cases h.1) (Or.inl ⟨by rfl, ?_⟩) s' ?_
        rotate_left
        · intro wq hSq
          first | (go_simp; done) | (go_simp; with_reducible rfl)
        try simp only [Act.put, List.setIfInBounds_toArray, List.set_cons_zero, List.set_cons_succ]
        refine wpAnyH_done (by kernel_rfl) ?_ _
        exact ⟨rfl, _, _, X, Q, rfl, s'.1, s'.2, X4', Q4', X', Q', C'⟩
      · go_simp
        have hx : Ch [] wr (wr.alloc (.cells (partC zeroPart) 51)) := (Ch.refl [] wr).alloc _
        have Xd : (wr.alloc (.cells (partC zeroPart) 51)).heap[wr.heap.size]? = some (.cells (partC zeroPart) 51 (0, 0)) := by rw [zae, if_pos rfl]
        have hXw := Cd.size
        have lT := zad s.1
        have lP := zad s.2
        have lX4 := zad X4d
        have lQ4 := zad Q4d
        obtain ⟨wx, hwx⟩ : ∃ W, wr.alloc (.cells (partC zeroPart) 51) = W := ⟨_, rfl⟩
        rw [hwx] at hx Xd ⊢
        clear hwx
        obtain ⟨X, hX⟩ : ∃ X, wr.heap.size = X := ⟨_, rfl⟩
        rw [hX] at Xd hXw lT lP lX4 lQ4 ⊢
        clear hX
        have s' : (fun W' : World => W'.heap[O]? = some (.cells (tcells sp5) 26 (0, 0)) ∧ W'.heap[P]? = some (.cells (partC spp) 51 (0, 0))) wx := ⟨hkeep hx s.1, hkeep hx s.2⟩
        have X4' := hkeep hx X4d
        have Q4' := hkeep hx Q4d
        have R' := hkeep hx Rd
        have C' := Cd.trans hx
        refine hK.out _ _ s' (fun _ => ?_)
        clear hK K s Cd X4d Q4d Rd hx
        skip
        have s := s'
        have Cd := C'
        have X4d := X4'
        have Q4d := Q4'
        have Rd := R'
        clear s' C' X4' Q4' R'
        refine rd (o := ⟨some 53, _, _, _, _, none⟩) 3 rfl (fun K hK => ?_); go_simp
        refine (R5 _ _ Rd).mono ?_
        rintro e wq ⟨Q, rfl, Qd, hq⟩
        have s' : (fun W' : World => W'.heap[O]? = some (.cells (tcells sp5) 26 (0, 0)) ∧ W'.heap[P]? = some (.cells (partC spp) 51 (0, 0))) wq := ⟨hkeep hq s.1, hkeep hq s.2⟩
        have X4' := hkeep hq X4d
        have Q4' := hkeep hq Q4d
        have R' := hkeep hq Rd
        have X' := hkeep hq Xd
        have C' := Cd.trans hq
        refine hK.out _ _ s' (fun _ => ?_)
        clear hK K s Cd X4d Q4d Rd Xd hq
        skip
        have s := s'
        have Cd := C'
        have X4d := X4'
        have Q4d := Q4'
        have Rd := R'
        have Xd := X'
        clear s' C' X4' Q4' R' X'
        clear Rd
        refine wpAnyH_take (i := 4) (oi := ⟨some 49, _, _, _, _, none⟩) (v := ?_) rfl (by kernel_rfl) (by kernel_rfl) (by kernel_rfl) (fun _ _ _ h => by cases h.1) (Or.inl ⟨by rfl, ?_⟩) s ?_
        rotate_left
        · intro wq hSq
          first | (go_simp; done) | (go_simp; with_reducible rfl)
        try simp only [Act.put, List.setIfInBounds_toArray, List.set_cons_zero, List.set_cons_succ]
        refine wpAnyH_take (i := 5) (oi := ⟨some 54, _, _, _, _, none⟩) (v := ?_) rfl (by kernel_rfl) (by kernel_rfl) (by kernel_rfl) (fun _ _ _ h => by cases h.1) (Or.inl ⟨by rfl, ?_⟩) s ?_
        rotate_left
        · intro wq hSq
          first | (go_simp; done) | (go_simp; with_reducible rfl)
        try simp only [Act.put, List.setIfInBounds_toArray, List.set_cons_zero, List.set_cons_succ]
        refine wpAnyH_take (i := 6) (oi := ⟨some 55, _, _, _, _, none⟩) (v := ?_) rfl (by kernel_rfl) (by kernel_rfl) (by kernel_rfl) (fun _ _ _ h => by cases h.1) (Or.inl ⟨by rfl, ?_⟩) s ?_
        rotate_left
        · intro wq hSq
          first | (go_simp; done) | (go_simp; with_reducible rfl)
        try simp only [Act.put, List.setIfInBounds_toArray, List.set_cons_zero, List.set_cons_succ]
        refine wpAnyH_take (i := 7) (oi := ⟨some 56, _, _, _, _, none⟩) (v := ?_) rfl (by kernel_rfl) (by kernel_rfl) (by kernel_rfl) (fun _ _ _ h => by cases h.1) (Or.inl ⟨by rfl, ?_⟩) s ?_
        rotate_left
        · intro wq hSq
          first | (go_simp; done) | (go_simp; with_reducible rfl)
        try simp only [Act.put, List.setIfInBounds_toArray, List.set_cons_zero, List.set_cons_succ]
        refine wpAnyH_take (i := 8) (oi := ⟨some 57, _, _, _, _, none⟩) (v := ?_) rfl (by kernel_rfl) (by kernel_rfl) (by kernel_rfl) (fun _ _ _ h => by cases h.1) (Or.inl ⟨by rfl, ?_⟩) s ?_
        rotate_left
        · intro wq hSq
          first | (go_simp; done) | (go_simp; with_reducible rfl)
        try simp only [Act.put, List.setIfInBounds_toArray, List.set_cons_zero, List.set_cons_succ]
        refine wpAnyH_take (i := 10) (oi := ⟨some 11, _, _, _, _, none⟩) (v := ?_) rfl (by kernel_rfl) (by kernel_rfl) (by kernel_rfl) (fun _ _ _ h => by cases h.1) (Or.inl ⟨by rfl, ?_⟩) s ?_
        rotate_left
        · intro wq hSq
          first | (go_simp; done) | (go_simp; with_reducible rfl)
        try simp only [Act.put, List.setIfInBounds_toArray, List.set_cons_zero, List.set_cons_succ]
        refine rd 11 rfl (fun K hK => ?_); go_simp
        have nT : ¬ O = X := by omega
        have nP : ¬ P = X := by omega
        have nQ : ¬ Q = X := zcq Qd Xd (by decide)
        have nX4 : ¬ X4 = X := by omega
        have nQ4 : ¬ Q4 = X := by omega
        have s' : (fun W' : World => W'.heap[O]? = some (.cells (tcells sp5) 26 (0, 0)) ∧ W'.heap[P]? = some (.cells (partC spp) 51 (0, 0))) (World.onObj wq X (laidAt 0 (partC p5))) := ⟨(zan (w := wq) (F := X) (laidAt 0 (partC p5)) nT).trans s.1, (zan (w := wq) (F := X) (laidAt 0 (partC p5)) nP).trans s.2⟩
        have X4' := (zan (w := wq) (F := X) (laidAt 0 (partC p5)) nX4).trans X4d
        have Q4' := (zan (w := wq) (F := X) (laidAt 0 (partC p5)) nQ4).trans Q4d
        have Q' := (zan (w := wq) (F := X) (laidAt 0 (partC p5)) nQ).trans Qd
        have X' : (World.onObj wq X (laidAt 0 (partC p5))).heap[X]? = some (.cells (partC p5) 51 (0, 0)) := by rw [zab, if_pos rfl, Xd, Option.map_some, zag]
        have C' : Ch [] w (World.onObj wq X (laidAt 0 (partC p5))) := Cd.onObj (p := X) (.inr hXw) _
        refine hK.out _ _ s' (fun _ => ?_)
        clear hK K s Cd Xd
        generalize (World.onObj wq X (laidAt 0 (partC p5))) = wz at *
        refine wpAnyH_take (i := 12) (oi := ⟨some 13, _, _, _, _, none⟩) (v := ?_) rfl (by kernel_rfl) (by kernel_rfl) (by kernel_rfl) (fun _ _ _ h => by cases h.1) (Or.inl ⟨by rfl, ?_⟩) s' ?_
        rotate_left
        · intro wq hSq
          first | (go_simp; done) | (go_simp; with_reducible rfl)
        try simp only [Act.put, List.setIfInBounds_toArray, List.set_cons_zero, List.set_cons_succ]
        refine wpAnyH_take (i := 13) (oi := ⟨some 14, _, _, _, _, none⟩) (v := ?_) rfl (by kernel_rfl) (by kernel_rfl) (by kernel_rfl) (fun _ _ _ h => by cases h.1) (Or.inl ⟨by rfl, ?_⟩) s' ?_
        rotate_left
        · intro wq hSq
          first | (go_simp; done) | (go_simp; with_reducible rfl)
        try simp only [Act.put, List.setIfInBounds_toArray, List.set_cons_zero, List.set_cons_succ]
        refine wpAnyH_done (by kernel_rfl) ?_ _
        exact ⟨rfl, _, _, X, Q, rfl, s'.1, s'.2, X4', Q4', X', Q', C'⟩
    · go_simp
      have hx : Ch [] wd (wd.alloc (.cells (partC zeroPart) 51)) := (Ch.refl [] wd).alloc _
      have Xd : (wd.alloc (.cells (partC zeroPart) 51)).heap[wd.heap.size]? = some (.cells (partC zeroPart) 51 (0, 0)) := by rw [zae, if_pos rfl]
      have hXw := Cd.size
      have lT := zad s.1
      have lP := zad s.2
      have lX4 := zad X4d
      have lQ4 := zad Q4d
      obtain ⟨wx, hwx⟩ : ∃ W, wd.alloc (.cells (partC zeroPart) 51) = W := ⟨_, rfl⟩
      rw [hwx] at hx Xd ⊢
      clear hwx
      obtain ⟨X, hX⟩ : ∃ X, wd.heap.size = X := ⟨_, rfl⟩
      rw [hX] at Xd hXw lT lP lX4 lQ4 ⊢
      clear hX
      have s' : (fun W' : World => W'.heap[O]? = some (.cells (tcells sp5) 26 (0, 0)) ∧ W'.heap[P]? = some (.cells (partC spp) 51 (0, 0))) wx := ⟨hkeep hx s.1, hkeep hx s.2⟩
      have X4' := hkeep hx X4d
      have Q4' := hkeep hx Q4d
      have C' := Cd.trans hx
      refine hK.out _ _ s' (fun _ => ?_)
      clear hK K s Cd X4d Q4d hx
      skip
      have s := s'
      have Cd := C'
      have X4d := X4'
      have Q4d := Q4'
      clear s' C' X4' Q4'
      refine rd (o := ⟨some 51, _, _, _, _, none⟩) 1 rfl (fun K hK => ?_); go_simp
      refine (L5 _).mono ?_
      rintro e wr ⟨R, rfl, -, Rd, hr⟩
      have s' : (fun W' : World => W'.heap[O]? = some (.cells (tcells sp5) 26 (0, 0)) ∧ W'.heap[P]? = some (.cells (partC spp) 51 (0, 0))) wr := ⟨hkeep hr s.1, hkeep hr s.2⟩
      have X4' := hkeep hr X4d
      have Q4' := hkeep hr Q4d
      have X' := hkeep hr Xd
      have C' := Cd.trans hr
      refine hK.out _ _ s' (fun _ => ?_)
      clear hK K s Cd X4d Q4d Xd hr
      skip
      have s := s'
      have Cd := C'
      have X4d := X4'
      have Q4d := Q4'
      have Xd := X'
      clear s' C' X4' Q4' X'
      refine rd (o := ⟨some 53, _, _, _, _, none⟩) 3 rfl (fun K hK => ?_); go_simp
      refine (R5 _ _ Rd).mono ?_
      rintro e wq ⟨Q, rfl, Qd, hq⟩
      have s' : (fun W' : World => W'.heap[O]? = some (.cells (tcells sp5) 26 (0, 0)) ∧ W'.heap[P]? = some (.cells (partC spp) 51 (0, 0))) wq := ⟨hkeep hq s.1, hkeep hq s.2⟩
      have X4' := hkeep hq X4d
      have Q4' := hkeep hq Q4d
      have X' := hkeep hq Xd
      have R' := hkeep hq Rd
      have C' := Cd.trans hq
      refine hK.out _ _ s' (fun _ => ?_)
      clear hK K s Cd X4d Q4d Xd Rd hq
      skip
      have s := s'
      have Cd := C'
      have X4d := X4'
      have Q4d := Q4'
      have Xd := X'
      have Rd := R'
      clear s' C' X4' Q4' X' R'
      clear Rd
      refine wpAnyH_take (i := 4) (oi := ⟨some 49, _, _, _, _, none⟩) (v := ?_) rfl (by kernel_rfl) (by kernel_rfl) (by kernel_rfl) (fun _ _ _ h => by cases h.1) (Or.inl ⟨by rfl, ?_⟩) s ?_
      rotate_left
      · intro wq hSq
        first | (go_simp; done) | (go_simp; with_reducible rfl)
      try simp only [Act.put, List.setIfInBounds_toArray, List.set_cons_zero, List.set_cons_succ]
      refine wpAnyH_take (i := 5) (oi := ⟨some 54, _, _, _, _, none⟩) (v := ?_) rfl (by kernel_rfl) (by kernel_rfl) (by kernel_rfl) (fun _ _ _ h => by cases h.1) (Or.inl ⟨by rfl, ?_⟩) s ?_
      rotate_left
      · intro wq hSq
        first | (go_simp; done) | (go_simp; with_reducible rfl)
      try simp only [Act.put, List.setIfInBounds_toArray, List.set_cons_zero, List.set_cons_succ]
      refine wpAnyH_take (i := 6) (oi := ⟨some 55, _, _, _, _, none⟩) (v := ?_) rfl (by kernel_rfl) (by kernel_rfl) (by kernel_rfl) (fun _ _ _ h => by cases h.1) (Or.inl ⟨by rfl, ?_⟩) s ?_
      rotate_left
      · intro wq hSq
        first | (go_simp; done) | (go_simp; with_reducible rfl)
      try simp only [Act.put, List.setIfInBounds_toArray, List.set_cons_zero, List.set_cons_succ]
      refine wpAnyH_take (i := 7) (oi := ⟨some 56, _, _, _, _, none⟩) (v := ?_) rfl (by kernel_rfl) (by kernel_rfl) (by kernel_rfl) (fun _ _ _ h => by cases h.1) (Or.inl ⟨by rfl, ?_⟩) s ?_
      rotate_left
      · intro wq hSq
        first | (go_simp; done) | (go_simp; with_reducible rfl)
      try simp only [Act.put, List.setIfInBounds_toArray, List.set_cons_zero, List.set_cons_succ]
      refine wpAnyH_take (i := 8) (oi := ⟨some 57, _, _, _, _, none⟩) (v := ?_) rfl (by kernel_rfl) (by kernel_rfl) (by kernel_rfl) (fun _ _ _ h => by cases h.1) (Or.inl ⟨by rfl, ?_⟩) s ?_
      rotate_left
      · intro wq hSq
        first | (go_simp; done) | (go_simp; with_reducible rfl)
      try simp only [Act.put, List.setIfInBounds_toArray, List.set_cons_zero, List.set_cons_succ]
      refine wpAnyH_take (i := 10) (oi := ⟨some 11, _, _, _, _, none⟩) (v := ?_) rfl (by kernel_rfl) (by kernel_rfl) (by kernel_rfl) (fun _ _ _ h => by cases h.1) (Or.inl ⟨by rfl, ?_⟩) s ?_
      rotate_left
      · intro wq hSq
        first | (go_simp; done) | (go_simp; with_reducible rfl)
      try simp only [Act.put, List.setIfInBounds_toArray, List.set_cons_zero, List.set_cons_succ]
      refine rd 11 rfl (fun K hK => ?_); go_simp
      have nT : ¬ O = X := by omega
      have nP : ¬ P = X := by omega
      have nQ : ¬ Q = X := zcq Qd Xd (by decide)
      have nX4 : ¬ X4 = X := by omega
      have nQ4 : ¬ Q4 = X := by omega
      have s' : (fun W' : World => W'.heap[O]? = some (.cells (tcells sp5) 26 (0, 0)) ∧ W'.heap[P]? = some (.cells (partC spp) 51 (0, 0))) (World.onObj wq X (laidAt 0 (partC p5))) := ⟨(zan (w := wq) (F := X) (laidAt 0 (partC p5)) nT).trans s.1, (zan (w := wq) (F := X) (laidAt 0 (partC p5)) nP).trans s.2⟩
      have X4' := (zan (w := wq) (F := X) (laidAt 0 (partC p5)) nX4).trans X4d
      have Q4' := (zan (w := wq) (F := X) (laidAt 0 (partC p5)) nQ4).trans Q4d
      have Q' := (zan (w := wq) (F := X) (laidAt 0 (partC p5)) nQ).trans Qd
      have X' : (World.onObj wq X (laidAt 0 (partC p5))).heap[X]? = some (.cells (partC p5) 51 (0, 0)) := by rw [zab, if_pos rfl, Xd, Option.map_some, zag]
      have C' : Ch [] w (World.onObj wq X (laidAt 0 (partC p5))) := Cd.onObj (p := X) (.inr hXw) _
      refine hK.out _ _ s' (fun _ => ?_)
      clear hK K s Cd Xd
      generalize (World.onObj wq X (laidAt 0 (partC p5))) = wz at *
      refine wpAnyH_take (i := 12) (oi := ⟨some 13, _, _, _, _, none⟩) (v := ?_) rfl (by kernel_rfl) (by kernel_rfl) (by kernel_rfl) (fun _ _ _ h => by cases h.1) (Or.inl ⟨by rfl, ?_⟩) s' ?_
      rotate_left
      · intro wq hSq
        first | (go_simp; done) | (go_simp; with_reducible rfl)
      try simp only [Act.put, List.setIfInBounds_toArray, List.set_cons_zero, List.set_cons_succ]
      refine wpAnyH_take (i := 13) (oi := ⟨some 14, _, _, _, _, none⟩) (v := ?_) rfl (by kernel_rfl) (by kernel_rfl) (by kernel_rfl) (fun _ _ _ h => by cases h.1) (Or.inl ⟨by rfl, ?_⟩) s' ?_
      rotate_left
      · intro wq hSq
        first | (go_simp; done) | (go_simp; with_reducible rfl)
      try simp only [Act.put, List.setIfInBounds_toArray, List.set_cons_zero, List.set_cons_succ]
      refine wpAnyH_done (by kernel_rfl) ?_ _
      exact ⟨rfl, _, _, X, Q, rfl, s'.1, s'.2, X4', Q4', X', Q', C'⟩
  rintro a' w12 ⟨xr, xt, X5, Q5, rfl, T12, P12, X412, Q412, X512, Q512, C12⟩
  try simp only [Act.put, List.setIfInBounds_toArray, List.set_cons_zero, List.set_cons_succ]
  clear T11 P11 X411 Q411 C11
  clear T12 Q512
  go_wp2_with fail
  refine (N5 _).mono ?_
  rintro e w13 ⟨rfl, hc⟩
  have P13 := hkeep hc P12
  have X413 := hkeep hc X412
  have Q413 := hkeep hc Q412
  have X513 := hkeep hc X512
  have C13 := C12.trans hc
  clear P12 X412 Q412 X512 C12 hc N5
  have nP := nsz P13
  have nX4 := nsz X413
  have nQ4 := nsz Q413
  have nX5 := nsz X513
  go_upto_region 10 with (fail)
  clear nP nX4 nQ4 nX5
  have hcq := tab_ch22 w13 zeroT spd
  have D14 := tab_block22 w13 zeroT spd
  have P14 := hkeep hcq P13
  have lP := zad P13
  have X414 := hkeep hcq X413
  have lX4 := zad X413
  have Q414 := hkeep hcq Q413
  have lQ4 := zad Q413
  have X514 := hkeep hcq X513
  have lX5 := zad X513
  have C14 := C13.trans hcq
  have hDw := C13.size
  clear P13 X413 Q413 X513 C13 hcq
  obtain ⟨w14, hw14⟩ : ∃ W, World.onObj (w13.alloc (.cells (tcells zeroT) 26)) w13.heap.size (laidAt 0 (tcells spd)) = W := ⟨_, rfl⟩
  rw [hw14] at D14 P14 X414 Q414 X514 C14 ⊢
  clear hw14
  obtain ⟨D, hD⟩ : ∃ b, w13.heap.size = b := ⟨_, rfl⟩
  rw [hD] at D14 hDw lP lX4 lQ4 lX5 ⊢
  clear hD
  have T14 := D14
  clear D14 lP lX4 lQ4 lX5
  refine sp_region_cut (fun a a' w' => ∃ (xr xt : Value) (Xe Qe : Nat), a' = (((((((((((((a.put (some 63) (.agg (tcells spd))).put (some 64) xr).put (some 65) (.agg (partC spp))).put (some 66) xt).put (some 62) xt).put (some 67) (.slice (some ⟨Qe, 0, none⟩) 136 136)).put (some 68) (.agg (partC pd))).put (some 69) (I (2 : Nat))).put (some 70) (I 0)).put (some 18) (.pointer (some ⟨Xe, 0, none⟩))).put (some 17) (.slice (some ⟨Qe, 0, none⟩) 136 136)).put (some 19) (I (2 : Nat))).put (some 20) (I 0)) ∧ w'.heap[D]? = some (.cells (tcells spd) 26 (0, 0)) ∧ w'.heap[P]? = some (.cells (partC spp) 51 (0, 0)) ∧ w'.heap[X4]? = some (.cells (partC p4) 51 (0, 0)) ∧ w'.heap[Q4]? = some (.cells d4 22 (0, 0)) ∧ w'.heap[X5]? = some (.cells (partC p5) 51 (0, 0)) ∧ w'.heap[Xe]? = some (.cells (partC pd) 51 (0, 0)) ∧ w'.heap[Qe]? = some (.cells cd 22 (0, 0)) ∧ Ch [] w w') ?_ ?_
  · have s : (fun W' : World => W'.heap[D]? = some (.cells (tcells spd) 26 (0, 0)) ∧ W'.heap[P]? = some (.cells (partC spp) 51 (0, 0))) w14.drew := ⟨T14, P14⟩
    have X4d : w14.drew.heap[X4]? = some (.cells (partC p4) 51 (0, 0)) := X414
    have Q4d : w14.drew.heap[Q4]? = some (.cells d4 22 (0, 0)) := Q414
    have X5d : w14.drew.heap[X5]? = some (.cells (partC p5) 51 (0, 0)) := X514
    have Cd : Ch [] w w14.drew := C14.drew
    refine wp_region_held_drew (S := fun W' => W'.heap[D]? = some (.cells (tcells spd) 26 (0, 0)) ∧ W'.heap[P]? = some (.cells (partC spp) 51 (0, 0))) (by kernel_rfl) s ?_
    intro _
    simp only [List.size_toArray, List.length_cons, List.length_nil, Nat.reduceAdd]
    obtain ⟨wd, hwd⟩ : ∃ W, w14.drew = W := ⟨_, rfl⟩
    rw [hwd] at s Cd X4d Q4d X5d ⊢
    clear hwd
    refine wpAnyH_take (i := 0) (oi := ⟨some 63, _, _, _, _, none⟩) (v := ?_) rfl (by kernel_rfl) (by kernel_rfl) (by kernel_rfl) (fun _ _ _ h => by cases h.1) (Or.inl ⟨by rfl, ?_⟩) s ?_
    rotate_left
    · intro wq hSq
      obtain ⟨hSa, hSb⟩ := hSq
      first | (go_simp; done) | (go_simp; with_reducible rfl)
    try simp only [Act.put, List.setIfInBounds_toArray, List.set_cons_zero, List.set_cons_succ]
    refine wpAnyH_take (i := 2) (oi := ⟨some 65, _, _, _, _, none⟩) (v := ?_) rfl (by kernel_rfl) (by kernel_rfl) (by kernel_rfl) (fun _ _ _ h => by cases h.1) (Or.inl ⟨by rfl, ?_⟩) s ?_
    rotate_left
    · intro wq hSq
      obtain ⟨hSa, hSb⟩ := hSq
      first | (go_simp; done) | (go_simp; with_reducible rfl)
    try simp only [Act.put, List.setIfInBounds_toArray, List.set_cons_zero, List.set_cons_succ]
    refine wpAnyH_ready (rs := [1, 9]) (by kernel_rfl) (by simp) ?_
    refine AllReadyH.cons rfl (fun K hK => ?_) (AllReadyH.cons (o := ⟨some 18, _, _, _, _, none⟩) rfl (fun K hK => ?_) AllReadyH.nil)
    · go_simp
      refine (LLd _).mono ?_
      rintro e wr ⟨R, rfl, -, Rd, hr⟩
      have s' : (fun W' : World => W'.heap[D]? = some (.cells (tcells spd) 26 (0, 0)) ∧ W'.heap[P]? = some (.cells (partC spp) 51 (0, 0))) wr := ⟨hkeep hr s.1, hkeep hr s.2⟩
      have X4' := hkeep hr X4d
      have Q4' := hkeep hr Q4d
      have X5' := hkeep hr X5d
      have C' := Cd.trans hr
      refine hK.out _ _ s' (fun _ => ?_)
      clear hK K s Cd X4d Q4d X5d hr
      skip
      have s := s'
      have Cd := C'
      have X4d := X4'
      have Q4d := Q4'
      have X5d := X5'
      clear s' C' X4' Q4' X5'
      refine wpAnyH_ready (rs := [3, 9]) (by kernel_rfl) (by simp) ?_
      refine AllReadyH.cons rfl (fun K hK => ?_) (AllReadyH.cons (o := ⟨some 18, _, _, _, _, none⟩) rfl (fun K hK => ?_) AllReadyH.nil)
      · go_simp
        refine (RRd _ _ Rd).mono ?_
        rintro e wq ⟨Q, rfl, Qd, hq⟩
        have s' : (fun W' : World => W'.heap[D]? = some (.cells (tcells spd) 26 (0, 0)) ∧ W'.heap[P]? = some (.cells (partC spp) 51 (0, 0))) wq := ⟨hkeep hq s.1, hkeep hq s.2⟩
        have X4' := hkeep hq X4d
        have Q4' := hkeep hq Q4d
        have X5' := hkeep hq X5d
        have R' := hkeep hq Rd
        have C' := Cd.trans hq
        refine hK.out _ _ s' (fun _ => ?_)
        clear hK K s Cd X4d Q4d X5d Rd hq
        skip
        have s := s'
        have Cd := C'
        have X4d := X4'
        have Q4d := Q4'
        have X5d := X5'
        have Rd := R'
        clear s' C' X4' Q4' X5' R'
        clear Rd
        refine wpAnyH_take (i := 4) (oi := ⟨some 62, _, _, _, _, none⟩) (v := ?_) rfl (by kernel_rfl) (by kernel_rfl) (by kernel_rfl) (fun _ _ _ h => by cases h.1) (Or.inl ⟨by rfl, ?_⟩) s ?_
        rotate_left
        · intro wq hSq
          first | (go_simp; done) | (go_simp; with_reducible rfl)
        try simp only [Act.put, List.setIfInBounds_toArray, List.set_cons_zero, List.set_cons_succ]
        refine wpAnyH_take (i := 5) (oi := ⟨some 67, _, _, _, _, none⟩) (v := ?_) rfl (by kernel_rfl) (by kernel_rfl) (by kernel_rfl) (fun _ _ _ h => by cases h.1) (Or.inl ⟨by rfl, ?_⟩) s ?_
        rotate_left
        · intro wq hSq
          first | (go_simp; done) | (go_simp; with_reducible rfl)
        try simp only [Act.put, List.setIfInBounds_toArray, List.set_cons_zero, List.set_cons_succ]
        refine wpAnyH_take (i := 6) (oi := ⟨some 68, _, _, _, _, none⟩) (v := ?_) rfl (by kernel_rfl) (by kernel_rfl) (by kernel_rfl) (fun _ _ _ h => by cases h.1) (Or.inl ⟨by rfl, ?_⟩) s ?_
        rotate_left
        · intro wq hSq
          first | (go_simp; done) | (go_simp; with_reducible rfl)
        try simp only [Act.put, List.setIfInBounds_toArray, List.set_cons_zero, List.set_cons_succ]
        refine wpAnyH_take (i := 7) (oi := ⟨some 69, _, _, _, _, none⟩) (v := ?_) rfl (by kernel_rfl) (by kernel_rfl) (by kernel_rfl) (fun _ _ _ h => by cases h.1) (Or.inl ⟨by rfl, ?_⟩) s ?_
        rotate_left
        · intro wq hSq
          first | (go_simp; done) | (go_simp; with_reducible rfl)
        try simp only [Act.put, List.setIfInBounds_toArray, List.set_cons_zero, List.set_cons_succ]
        refine wpAnyH_take (i := 8) (oi := ⟨some 70, _, _, _, _, none⟩) (v := ?_) rfl (by kernel_rfl) (by kernel_rfl) (by kernel_rfl) (fun _ _ _ h => by cases h.1) (Or.inl ⟨by rfl, ?_⟩) s ?_
        rotate_left
        · intro wq hSq
          first | (go_simp; done) | (go_simp; with_reducible rfl)
        try simp only [Act.put, List.setIfInBounds_toArray, List.set_cons_zero, List.set_cons_succ]
        refine rd (o := ⟨some 18, _, _, _, _, none⟩) 9 rfl (fun K hK => ?_); go_simp
        have hx : Ch [] wq (wq.alloc (.cells (partC zeroPart) 51)) := (Ch.refl [] wq).alloc _
        have Xd : (wq.alloc (.cells (partC zeroPart) 51)).heap[wq.heap.size]? = some (.cells (partC zeroPart) 51 (0, 0)) := by rw [zae, if_pos rfl]
        have hXw := Cd.size
        have lT := zad s.1
        have lP := zad s.2
        have lX4 := zad X4d
        have lQ4 := zad Q4d
        have lX5 := zad X5d
        obtain ⟨wx, hwx⟩ : ∃ W, wq.alloc (.cells (partC zeroPart) 51) = W := ⟨_, rfl⟩
        rw [hwx] at hx Xd ⊢
        clear hwx
        obtain ⟨X, hX⟩ : ∃ X, wq.heap.size = X := ⟨_, rfl⟩
        rw [hX] at Xd hXw lT lP lX4 lQ4 lX5 ⊢
        clear hX
        have s' : (fun W' : World => W'.heap[D]? = some (.cells (tcells spd) 26 (0, 0)) ∧ W'.heap[P]? = some (.cells (partC spp) 51 (0, 0))) wx := ⟨hkeep hx s.1, hkeep hx s.2⟩
        have X4' := hkeep hx X4d
        have Q4' := hkeep hx Q4d
        have X5' := hkeep hx X5d
        have Q' := hkeep hx Qd
        have C' := Cd.trans hx
        refine hK.out _ _ s' (fun _ => ?_)
        clear hK K s Cd X4d Q4d X5d Qd hx
        skip
        have s := s'
        have Cd := C'
        have X4d := X4'
        have Q4d := Q4'
        have X5d := X5'
        have Qd := Q'
        clear s' C' X4' Q4' X5' Q'
        refine wpAnyH_take (i := 10) (oi := ⟨some 17, _, _, _, _, none⟩) (v := ?_) rfl (by kernel_rfl) (by kernel_rfl) (by kernel_rfl) (fun _ _ _ h => by cases h.1) (Or.inl ⟨by rfl, ?_⟩) s ?_
        rotate_left
        · intro wq hSq
          first | (go_simp; done) | (go_simp; with_reducible rfl)
        try simp only [Act.put, List.setIfInBounds_toArray, List.set_cons_zero, List.set_cons_succ]
        refine rd 11 rfl (fun K hK => ?_); go_simp
        have nT : ¬ D = X := by omega
        have nP : ¬ P = X := by omega
        have nQ : ¬ Q = X := zcq Qd Xd (by decide)
        have nX4 : ¬ X4 = X := by omega
        have nQ4 : ¬ Q4 = X := by omega
        have nX5 : ¬ X5 = X := by omega
        have s' : (fun W' : World => W'.heap[D]? = some (.cells (tcells spd) 26 (0, 0)) ∧ W'.heap[P]? = some (.cells (partC spp) 51 (0, 0))) (World.onObj wx X (laidAt 0 (partC pd))) := ⟨(zan (w := wx) (F := X) (laidAt 0 (partC pd)) nT).trans s.1, (zan (w := wx) (F := X) (laidAt 0 (partC pd)) nP).trans s.2⟩
        have X4' := (zan (w := wx) (F := X) (laidAt 0 (partC pd)) nX4).trans X4d
        have Q4' := (zan (w := wx) (F := X) (laidAt 0 (partC pd)) nQ4).trans Q4d
        have X5' := (zan (w := wx) (F := X) (laidAt 0 (partC pd)) nX5).trans X5d
        have Q' := (zan (w := wx) (F := X) (laidAt 0 (partC pd)) nQ).trans Qd
        have X' : (World.onObj wx X (laidAt 0 (partC pd))).heap[X]? = some (.cells (partC pd) 51 (0, 0)) := by rw [zab, if_pos rfl, Xd, Option.map_some, zag]
        have C' : Ch [] w (World.onObj wx X (laidAt 0 (partC pd))) := Cd.onObj (p := X) (.inr hXw) _
        refine hK.out _ _ s' (fun _ => ?_)
        clear hK K s Cd Xd
        generalize (World.onObj wx X (laidAt 0 (partC pd))) = wz at *
        refine wpAnyH_take (i := 12) (oi := ⟨some 19, _, _, _, _, none⟩) (v := ?_) rfl (by kernel_rfl) (by kernel_rfl) (by kernel_rfl) (fun _ _ _ h => by cases h.1) (Or.inl ⟨by rfl, ?_⟩) s' ?_
        rotate_left
        · intro wq hSq
          first | (go_simp; done) | (go_simp; with_reducible rfl)
        try simp only [Act.put, List.setIfInBounds_toArray, List.set_cons_zero, List.set_cons_succ]
        refine wpAnyH_take (i := 13) (oi := ⟨some 20, _, _, _, _, none⟩) (v := ?_) rfl (by kernel_rfl) (by kernel_rfl) (by kernel_rfl) (fun _ _ _ h => by cases h.1) (Or.inl ⟨by rfl, ?_⟩) s' ?_
        rotate_left
        · intro wq hSq
          first | (go_simp; done) | (go_simp; with_reducible rfl)
        try simp only [Act.put, List.setIfInBounds_toArray, List.set_cons_zero, List.set_cons_succ]
        refine wpAnyH_done (by kernel_rfl) ?_ _
        exact ⟨rfl, _, _, X, Q, rfl, s'.1, s'.2, X4', Q4', X5', X', Q', C'⟩
      · go_simp
        have hx : Ch [] wr (wr.alloc (.cells (partC zeroPart) 51)) := (Ch.refl [] wr).alloc _
        have Xd : (wr.alloc (.cells (partC zeroPart) 51)).heap[wr.heap.size]? = some (.cells (partC zeroPart) 51 (0, 0)) := by rw [zae, if_pos rfl]
        have hXw := Cd.size
        have lT := zad s.1
        have lP := zad s.2
        have lX4 := zad X4d
        have lQ4 := zad Q4d
        have lX5 := zad X5d
        obtain ⟨wx, hwx⟩ : ∃ W, wr.alloc (.cells (partC zeroPart) 51) = W := ⟨_, rfl⟩
        rw [hwx] at hx Xd ⊢
        clear hwx
        obtain ⟨X, hX⟩ : ∃ X, wr.heap.size = X := ⟨_, rfl⟩
        rw [hX] at Xd hXw lT lP lX4 lQ4 lX5 ⊢
        clear hX
        have s' : (fun W' : World => W'.heap[D]? = some (.cells (tcells spd) 26 (0, 0)) ∧ W'.heap[P]? = some (.cells (partC spp) 51 (0, 0))) wx := ⟨hkeep hx s.1, hkeep hx s.2⟩
        have X4' := hkeep hx X4d
        have Q4' := hkeep hx Q4d
        have X5' := hkeep hx X5d
        have R' := hkeep hx Rd
        have C' := Cd.trans hx
        refine hK.out _ _ s' (fun _ => ?_)
        clear hK K s Cd X4d Q4d X5d Rd hx
        skip
        have s := s'
        have Cd := C'
        have X4d := X4'
        have Q4d := Q4'
        have X5d := X5'
        have Rd := R'
        clear s' C' X4' Q4' X5' R'
        refine rd (o := ⟨some 66, _, _, _, _, none⟩) 3 rfl (fun K hK => ?_); go_simp
        refine (RRd _ _ Rd).mono ?_
        rintro e wq ⟨Q, rfl, Qd, hq⟩
        have s' : (fun W' : World => W'.heap[D]? = some (.cells (tcells spd) 26 (0, 0)) ∧ W'.heap[P]? = some (.cells (partC spp) 51 (0, 0))) wq := ⟨hkeep hq s.1, hkeep hq s.2⟩
        have X4' := hkeep hq X4d
        have Q4' := hkeep hq Q4d
        have X5' := hkeep hq X5d
        have R' := hkeep hq Rd
        have X' := hkeep hq Xd
        have C' := Cd.trans hq
        refine hK.out _ _ s' (fun _ => ?_)
        clear hK K s Cd X4d Q4d X5d Rd Xd hq
        skip
        have s := s'
        have Cd := C'
        have X4d := X4'
        have Q4d := Q4'
        have X5d := X5'
        have Rd := R'
        have Xd := X'
        clear s' C' X4' Q4' X5' R' X'
        clear Rd
        refine wpAnyH_take (i := 4) (oi := ⟨some 62, _, _, _, _, none⟩) (v := ?_) rfl (by kernel_rfl) (by kernel_rfl) (by kernel_rfl) (fun _ _ _ h => by cases h.1) (Or.inl ⟨by rfl, ?_⟩) s ?_
        rotate_left
        · intro wq hSq
          first | (go_simp; done) | (go_simp; with_reducible rfl)
        try simp only [Act.put, List.setIfInBounds_toArray, List.set_cons_zero, List.set_cons_succ]
        refine wpAnyH_take (i := 5) (oi := ⟨some 67, _, _, _, _, none⟩) (v := ?_) rfl (by kernel_rfl) (by kernel_rfl) (by kernel_rfl) (fun _ _ _ h => by cases h.1) (Or.inl ⟨by rfl, ?_⟩) s ?_
        rotate_left
        · intro wq hSq
          first | (go_simp; done) | (go_simp; with_reducible rfl)
        try simp only [Act.put, List.setIfInBounds_toArray, List.set_cons_zero, List.set_cons_succ]
        refine wpAnyH_take (i := 6) (oi := ⟨some 68, _, _, _, _, none⟩) (v := ?_) rfl (by kernel_rfl) (by kernel_rfl) (by kernel_rfl) (fun _ _ _ h => by cases h.1) (Or.inl ⟨by rfl, ?_⟩) s ?_
        rotate_left
        · intro wq hSq
          first | (go_simp; done) | (go_simp; with_reducible rfl)
        try simp only [Act.put, List.setIfInBounds_toArray, List.set_cons_zero, List.set_cons_succ]
        refine wpAnyH_take (i := 7) (oi := ⟨some 69, _, _, _, _, none⟩) (v := ?_) rfl (by kernel_rfl) (by kernel_rfl) (by kernel_rfl) (fun _ _ _ h => by cases h.1) (Or.inl ⟨by rfl, ?_⟩) s ?_
        rotate_left
        · intro wq hSq
          first | (go_simp; done) | (go_simp; with_reducible rfl)
        try simp only [Act.put, List.setIfInBounds_toArray, List.set_cons_zero, List.set_cons_succ]
        refine wpAnyH_take (i := 8) (oi := ⟨some 70, _, _, _, _, none⟩) (v := ?_) rfl (by kernel_rfl) (by kernel_rfl) (by kernel_rfl) (fun _ _ _ h => by cases h.1) (Or.inl ⟨by rfl, ?_⟩) s ?_
        rotate_left
        · intro wq hSq
          first | (go_simp; done) | (go_simp; with_reducible rfl)
        try simp only [Act.put, List.setIfInBounds_toArray, List.set_cons_zero, List.set_cons_succ]
        refine wpAnyH_take (i := 10) (oi := ⟨some 17, _, _, _, _, none⟩) (v := ?_) rfl (by kernel_rfl) (by kernel_rfl) (by kernel_rfl) (fun _ _ _ h => by cases h.1) (Or.inl ⟨by rfl, ?_⟩) s ?_
        rotate_left
        · intro wq hSq
          first | (go_simp; done) | (go_simp; with_reducible rfl)
        try simp only [Act.put, List.setIfInBounds_toArray, List.set_cons_zero, List.set_cons_succ]
        refine rd 11 rfl (fun K hK => ?_); go_simp
        have nT : ¬ D = X := by omega
        have nP : ¬ P = X := by omega
        have nQ : ¬ Q = X := zcq Qd Xd (by decide)
        have nX4 : ¬ X4 = X := by omega
        have nQ4 : ¬ Q4 = X := by omega
        have nX5 : ¬ X5 = X := by omega
        have s' : (fun W' : World => W'.heap[D]? = some (.cells (tcells spd) 26 (0, 0)) ∧ W'.heap[P]? = some (.cells (partC spp) 51 (0, 0))) (World.onObj wq X (laidAt 0 (partC pd))) := ⟨(zan (w := wq) (F := X) (laidAt 0 (partC pd)) nT).trans s.1, (zan (w := wq) (F := X) (laidAt 0 (partC pd)) nP).trans s.2⟩
        have X4' := (zan (w := wq) (F := X) (laidAt 0 (partC pd)) nX4).trans X4d
        have Q4' := (zan (w := wq) (F := X) (laidAt 0 (partC pd)) nQ4).trans Q4d
        have X5' := (zan (w := wq) (F := X) (laidAt 0 (partC pd)) nX5).trans X5d
        have Q' := (zan (w := wq) (F := X) (laidAt 0 (partC pd)) nQ).trans Qd
        have X' : (World.onObj wq X (laidAt 0 (partC pd))).heap[X]? = some (.cells (partC pd) 51 (0, 0)) := by rw [zab, if_pos rfl, Xd, Option.map_some, zag]
        have C' : Ch [] w (World.onObj wq X (laidAt 0 (partC pd))) := Cd.onObj (p := X) (.inr hXw) _
        refine hK.out _ _ s' (fun _ => ?_)
        clear hK K s Cd Xd
        generalize (World.onObj wq X (laidAt 0 (partC pd))) = wz at *
        refine wpAnyH_take (i := 12) (oi := ⟨some 19, _, _, _, _, none⟩) (v := ?_) rfl (by kernel_rfl) (by kernel_rfl) (by kernel_rfl) (fun _ _ _ h => by cases h.1) (Or.inl ⟨by rfl, ?_⟩) s' ?_
        rotate_left
        · intro wq hSq
          first | (go_simp; done) | (go_simp; with_reducible rfl)
        try simp only [Act.put, List.setIfInBounds_toArray, List.set_cons_zero, List.set_cons_succ]
        refine wpAnyH_take (i := 13) (oi := ⟨some 20, _, _, _, _, none⟩) (v := ?_) rfl (by kernel_rfl) (by kernel_rfl) (by kernel_rfl) (fun _ _ _ h => by cases h.1) (Or.inl ⟨by rfl, ?_⟩) s' ?_
        rotate_left
        · intro wq hSq
          first | (go_simp; done) | (go_simp; with_reducible rfl)
        try simp only [Act.put, List.setIfInBounds_toArray, List.set_cons_zero, List.set_cons_succ]
        refine wpAnyH_done (by kernel_rfl) ?_ _
        exact ⟨rfl, _, _, X, Q, rfl, s'.1, s'.2, X4', Q4', X5', X', Q', C'⟩
    · go_simp
      have hx : Ch [] wd (wd.alloc (.cells (partC zeroPart) 51)) := (Ch.refl [] wd).alloc _
      have Xd : (wd.alloc (.cells (partC zeroPart) 51)).heap[wd.heap.size]? = some (.cells (partC zeroPart) 51 (0, 0)) := by rw [zae, if_pos rfl]
      have hXw := Cd.size
      have lT := zad s.1
      have lP := zad s.2
      have lX4 := zad X4d
      have lQ4 := zad Q4d
      have lX5 := zad X5d
      obtain ⟨wx, hwx⟩ : ∃ W, wd.alloc (.cells (partC zeroPart) 51) = W := ⟨_, rfl⟩
      rw [hwx] at hx Xd ⊢
      clear hwx
      obtain ⟨X, hX⟩ : ∃ X, wd.heap.size = X := ⟨_, rfl⟩
      rw [hX] at Xd hXw lT lP lX4 lQ4 lX5 ⊢
      clear hX
      have s' : (fun W' : World => W'.heap[D]? = some (.cells (tcells spd) 26 (0, 0)) ∧ W'.heap[P]? = some (.cells (partC spp) 51 (0, 0))) wx := ⟨hkeep hx s.1, hkeep hx s.2⟩
      have X4' := hkeep hx X4d
      have Q4' := hkeep hx Q4d
      have X5' := hkeep hx X5d
      have C' := Cd.trans hx
      refine hK.out _ _ s' (fun _ => ?_)
      clear hK K s Cd X4d Q4d X5d hx
      skip
      have s := s'
      have Cd := C'
      have X4d := X4'
      have Q4d := Q4'
      have X5d := X5'
      clear s' C' X4' Q4' X5'
      refine rd (o := ⟨some 64, _, _, _, _, none⟩) 1 rfl (fun K hK => ?_); go_simp
      refine (LLd _).mono ?_
      rintro e wr ⟨R, rfl, -, Rd, hr⟩
      have s' : (fun W' : World => W'.heap[D]? = some (.cells (tcells spd) 26 (0, 0)) ∧ W'.heap[P]? = some (.cells (partC spp) 51 (0, 0))) wr := ⟨hkeep hr s.1, hkeep hr s.2⟩
      have X4' := hkeep hr X4d
      have Q4' := hkeep hr Q4d
      have X5' := hkeep hr X5d
      have X' := hkeep hr Xd
      have C' := Cd.trans hr
      refine hK.out _ _ s' (fun _ => ?_)
      clear hK K s Cd X4d Q4d X5d Xd hr
      skip
      have s := s'
      have Cd := C'
      have X4d := X4'
      have Q4d := Q4'
      have X5d := X5'
      have Xd := X'
      clear s' C' X4' Q4' X5' X'
      refine rd (o := ⟨some 66, _, _, _, _, none⟩) 3 rfl (fun K hK => ?_); go_simp
      refine (RRd _ _ Rd).mono ?_
      rintro e wq ⟨Q, rfl, Qd, hq⟩
      have s' : (fun W' : World => W'.heap[D]? = some (.cells (tcells spd) 26 (0, 0)) ∧ W'.heap[P]? = some (.cells (partC spp) 51 (0, 0))) wq := ⟨hkeep hq s.1, hkeep hq s.2⟩
      have X4' := hkeep hq X4d
      have Q4' := hkeep hq Q4d
      have X5' := hkeep hq X5d
      have X' := hkeep hq Xd
      have R' := hkeep hq Rd
      have C' := Cd.trans hq
      refine hK.out _ _ s' (fun _ => ?_)
      clear hK K s Cd X4d Q4d X5d Xd Rd hq
      skip
      have s := s'
      have Cd := C'
      have X4d := X4'
      have Q4d := Q4'
      have X5d := X5'
      have Xd := X'
      have Rd := R'
      clear s' C' X4' Q4' X5' X' R'
      clear Rd
      refine wpAnyH_take (i := 4) (oi := ⟨some 62, _, _, _, _, none⟩) (v := ?_) rfl (by kernel_rfl) (by kernel_rfl) (by kernel_rfl) (fun _ _ _ h => by cases h.1) (Or.inl ⟨by rfl, ?_⟩) s ?_
      rotate_left
      · intro wq hSq
        first | (go_simp; done) | (go_simp; with_reducible rfl)
      try simp only [Act.put, List.setIfInBounds_toArray, List.set_cons_zero, List.set_cons_succ]
      refine wpAnyH_take (i := 5) (oi := ⟨some 67, _, _, _, _, none⟩) (v := ?_) rfl (by kernel_rfl) (by kernel_rfl) (by kernel_rfl) (fun _ _ _ h => by cases h.1) (Or.inl ⟨by rfl, ?_⟩) s ?_
      rotate_left
      · intro wq hSq
        first | (go_simp; done) | (go_simp; with_reducible rfl)
      try simp only [Act.put, List.setIfInBounds_toArray, List.set_cons_zero, List.set_cons_succ]
      refine wpAnyH_take (i := 6) (oi := ⟨some 68, _, _, _, _, none⟩) (v := ?_) rfl (by kernel_rfl) (by kernel_rfl) (by kernel_rfl) (fun _ _ _ h => by cases h.1) (Or.inl ⟨by rfl, ?_⟩) s ?_
      rotate_left
      · intro wq hSq
        first | (go_simp; done) | (go_simp; with_reducible rfl)
      try simp only [Act.put, List.setIfInBounds_toArray, List.set_cons_zero, List.set_cons_succ]
      refine wpAnyH_take (i := 7) (oi := ⟨some 69, _, _, _, _, none⟩) (v := ?_) rfl (by kernel_rfl) (by kernel_rfl) (by kernel_rfl) (fun _ _ _ h => by cases h.1) (Or.inl ⟨by rfl, ?_⟩) s ?_
      rotate_left
      · intro wq hSq
        first | (go_simp; done) | (go_simp; with_reducible rfl)
      try simp only [Act.put, List.setIfInBounds_toArray, List.set_cons_zero, List.set_cons_succ]
      refine wpAnyH_take (i := 8) (oi := ⟨some 70, _, _, _, _, none⟩) (v := ?_) rfl (by kernel_rfl) (by kernel_rfl) (by kernel_rfl) (fun _ _ _ h => by cases h.1) (Or.inl ⟨by rfl, ?_⟩) s ?_
      rotate_left
      · intro wq hSq
        first | (go_simp; done) | (go_simp; with_reducible rfl)
      try simp only [Act.put, List.setIfInBounds_toArray, List.set_cons_zero, List.set_cons_succ]
      refine wpAnyH_take (i := 10) (oi := ⟨some 17, _, _, _, _, none⟩) (v := ?_) rfl (by kernel_rfl) (by kernel_rfl) (by kernel_rfl) (fun _ _ _ h => by cases h.1) (Or.inl ⟨by rfl, ?_⟩) s ?_
      rotate_left
      · intro wq hSq
        first | (go_simp; done) | (go_simp; with_reducible rfl)
      try simp only [Act.put, List.setIfInBounds_toArray, List.set_cons_zero, List.set_cons_succ]
      refine rd 11 rfl (fun K hK => ?_); go_simp
      have nT : ¬ D = X := by omega
      have nP : ¬ P = X := by omega
      have nQ : ¬ Q = X := zcq Qd Xd (by decide)
      have nX4 : ¬ X4 = X := by omega
      have nQ4 : ¬ Q4 = X := by omega
      have nX5 : ¬ X5 = X := by omega
      have s' : (fun W' : World => W'.heap[D]? = some (.cells (tcells spd) 26 (0, 0)) ∧ W'.heap[P]? = some (.cells (partC spp) 51 (0, 0))) (World.onObj wq X (laidAt 0 (partC pd))) := ⟨(zan (w := wq) (F := X) (laidAt 0 (partC pd)) nT).trans s.1, (zan (w := wq) (F := X) (laidAt 0 (partC pd)) nP).trans s.2⟩
      have X4' := (zan (w := wq) (F := X) (laidAt 0 (partC pd)) nX4).trans X4d
      have Q4' := (zan (w := wq) (F := X) (laidAt 0 (partC pd)) nQ4).trans Q4d
      have X5' := (zan (w := wq) (F := X) (laidAt 0 (partC pd)) nX5).trans X5d
      have Q' := (zan (w := wq) (F := X) (laidAt 0 (partC pd)) nQ).trans Qd
      have X' : (World.onObj wq X (laidAt 0 (partC pd))).heap[X]? = some (.cells (partC pd) 51 (0, 0)) := by rw [zab, if_pos rfl, Xd, Option.map_some, zag]
      have C' : Ch [] w (World.onObj wq X (laidAt 0 (partC pd))) := Cd.onObj (p := X) (.inr hXw) _
      refine hK.out _ _ s' (fun _ => ?_)
      clear hK K s Cd Xd
      generalize (World.onObj wq X (laidAt 0 (partC pd))) = wz at *
      refine wpAnyH_take (i := 12) (oi := ⟨some 19, _, _, _, _, none⟩) (v := ?_) rfl (by kernel_rfl) (by kernel_rfl) (by kernel_rfl) (fun _ _ _ h => by cases h.1) (Or.inl ⟨by rfl, ?_⟩) s' ?_
      rotate_left
      · intro wq hSq
        first | (go_simp; done) | (go_simp; with_reducible rfl)
      try simp only [Act.put, List.setIfInBounds_toArray, List.set_cons_zero, List.set_cons_succ]
      refine wpAnyH_take (i := 13) (oi := ⟨some 20, _, _, _, _, none⟩) (v := ?_) rfl (by kernel_rfl) (by kernel_rfl) (by kernel_rfl) (fun _ _ _ h => by cases h.1) (Or.inl ⟨by rfl, ?_⟩) s' ?_
      rotate_left
      · intro wq hSq
        first | (go_simp; done) | (go_simp; with_reducible rfl)
      try simp only [Act.put, List.setIfInBounds_toArray, List.set_cons_zero, List.set_cons_succ]
      refine wpAnyH_done (by kernel_rfl) ?_ _
      exact ⟨rfl, _, _, X, Q, rfl, s'.1, s'.2, X4', Q4', X5', X', Q', C'⟩
  rintro a' w15 ⟨xr, xt, Xe, Qe, rfl, T15, P15, X415, Q415, X515, Xe15, Qe15, C15⟩
  try simp only [Act.put, List.setIfInBounds_toArray, List.set_cons_zero, List.set_cons_succ]
  clear T14 P14 X414 Q414 X514 C14
  go_wp2_with fail
  refine (M1 _).mono ?_
  rintro e w16 ⟨rfl, hc⟩
  go_wp2
  go_ret
  exact ⟨rfl, C15.trans hc⟩
end
end Go.Proofs.Hc
