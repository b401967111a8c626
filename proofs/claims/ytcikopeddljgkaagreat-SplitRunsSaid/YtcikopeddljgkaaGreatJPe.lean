/- Package split: Check. -/
import Derived.Test.YtcikopeddljgkaaGreatJSb0
set_option linter.unusedSimpArgs false
set_option linter.unusedVariables false
set_option maxHeartbeats 8000000
set_option maxRecDepth 100000
namespace Go.Proofs.Hc
open Go.RowKit
attribute [local go_sem] zbu zcc zax zbf zbo zbd zbn zbp zbw signed64 signed8 zap BitVec.ofInt_add BitVec.ofInt_mul ofInt_sub' zbb zbc wide8 eqN neN zca shr1 shr7 shr56
attribute [local go_sem high] zbe zbv
attribute [local go_sem] zaw zby zaj zas zaf zaz zar zak zbm zal zay zba
attribute [local go_sem] load26 load73 load23 store26 build73
attribute [local go_sem ↓] lrow26 lrow73 lrow23 srow26 zero26 brow73 zae zbk zbg zaa zab
attribute [local go_sem] zai zav zat zbj zbl zbr zaq zau zbs zbi zbh
attribute [local go_sem] nn2 nm2 nn3 nm3 nn4 nm4 nn5 nm5 nn6 nm6 nn7 nm7 nn8 nm8
section
attribute [local go_sem] zap zbq
attribute [local go_sem] Oper.semAt_some zao
attribute [local go_sem] zcj pacell0 pacell1 pacell2 pacell3 pacell4 pacell5 pacell6 pacell7 pacell42
attribute [local go_sem] zcs zcx zcp zcw zcv zdg zcu zdf zce zcr zdj zdc zch zbt zci zck boxPart loadPart storePart zcf zct buildPart0 buildPart4
attribute [local go_sem ↓] lrowPart srowPart browPart zcl zbz
attribute [local go_sem high] zag
attribute [local irreducible] partC
attribute [local go_sem high] tmod2_64w bit64w bit64zw
theorem atS_cases (p : PartT) : ((p.ph == 2) = false ∧ (p.ph == 3) = false ∧ (p.ph == 4) = false ∧ (p.ph == 6) = false ∧ atS p = true) ∨
    ((p.ph = 2 ∧ (p.at_ < 0 ∧ atS p = false ∨ 0 ≤ p.at_ ∧ (¬ p.at_ < 2 ∧ atS p = false ∨ p.at_ < 2 ∧ atS p = true))) ∨ (p.ph = 3 ∧ (p.at_ < 0 ∧ atS p = false ∨ 0 ≤ p.at_ ∧ (¬ p.at_ < 16 ∧ atS p = false ∨ p.at_ < 16 ∧ atS p = true))) ∨
    (p.ph = 4 ∧ (p.at_ < 0 ∧ atS p = false ∨ 0 ≤ p.at_ ∧ (¬ p.at_ < 16 ∧ atS p = false ∨ p.at_ < 16 ∧ atS p = true))) ∨ (p.ph = 6 ∧ (p.at_ < 0 ∧ atS p = false ∨ 0 ≤ p.at_ ∧ (¬ p.at_ < 80 ∧ atS p = false ∨ p.at_ < 80 ∧ atS p = true)))) := by
  simp only [beq_eq_false_iff_ne]
  have h := atS_iff p
  cases hb : atS p with
  | true =>
    have := h.1 hb
    simp only [Bool.true_eq_false, and_false, or_false, false_or, and_true]
    omega
  | false =>
    have : ¬ ((p.ph = 2 → 0 ≤ p.at_ ∧ p.at_ < 2) ∧ (p.ph = 3 ∨ p.ph = 4 → 0 ≤ p.at_ ∧ p.at_ < 16) ∧ (p.ph = 6 → 0 ≤ p.at_ ∧ p.at_ < 80)) := fun hh => by rw [h.2 hh] at hb; cases hb
    simp only [Bool.false_eq_true, and_false, or_false, false_or, and_true]
    omega
theorem rightS_cases (p : PartT) : (p.ph < 0 ∧ rightS p = false) ∨ 0 ≤ p.ph ∧ ((9 < p.ph ∧ rightS p = false) ∨ p.ph ≤ 9 ∧ ((p.who < 0 ∧ rightS p = false) ∨ 0 ≤ p.who ∧ ((8 ≤ p.who ∧ rightS p = false) ∨ p.who < 8 ∧ ((slabsS p.sl p.t0 p.t1 = false ∧ rightS p = false) ∨
    slabsS p.sl p.t0 p.t1 = true ∧ ((oddB p.count = true ∧ rightS p = false) ∨ oddB p.count = false ∧ rightS p = atS p))))) := by
  unfold rightS
  by_cases h0 : 0 ≤ p.ph
  · right; refine ⟨h0, ?_⟩
    by_cases h9 : p.ph ≤ 9
    · right; refine ⟨h9, ?_⟩
      by_cases w0 : 0 ≤ p.who
      · right; refine ⟨w0, ?_⟩
        by_cases w7 : p.who < 8
        · right; refine ⟨w7, ?_⟩
          cases slabsS p.sl p.t0 p.t1 with
          | false => left; simp
          | true =>
            right; refine ⟨rfl, ?_⟩
            cases oddB p.count with
            | true => left; simp
            | false => right; simp [h0, h9, w0, w7]
        · left; exact ⟨by omega, by simp [w7]⟩
      · left; exact ⟨by omega, by simp [w0]⟩
    · left; exact ⟨by omega, by simp [h9]⟩
  · left; exact ⟨by omega, by simp [h0]⟩
def checkS (p : PartT) : Int := if rightS p then 0 else 320
theorem pCheck_any (p : PartT) (w : World) : Calls Tryz.prog 46 #[.agg (partC p)] w fun e w' => e = .returned (I (checkS p)) ∧ Ch [] w w' := by
  have S1 := fun r c3 w h => pSlabs_any p.sl p.t0 p.t1 r c3 w h
  have hA := atS_cases p
  have hR := rightS_cases p
  unfold checkS
  obtain ⟨bA, hbA⟩ : ∃ b, atS p = b := ⟨_, rfl⟩
  obtain ⟨z, hz⟩ : ∃ b, rightS p = b := ⟨_, rfl⟩
  obtain ⟨bs, hbs⟩ : ∃ b, slabsS p.sl p.t0 p.t1 = b := ⟨_, rfl⟩
  rw [hbs] at S1
  rw [hbA, hz, hbs] at hR
  rw [hbA] at hA
  rw [hz]
  clear hbA hz hbs
  have C0 : Ch [] w (w.alloc (.cells (partC p) 51)) := (Ch.refl [] w).alloc _
  have b0 : (w.alloc (.cells (partC p) 51)).heap[w.heap.size]? = some (.cells (partC p) 51 (0, 0)) := by rw [zae, if_pos rfl]
  go_enter Tryz.func46, Tryz.ntmps46
  go_upto_region 1 with (fail)
  obtain ⟨w0, hw0⟩ : ∃ W, w.alloc (.cells (partC p) 51) = W := ⟨_, rfl⟩
  rw [hw0] at C0 b0 ⊢
  clear hw0
  obtain ⟨B, hB⟩ : ∃ b, w.heap.size = b := ⟨_, rfl⟩
  rw [hB] at b0 ⊢
  clear hB
  have hBn : ¬ B = w0.heap.size := by have := (Array.getElem?_eq_some_iff.1 b0).1; omega
  have D0 : Ch [] w (w0.alloc (.cells #[I p.sl, I p.t0, I p.t1] 3)) := C0.alloc _
  rcases hA with ⟨a1, a2, a3, a4, rfl⟩ | (⟨a1, ⟨a2, rfl⟩ | ⟨a2, ⟨a3, rfl⟩ | ⟨a3, rfl⟩⟩⟩ | ⟨a1, ⟨a2, rfl⟩ | ⟨a2, ⟨a3, rfl⟩ | ⟨a3, rfl⟩⟩⟩ | ⟨a1, ⟨a2, rfl⟩ | ⟨a2, ⟨a3, rfl⟩ | ⟨a3, rfl⟩⟩⟩ | ⟨a1, ⟨a2, rfl⟩ | ⟨a2, ⟨a3, rfl⟩ | ⟨a3, rfl⟩⟩⟩)
  all_goals
    go_upto_region 10 with (fail)
    rcases hR with ⟨r1, rfl⟩ | ⟨r1, ⟨r2, rfl⟩ | ⟨r2, ⟨r3, rfl⟩ | ⟨r3, ⟨r4, rfl⟩ | ⟨r4, ⟨rfl, rfl⟩ | ⟨rfl, ⟨r5, rfl⟩ | ⟨r5, rfl⟩⟩⟩⟩⟩⟩
    all_goals
      first
      | (exfalso; omega)
      | (go_wp2_with (go_at_call 113; refine (S1 _ _ _ (by simp [go_sem])).mono ?_; rintro e w' ⟨rfl, rfl⟩)
         go_ret
         exact ⟨rfl, by first | exact C0 | exact D0⟩)
end
end Go.Proofs.Hc
