/- Package write: Need. -/
import Derived.Test.YtmfajobocpaimaaGreatKHca
import Derived.Test.YtmfajobocpaimaaGreatKHxe
import Derived.Test.YtmfajobocpaimaaGreatKHni
import Derived.Test.YtmfajobocpaimaaGreatKHnl
import Derived.Test.YtmfajobocpaimaaGreatKHnm
import Derived.Test.YtmfajobocpaimaaGreatKHnn
import Derived.Test.YtmfajobocpaimaaGreatKHnt
import Derived.Test.YtmfajobocpaimaaGreatKHq
import Derived.Below
import Derived.BigQuiet
import Derived.Deep.Draws
import Derived.Deep.Light
import Derived.Deep.QuietTactic
import Derived.Deep.RegionHeld
import Derived.Laws.CopyRow
import Derived.Laws.StructEq
import Derived.Laws.Tables
import Derived.Lib.AppendZerosOnto
import Derived.Lib.Hide
import Derived.Lib.Tables
import Derived.Lib.Walk
import Derived.LoopIn
import Derived.LoopN
import Derived.LoopNIn
import Derived.Maps.AppendAt
import Derived.Maps.Views
import Derived.OwnWalkIn
import Derived.RangeFuncBox
import Derived.RangeFuncCalls
import Derived.RangeFuncRecord
import Derived.RangeFuncSeq
import Derived.Recover
import Derived.RegionTactic
import Derived.ScopeJumps
import Derived.Shelf.Slices.Clone
import Derived.StillTail
import Derived.StillTailTactics
import Derived.TacticsInMore
import Derived.Test.YtmfajobocpaimaaGreatProg
import Derived.WalkKit
import Derived.WalkLawsBesides
import Derived.WalkMore
import Derived.WalkSpells
set_option linter.unusedSimpArgs false
set_option linter.unusedVariables false
namespace Go.Proofs.Hc
open Go.RowKit
theorem accessesV_get : ∀ n, n < 14 → accessesV[n]? = some (.func (.func ([171, 172, 173, 174, 175, 176, 177, 178, 179, 180, 181, 182, 183, 184].getD n 0)) #[] #[]) := by
  intro n hn
  unfold accessesV
  rcases (show n = 0 ∨ n = 1 ∨ n = 2 ∨ n = 3 ∨ n = 4 ∨ n = 5 ∨ n = 6 ∨ n = 7 ∨ n = 8 ∨ n = 9 ∨ n = 10 ∨ n = 11 ∨ n = 12 ∨ n = 13 by omega) with rfl | rfl | rfl | rfl | rfl | rfl | rfl | rfl | rfl | rfl | rfl | rfl | rfl | rfl <;> rfl
theorem wNeed_0 (p : PenT) (who : Int) (hr : rightP p = true) (e : p.ph = 0) (w : World) : Calls Tryz.prog 57 #[.agg (penC p), I who] w fun e w' => e = .returned (.tuple #[.agg (accC who 1 (16 + 40 * p.sl + wordP p) 0), .bool true]) ∧ Ch [] w w' := by
  have R := (rightP_iff p).1 hr
  have hS : 4 ≤ p.ph → 0 ≤ slotP p ∧ slotP p ≤ 15 := fun h4 => slotP_range R h4 (by omega)
  have hfr : 4 ≤ p.ph → wantsP p = 1 → 0 < p.free := fun h4 h => by have := ((R.goes.resolve_left (by omega)).resolve_left (by omega)).2; omega
  obtain ⟨hw0, hw38⟩ := wordP_range R (by omega)
  have hwd : wordP p = 0 := by unfold wordP; simp [e]
  have h12 : (p.ph == 12) = false := by rw [e]; decide
  exact wNeed_core p who 0 171 1 (wordP p) 0 hr e (by omega) h12 R.sl0 R.sl1 hw0 (by omega) (accessesV_get 0 (by omega)) Tryz.call171 (fun g w hg => by
    have hx := wa_count p g w hg
    rw [hwd]
    exact hx) w
theorem wNeed_1 (p : PenT) (who : Int) (hr : rightP p = true) (e : p.ph = 1) (w : World) : Calls Tryz.prog 57 #[.agg (penC p), I who] w fun e w' => e = .returned (.tuple #[.agg (accC who 1 (16 + 40 * p.sl + wordP p) 0), .bool true]) ∧ Ch [] w w' := by
  have R := (rightP_iff p).1 hr
  have hS : 4 ≤ p.ph → 0 ≤ slotP p ∧ slotP p ≤ 15 := fun h4 => slotP_range R h4 (by omega)
  have hfr : 4 ≤ p.ph → wantsP p = 1 → 0 < p.free := fun h4 h => by have := ((R.goes.resolve_left (by omega)).resolve_left (by omega)).2; omega
  obtain ⟨hw0, hw38⟩ := wordP_range R (by omega)
  have hwd : wordP p = 4 + (groupP p : Int) := by unfold wordP; simp [e]
  have h12 : (p.ph == 12) = false := by rw [e]; decide
  exact wNeed_core p who 1 172 1 (wordP p) 0 hr e (by omega) h12 R.sl0 R.sl1 hw0 (by omega) (accessesV_get 1 (by omega)) Tryz.call172 (fun g w hg => by
    have hx := wa_ctrl p R.grp g w hg
    rw [hwd]
    exact hx) w
theorem wNeed_2 (p : PenT) (who : Int) (hr : rightP p = true) (e : p.ph = 2) (w : World) : Calls Tryz.prog 57 #[.agg (penC p), I who] w fun e w' => e = .returned (.tuple #[.agg (accC who 1 (16 + 40 * p.sl + wordP p) 0), .bool true]) ∧ Ch [] w w' := by
  have R := (rightP_iff p).1 hr
  have hS : 4 ≤ p.ph → 0 ≤ slotP p ∧ slotP p ≤ 15 := fun h4 => slotP_range R h4 (by omega)
  have hfr : 4 ≤ p.ph → wantsP p = 1 → 0 < p.free := fun h4 h => by have := ((R.goes.resolve_left (by omega)).resolve_left (by omega)).2; omega
  obtain ⟨hw0, hw38⟩ := wordP_range R (by omega)
  have hwd : wordP p = 6 + 8 * (groupP p : Int) + (laneP p.left : Int) := by unfold wordP; simp [e]
  have h12 : (p.ph == 12) = false := by rw [e]; decide
  exact wNeed_core p who 2 173 1 (wordP p) 0 hr e (by omega) h12 R.sl0 R.sl1 hw0 (by omega) (accessesV_get 2 (by omega)) Tryz.call173 (fun g w hg => by
    have hx := wa_key p R.grp g w hg
    rw [hwd]
    exact hx) w
theorem wNeed_3 (p : PenT) (who : Int) (hr : rightP p = true) (e : p.ph = 3) (w : World) : Calls Tryz.prog 57 #[.agg (penC p), I who] w fun e w' => e = .returned (.tuple #[.agg (accC who 1 (16 + 40 * p.sl + wordP p) 0), .bool true]) ∧ Ch [] w w' := by
  have R := (rightP_iff p).1 hr
  have hS : 4 ≤ p.ph → 0 ≤ slotP p ∧ slotP p ≤ 15 := fun h4 => slotP_range R h4 (by omega)
  have hfr : 4 ≤ p.ph → wantsP p = 1 → 0 < p.free := fun h4 h => by have := ((R.goes.resolve_left (by omega)).resolve_left (by omega)).2; omega
  obtain ⟨hw0, hw38⟩ := wordP_range R (by omega)
  have hwd : wordP p = 22 + p.slot := by unfold wordP; simp [e]
  have h12 : (p.ph == 12) = false := by rw [e]; decide
  exact wNeed_core p who 3 174 1 (wordP p) 0 hr e (by omega) h12 R.sl0 R.sl1 hw0 (by omega) (accessesV_get 3 (by omega)) Tryz.call174 (fun g w hg => by
    have hx := wa_look p R.slot0 R.slot1 g w hg
    rw [hwd]
    exact hx) w
theorem wNeed_4 (p : PenT) (who : Int) (hr : rightP p = true) (e : p.ph = 4) (w : World) : Calls Tryz.prog 57 #[.agg (penC p), I who] w fun e w' => e = .returned (.tuple #[.agg (accC who 1 (16 + 40 * p.sl + wordP p) 0), .bool true]) ∧ Ch [] w w' := by
  have R := (rightP_iff p).1 hr
  have hS : 4 ≤ p.ph → 0 ≤ slotP p ∧ slotP p ≤ 15 := fun h4 => slotP_range R h4 (by omega)
  have hfr : 4 ≤ p.ph → wantsP p = 1 → 0 < p.free := fun h4 h => by have := ((R.goes.resolve_left (by omega)).resolve_left (by omega)).2; omega
  obtain ⟨hw0, hw38⟩ := wordP_range R (by omega)
  have hwd : wordP p = 2 := by unfold wordP; simp [e]
  have h12 : (p.ph == 12) = false := by rw [e]; decide
  exact wNeed_core p who 4 175 1 (wordP p) 0 hr e (by omega) h12 R.sl0 R.sl1 hw0 (by omega) (accessesV_get 4 (by omega)) Tryz.call175 (fun g w hg => by
    have hx := wa_can p g w hg
    rw [hwd]
    exact hx) w
theorem wNeed_5 (p : PenT) (who : Int) (hr : rightP p = true) (e : p.ph = 5) (w : World) : Calls Tryz.prog 57 #[.agg (penC p), I who] w fun e w' => e = .returned (.tuple #[.agg (accC who 1 (16 + 40 * p.sl + wordP p) 0), .bool true]) ∧ Ch [] w w' := by
  have R := (rightP_iff p).1 hr
  have hS : 4 ≤ p.ph → 0 ≤ slotP p ∧ slotP p ≤ 15 := fun h4 => slotP_range R h4 (by omega)
  have hfr : 4 ≤ p.ph → wantsP p = 1 → 0 < p.free := fun h4 h => by have := ((R.goes.resolve_left (by omega)).resolve_left (by omega)).2; omega
  obtain ⟨hw0, hw38⟩ := wordP_range R (by omega)
  have hwd : wordP p = 3 := by unfold wordP; simp [e]
  have h12 : (p.ph == 12) = false := by rw [e]; decide
  exact wNeed_core p who 5 176 1 (wordP p) 0 hr e (by omega) h12 R.sl0 R.sl1 hw0 (by omega) (accessesV_get 5 (by omega)) Tryz.call176 (fun g w hg => by
    have hx := wa_live p g w hg
    rw [hwd]
    exact hx) w
theorem wNeed_6 (p : PenT) (who : Int) (hr : rightP p = true) (e : p.ph = 6) (w : World) : Calls Tryz.prog 57 #[.agg (penC p), I who] w fun e w' => e = .returned (.tuple #[.agg (accC who 2 (16 + 40 * p.sl + wordP p) (N (whatP p))), .bool true]) ∧ Ch [] w w' := by
  have R := (rightP_iff p).1 hr
  have hS : 4 ≤ p.ph → 0 ≤ slotP p ∧ slotP p ≤ 15 := fun h4 => slotP_range R h4 (by omega)
  have hfr : 4 ≤ p.ph → wantsP p = 1 → 0 < p.free := fun h4 h => by have := ((R.goes.resolve_left (by omega)).resolve_left (by omega)).2; omega
  obtain ⟨hw0, hw38⟩ := wordP_range R (by omega)
  have hwd : wordP p = 0 := by unfold wordP; simp [e]
  have h12 : (p.ph == 12) = false := by rw [e]; decide
  have hwt : whatP p = p.count + 1#64 := by unfold whatP; simp [e, valP, lessP]
  rw [hwt]
  exact wNeed_core p who 6 177 2 (wordP p) (N (p.count + 1#64)) hr e (by omega) h12 R.sl0 R.sl1 hw0 (by omega) (accessesV_get 6 (by omega)) Tryz.call177 (fun g w hg => by
    have hx := wa_open p g w hg
    rw [hwd]
    exact hx) w
theorem wNeed_7 (p : PenT) (who : Int) (hr : rightP p = true) (e : p.ph = 7) (w : World) : Calls Tryz.prog 57 #[.agg (penC p), I who] w fun e w' => e = .returned (.tuple #[.agg (accC who 2 (16 + 40 * p.sl + wordP p) (N (whatP p))), .bool true]) ∧ Ch [] w w' := by
  have R := (rightP_iff p).1 hr
  have hS : 4 ≤ p.ph → 0 ≤ slotP p ∧ slotP p ≤ 15 := fun h4 => slotP_range R h4 (by omega)
  have hfr : 4 ≤ p.ph → wantsP p = 1 → 0 < p.free := fun h4 h => by have := ((R.goes.resolve_left (by omega)).resolve_left (by omega)).2; omega
  obtain ⟨hw0, hw38⟩ := wordP_range R (by omega)
  have hwd : wordP p = 6 + slotP p := by unfold wordP; simp [e]
  have h12 : (p.ph == 12) = false := by rw [e]; decide
  have hwt : whatP p = p.key := by unfold whatP; simp [e, valP, lessP]
  rw [hwt]
  exact wNeed_core p who 7 178 2 (wordP p) (N (p.key)) hr e (by omega) h12 R.sl0 R.sl1 hw0 (by omega) (accessesV_get 7 (by omega)) Tryz.call178 (fun g w hg => by
    have hx := wa_puts p R.free0 R.free1 (hS (by omega)).1 (hS (by omega)).2 g w hg
    rw [hwd]
    exact hx) w
theorem wNeed_8 (p : PenT) (who : Int) (hr : rightP p = true) (e : p.ph = 8) (w : World) : Calls Tryz.prog 57 #[.agg (penC p), I who] w fun e w' => e = .returned (.tuple #[.agg (accC who 2 (16 + 40 * p.sl + wordP p) (N (whatP p))), .bool true]) ∧ Ch [] w w' := by
  have R := (rightP_iff p).1 hr
  have hS : 4 ≤ p.ph → 0 ≤ slotP p ∧ slotP p ≤ 15 := fun h4 => slotP_range R h4 (by omega)
  have hfr : 4 ≤ p.ph → wantsP p = 1 → 0 < p.free := fun h4 h => by have := ((R.goes.resolve_left (by omega)).resolve_left (by omega)).2; omega
  obtain ⟨hw0, hw38⟩ := wordP_range R (by omega)
  have hwd : wordP p = 22 + slotP p := by unfold wordP; simp [e]
  have h12 : (p.ph == 12) = false := by rw [e]; decide
  have hwt : whatP p = valP p := by unfold whatP; simp [e, valP, lessP]
  rw [hwt]
  exact wNeed_core p who 8 179 2 (wordP p) (N (valP p)) hr e (by omega) h12 R.sl0 R.sl1 hw0 (by omega) (accessesV_get 8 (by omega)) Tryz.call179 (fun g w hg => by
    have hx := wa_sets p R.free0 R.free1 (hS (by omega)).1 (hS (by omega)).2 g w hg
    rw [hwd]
    exact hx) w
theorem wNeed_9 (p : PenT) (who : Int) (hr : rightP p = true) (e : p.ph = 9) (w : World) : Calls Tryz.prog 57 #[.agg (penC p), I who] w fun e w' => e = .returned (.tuple #[.agg (accC who 2 (16 + 40 * p.sl + wordP p) (N (whatP p))), .bool true]) ∧ Ch [] w w' := by
  have R := (rightP_iff p).1 hr
  have hS : 4 ≤ p.ph → 0 ≤ slotP p ∧ slotP p ≤ 15 := fun h4 => slotP_range R h4 (by omega)
  have hfr : 4 ≤ p.ph → wantsP p = 1 → 0 < p.free := fun h4 h => by have := ((R.goes.resolve_left (by omega)).resolve_left (by omega)).2; omega
  obtain ⟨hw0, hw38⟩ := wordP_range R (by omega)
  have hwd : wordP p = 4 + slotP p / 8 := by unfold wordP; simp [e]
  have h12 : (p.ph == 12) = false := by rw [e]; decide
  have hwt : whatP p = markP p := by unfold whatP; simp [e, valP, lessP]
  rw [hwt]
  exact wNeed_core p who 9 180 2 (wordP p) (N (markP p)) hr e (by omega) h12 R.sl0 R.sl1 hw0 (by omega) (accessesV_get 9 (by omega)) Tryz.call180 (fun g w hg => by
    have hx := wa_marks p R.free0 R.free1 (hS (by omega)).1 (hS (by omega)).2 g w hg
    rw [hwd]
    exact hx) w
theorem wNeed_10 (p : PenT) (who : Int) (hr : rightP p = true) (e : p.ph = 10) (w : World) : Calls Tryz.prog 57 #[.agg (penC p), I who] w fun e w' => e = .returned (.tuple #[.agg (accC who 2 (16 + 40 * p.sl + wordP p) (N (whatP p))), .bool true]) ∧ Ch [] w w' := by
  have R := (rightP_iff p).1 hr
  have hS : 4 ≤ p.ph → 0 ≤ slotP p ∧ slotP p ≤ 15 := fun h4 => slotP_range R h4 (by omega)
  have hfr : 4 ≤ p.ph → wantsP p = 1 → 0 < p.free := fun h4 h => by have := ((R.goes.resolve_left (by omega)).resolve_left (by omega)).2; omega
  obtain ⟨hw0, hw38⟩ := wordP_range R (by omega)
  have hwd : wordP p = 2 := by unfold wordP; simp [e]
  have h12 : (p.ph == 12) = false := by rw [e]; decide
  have hwt : whatP p = lessP p := by unfold whatP; simp [e, valP, lessP]
  rw [hwt]
  exact wNeed_core p who 10 181 2 (wordP p) (N (lessP p)) hr e (by omega) h12 R.sl0 R.sl1 hw0 (by omega) (accessesV_get 10 (by omega)) Tryz.call181 (fun g w hg => by
    have hx := wa_lesser p R.free0 R.free1 (hfr (by omega)) g w hg
    rw [hwd]
    exact hx) w
theorem wNeed_11 (p : PenT) (who : Int) (hr : rightP p = true) (e : p.ph = 11) (w : World) : Calls Tryz.prog 57 #[.agg (penC p), I who] w fun e w' => e = .returned (.tuple #[.agg (accC who 2 (16 + 40 * p.sl + wordP p) (N (whatP p))), .bool true]) ∧ Ch [] w w' := by
  have R := (rightP_iff p).1 hr
  have hS : 4 ≤ p.ph → 0 ≤ slotP p ∧ slotP p ≤ 15 := fun h4 => slotP_range R h4 (by omega)
  have hfr : 4 ≤ p.ph → wantsP p = 1 → 0 < p.free := fun h4 h => by have := ((R.goes.resolve_left (by omega)).resolve_left (by omega)).2; omega
  obtain ⟨hw0, hw38⟩ := wordP_range R (by omega)
  have hwd : wordP p = 3 := by unfold wordP; simp [e]
  have h12 : (p.ph == 12) = false := by rw [e]; decide
  have hwt : whatP p = p.live + byP (wantsP p) := by unfold whatP; simp [e, valP, lessP]
  rw [hwt]
  exact wNeed_core p who 11 182 2 (wordP p) (N (p.live + byP (wantsP p))) hr e (by omega) h12 R.sl0 R.sl1 hw0 (by omega) (accessesV_get 11 (by omega)) Tryz.call182 (fun g w hg => by
    have hx := wa_more p g w hg
    rw [hwd]
    exact hx) w
theorem wNeed_13 (p : PenT) (who : Int) (hr : rightP p = true) (e : p.ph = 13) (w : World) : Calls Tryz.prog 57 #[.agg (penC p), I who] w fun e w' => e = .returned (.tuple #[.agg (accC who 2 (16 + 40 * p.sl + wordP p) (N (whatP p))), .bool true]) ∧ Ch [] w w' := by
  have R := (rightP_iff p).1 hr
  have hS : 4 ≤ p.ph → 0 ≤ slotP p ∧ slotP p ≤ 15 := fun h4 => slotP_range R h4 (by omega)
  have hfr : 4 ≤ p.ph → wantsP p = 1 → 0 < p.free := fun h4 h => by have := ((R.goes.resolve_left (by omega)).resolve_left (by omega)).2; omega
  obtain ⟨hw0, hw38⟩ := wordP_range R (by omega)
  have hwd : wordP p = 0 := by unfold wordP; simp [e]
  have h12 : (p.ph == 12) = false := by rw [e]; decide
  have hwt : whatP p = p.count + 2#64 := by unfold whatP; simp [e, valP, lessP]
  rw [hwt]
  exact wNeed_core p who 13 184 2 (wordP p) (N (p.count + 2#64)) hr e (by omega) h12 R.sl0 R.sl1 hw0 (by omega) (accessesV_get 13 (by omega)) Tryz.call184 (fun g w hg => by
    have hx := wa_close p g w hg
    rw [hwd]
    exact hx) w
theorem wNeed_12 (p : PenT) (who : Int) (hr : rightP p = true) (e : p.ph = 12) (w : World) : Calls Tryz.prog 57 #[.agg (penC p), I who] w fun e w' => e = .returned (.tuple #[.agg (accC who 4 1 (N (byP (wantsP p)))), .bool true]) ∧ Ch [] w w' :=
  wNeed_add p who 12 183 4 1 (N (byP (wantsP p))) hr e (by omega) e (accessesV_get 12 (by omega)) Tryz.call183 (fun g w hg => wa_size p g w hg) w
theorem wNeed_any (p : PenT) (who : Int) (w : World) : Calls Tryz.prog 57 #[.agg (penC p), I who] w fun e w' => e = .returned (needV who (needP p)) ∧ Ch [] w w' := by
  cases h : (rightP p && decide (p.ph ≤ 13)) with
  | false => rw [needP, h, if_neg (by decide)]; exact wNeed_no p who h w
  | true =>
    rw [needP, h, if_pos rfl]
    simp only [Bool.and_eq_true, decide_eq_true_eq] at h
    obtain ⟨hr, h13⟩ := h
    have R := (rightP_iff p).1 hr
    have hp0 := R.ph0
    rw [needV]
    by_cases h12 : p.ph = 12
    · rw [if_pos h12]; exact wNeed_12 p who hr h12 w
    · rw [if_neg h12]
      by_cases h5 : 5 < p.ph
      · rw [if_pos h5, if_pos h5]
        rcases (show p.ph = 6 ∨ p.ph = 7 ∨ p.ph = 8 ∨ p.ph = 9 ∨ p.ph = 10 ∨ p.ph = 11 ∨ p.ph = 13 by omega) with e | e | e | e | e | e | e
        · exact wNeed_6 p who hr e w
        · exact wNeed_7 p who hr e w
        · exact wNeed_8 p who hr e w
        · exact wNeed_9 p who hr e w
        · exact wNeed_10 p who hr e w
        · exact wNeed_11 p who hr e w
        · exact wNeed_13 p who hr e w
      · rw [if_neg h5, if_neg h5]
        rcases (show p.ph = 0 ∨ p.ph = 1 ∨ p.ph = 2 ∨ p.ph = 3 ∨ p.ph = 4 ∨ p.ph = 5 by omega) with e | e | e | e | e | e
        · exact wNeed_0 p who hr e w
        · exact wNeed_1 p who hr e w
        · exact wNeed_2 p who hr e w
        · exact wNeed_3 p who hr e w
        · exact wNeed_4 p who hr e w
        · exact wNeed_5 p who hr e w
end Go.Proofs.Hc
