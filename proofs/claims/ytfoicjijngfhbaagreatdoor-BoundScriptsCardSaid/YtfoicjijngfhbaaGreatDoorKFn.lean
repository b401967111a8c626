/- BoundScripts returns true for every two scripts, and its arguments read behind the call as they read before; the table of takes reads as the program's text lays it. Conditions: none but the listed variable. -/
import Derived.Test.YtfoicjijngfhbaaGreatDoorKBf
import Derived.Test.YtfoicjijngfhbaaGreatDoorKDa
import Derived.Test.YtfoicjijngfhbaaGreatDoorKFm
import Derived.Test.YtfoicjijngfhbaaGreatDoorKEa
import Derived.Test.YtfoicjijngfhbaaGreatDoorKFk
import Derived.Test.YtfoicjijngfhbaaGreatDoorKFl
import Derived.Test.YtfoicjijngfhbaaGreatDoorKHm
import Derived.Below
import Derived.BigQuiet
import Derived.ChangeKeysEq
import Derived.Deep.Cut
import Derived.Deep.CutRange
import Derived.Deep.Draws
import Derived.Deep.OwnRows
import Derived.Deep.QuietTactic
import Derived.Deep.RegionHeld
import Derived.Deep.Slices
import Derived.LaidMore
import Derived.Laws.AppendOwn
import Derived.Laws.Bits64
import Derived.Laws.Bits64b
import Derived.Laws.CopyOwn
import Derived.Laws.CopyRow
import Derived.Laws.EntriesVeiled
import Derived.Laws.IdiomCopy
import Derived.Laws.StructEq
import Derived.Laws.Tables
import Derived.Lib.AppendZerosOnto
import Derived.Lib.BitFns
import Derived.Lib.Hide
import Derived.Lib.Slices
import Derived.Lib.Small
import Derived.Lib.Strings
import Derived.Lib.Tables
import Derived.Lib.Walk
import Derived.LoopIn
import Derived.LoopNIn
import Derived.MakeChecks
import Derived.Maps.RangeWalk
import Derived.Maps.Views
import Derived.OpenShut
import Derived.OwnWalkIn
import Derived.ProofKit
import Derived.RangeFuncCalls
import Derived.RangeFuncRecord
import Derived.RangeFuncSeq
import Derived.Recover
import Derived.ScopeJumps
import Derived.SevenTiedAt
import Derived.Sort.AssemblyPlain
import Derived.Sort.Defs
import Derived.Sort.LotC
import Derived.Sort.LotD1
import Derived.Sort.LotD5
import Derived.Sort.LotD6
import Derived.Sort.Walk13a
import Derived.StillTail
import Derived.Stop.Joined
import Derived.TacticsInMore
import Derived.Test.YtfoicjijngfhbaaGreatDoorCards
import Derived.Test.YtfoicjijngfhbaaGreatDoorProg
import Derived.Test.YtfoicjijngfhbaaGreatDoorRows
import Derived.Test.YtfoicjijngfhbaaGreatDoorTie
import Derived.WalkKit
import Derived.WalkLawsBesides
set_option linter.unusedSimpArgs false
set_option linter.unusedVariables false
namespace Go.Proofs.YtfoicjijngfhbaaGreatDoor
open Go.ChangeShapes Go.WideShapes Go.ChangeAt Go.RowKit Go.Proofs.Hc
set_option linter.unusedVariables false
abbrev laidSc : List (String × DataW Unit) := [("honeycomb/script.takes", Rows.laid_honeycomb_script_takes)]
theorem scripts29_laidOut : laidOutB Tryz.prog = true := by kernel_rfl
theorem scripts29_own : ownKnob Tryz.prog.godebug = none := by kernel_rfl
theorem stakes_global : Tryz.prog.globalNamed "honeycomb/script.takes" = some 0 := by kernel_rfl
theorem stakes_type : (Tryz.prog.globals[0]?).map (·.type) = some 109 := by kernel_rfl
theorem scells_8 : Tryz.prog.cellsOf 109 = 8 := by kernel_rfl
set_option maxRecDepth 100000 in
/-- What the condition gives the walk: the table of takes. -/
theorem takesS_of_laid {W : World} (h : laidMetH Tryz.prog laidSc W) : TakesAt W := by
  rw [MakeChecks.laidMetH_plain _ _ _ (by kernel_rfl)] at h
  obtain ⟨ps, ⟨g0, t0, cs0, f0, p0, q0, hg0, ht0, hv0, hd0, _, _⟩, _, _⟩ := h
  obtain rfl := Option.some.inj (stakes_global.symm.trans hg0)
  obtain rfl := Option.some.inj (stakes_type.symm.trans ht0)
  obtain ⟨xs, m1, hD, hx1, hlen, hn3, hel⟩ := DataW.trod_array Tryz.underlying109 hd0
  have hmap : xs.map (fun x => x.1) = takesL.map fun v => (.lit (.int .i64 v) : DataW Unit) := by
    have h1 := (Prod.mk.inj hx1).1
    have h2 : (DataW.agg (takesL.map fun v => (.lit (.int .i64 v) : DataW Unit))) = DataW.agg (xs.map fun x => x.1) := h1
    exact (DataW.agg.inj h2).symm
  have hc : ∀ i, i < 8 → W.cell? ⟨0, i, none⟩ = some (I (takesL.getD i 0)) := by
    intro i hi
    have e1 := hel i hi
    rw [cellsB_int, Nat.mul_one, List.getElem?_eq_getElem (by omega)] at e1
    obtain ⟨k, hk, hy, _⟩ := DataW.trod_int Tryz.underlying3 e1
    have hg := congrArg (fun l => l[i]?) hmap
    have ht : takesL[i]? = some (takesL.getD i 0) := by
      rcases (show i = 0 ∨ i = 1 ∨ i = 2 ∨ i = 3 ∨ i = 4 ∨ i = 5 ∨ i = 6 ∨ i = 7 by omega) with rfl | rfl | rfl | rfl | rfl | rfl | rfl | rfl <;> rfl
    rw [List.getElem?_map, List.getElem?_map, List.getElem?_eq_getElem (by omega), ht, Option.map_some, Option.map_some, hy] at hg
    obtain ⟨t, htt⟩ : ∃ t, takesL.getD i 0 = t := ⟨_, rfl⟩
    rw [htt] at hg ⊢
    have hkv : k = t := by simpa using hg
    rw [World.var?_cell hg0 hv0 i]
    have h2 := one_cellB hk
    rw [Array.getElem?_toList] at h2
    rw [h2, hkv]
  exact ⟨cell_inB (hc 0 (by omega)), hc⟩
/-- The witness: no script at all. -/
abbrev noScript29 : Value := .agg #[.int .i64 0, .int .i64 0, .int .u64 0, .slice none 0 0, .slice none 0 0]
/-- The door's own heap meets the condition. -/
theorem scripts29_door (os : Os) (args : Array Value) : laidMetH Tryz.prog laidSc ((World.doorLaid Tryz.prog 14 os).forCall (fun _ _ => 0) ⟨#[], args, []⟩).memory :=
  laidMetH_of_parts3 (fuel := 8) (laidMet_of_run' 8 (by kernel_rfl) (by kernel_rfl)) (by kernel_rfl) (by kernel_rfl)
set_option maxRecDepth 100000 in
theorem scripts29_lifted (os : Os) (started : os.Started) (H : Type) (enc : TypeId × Value → H) :
    ReturnsInHanded {} Tryz.checked os 3 .any (fun w args => (Rows.boundScriptsSpec.pre enc Tryz.prog Tryz.f3 [] false w args ∧ laidMetH Tryz.prog laidSc w) ∧ sizedMet enc Tryz.prog Tryz.f3 (OpenSpec.ofChange Rows.boundScriptsSpec) false w args)
      (Rows.boundScriptsSpec.post enc Tryz.prog Tryz.f3 false true false false) := by
  refine returnsInHanded_of_change_and (C := Tryz.checked) (X := fun w _ => laidMetH Tryz.prog laidSc w) (fun _ _ _ hh h => h.of_heap hh) scripts29_own started (by kernel_rfl) Tryz.func3
    (ChangeSpec.witness_shaped (enc := enc) (C := Tryz.checked) (os := os) (X := fun w _ => laidMetH Tryz.prog laidSc w) false (World.doorLaid Tryz.prog 14 os) #[noScript29, noScript29] 8 rfl (World.shaped_of_RefB (by kernel_rfl) (by kernel_rfl)) (by kernel_rfl) (by kernel_rfl) (by kernel_rfl) (scripts29_door os _)) ?_
  intro W base args ds gs before hval0 hW _ _ hL _
  have hval : ∀ (j : Nat) t v, Tryz.f3.params[j]? = some t → args[j]? = some v → Value.okWide Tryz.prog W .any base t v := hval0
  have hW' := hW
  obtain ⟨p, q, hA0, hV, rfl, hfz, hnd⟩ := hW
  have hA : DataW.TrodAll enc Tryz.prog W 0 (fun _ => true) true Tryz.f3.params.toList args.toList ds p := hA0
  rw [Tryz.params3] at hA hval
  obtain ⟨v0, vs0, d0, ds0, p0, q0, hargs, rfl, rfl, h0, r0⟩ := trodAll_cons hA
  obtain ⟨v1, vs1, d1, ds1, p1, q1, rfl, rfl, rfl, h1, r1⟩ := trodAll_cons r0
  obtain ⟨rfl, rfl, rfl⟩ := trodAll_nil r1
  obtain rfl : args = #[v0, v1] := by cases args; simp_all
  obtain ⟨rfl, rfl⟩ := trodVars_none hV
  have lt0 : ∀ x ∈ p0, x.block < W.heap.size := by obtain ⟨m, hm⟩ := h0; exact DataW.trod_lt m _ _ _ hm
  have lt1 : ∀ x ∈ p1, x.block < W.heap.size := by obtain ⟨m, hm⟩ := h1; exact DataW.trod_lt m _ _ _ hm
  obtain ⟨s, ps, rfl, RA⟩ := open_scriptC (hval 0 26 v0 rfl rfl) h0
  obtain ⟨t, qs, rfl, RB⟩ := open_scriptC (hval 1 26 v1 rfl rfl) h1
  clear hA0 hval0
  refine (scriptsLaw s t ps qs W RA RB (takesS_of_laid hL)).mono fun e W' ⟨he, hc⟩ => ?_
  subst he
  have bel := hc.below_nil
  exact ⟨_, rfl, _, _, _, [], _, [], hW', trodAll_mk1 (shut_bool Tryz.underlying4 _), (trodAll_cons_mk (Below.trod scripts29_laidOut (by kernel_rfl) (of_decide_eq_true (by kernel_rfl)) h0 bel lt0) (trodAll_cons_mk (Below.trod scripts29_laidOut (by kernel_rfl) (of_decide_eq_true (by kernel_rfl)) h1 bel lt1) trodAll_mk0)), rfl, bel.frame _, fun h => by cases h⟩
theorem scripts29_over : Rows.boundScriptsRow.holds Tryz.pinned (OpenSpec.ofChange Rows.boundScriptsSpec) :=
  OpenClaim.holds_of_wide 3 Tryz.f3 rfl rfl rfl rfl rfl rfl rfl ⟨rfl, rfl, rfl, rfl, rfl⟩ rfl rfl rfl rfl rfl scripts29_named Tryz.func3 scripts29_closed scripts29_inst scripts29_wrap
    (fun os started H enc _ => scripts29_lifted os started H enc)
theorem scripts29_row : Rows.BoundScriptsSaid := scripts29_over
/-- The tied card. -/
theorem scripts29_holds : Rows.BoundScriptsCardSaid :=
  Claim7.holds_tied_plain_at .later [] _ _ _ _
    scripts29_row (fun _ h => by cases h) (by kernel_rfl) (fun _ h => by cases h) boundScripts_row_tie rfl ⟨rfl, rfl⟩ (by kernel_rfl) rfl
    (fun f fn hf hfn => by
      obtain rfl : f = 3 := Option.some.inj ((show Tryz.prog.funcNamed "honeycomb/honeycomblaw29.BoundScripts" = some 3 by kernel_rfl).symm.trans hf) |>.symm
      obtain rfl : fn = Tryz.f3 := (Option.some.inj (Tryz.func3.symm.trans hfn)).symm
      exact ⟨by kernel_rfl, fun j t ht => by
        rw [Tryz.params3] at ht
        have hm : t ∈ [26, 26] := by simpa using Array.mem_of_getElem? ht
        have hall : ([26, 26].all fun u => !Tryz.prog.wantsStandIn u) = true := by kernel_rfl
        exact (show Tryz.prog.wantsStandIn t = false by simpa using List.all_eq_true.1 hall t hm)⟩)
    (by kernel_rfl)
#print axioms scripts29_holds
end Go.Proofs.YtfoicjijngfhbaaGreatDoor
