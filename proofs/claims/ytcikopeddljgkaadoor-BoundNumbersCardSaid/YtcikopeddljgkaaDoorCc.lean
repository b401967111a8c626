import Derived.Test.YtcikopeddljgkaaDoorCa
import Derived.Test.YtcikopeddljgkaaDoorCb
import Derived.Test.YtcikopeddljgkaaDoorRows
import Derived.Test.YtcikopeddljgkaaDoorTie
import Derived.Test.YtcikopeddljgkaaDoorCards
import Derived.WalkKit
import Derived.ProofKit
import Derived.OpenShut
import Derived.LaidMore
import Derived.Stop.Joined
import Derived.MakeChecks
import Derived.SevenTiedAt
/- BoundNumbers returns true for every row of three numbers, and its argument reads behind the call as it read before; the table of takes reads as the program's text lays it. Conditions: none but the listed variable. -/
namespace Go.Proofs.YtcikopeddljgkaaDoor
open Go.ChangeShapes Go.WideShapes Go.ChangeAt Go.RowKit Go.Proofs.Hc
set_option linter.unusedVariables false
abbrev laidB : List (String × DataW Unit) := [("honeycomb/script.takes", Rows.laid_honeycomb_script_takes)]
theorem numbers29_laidOut : laidOutB Tryd.prog = true := by kernel_rfl
theorem numbers29_own : ownKnob Tryd.prog.godebug = none := by kernel_rfl
theorem takes_global : Tryd.prog.globalNamed "honeycomb/script.takes" = some 0 := by kernel_rfl
theorem takes_type : (Tryd.prog.globals[0]?).map (·.type) = some 109 := by kernel_rfl
theorem cells_8 : Tryd.prog.cellsOf 109 = 8 := by kernel_rfl
set_option maxRecDepth 100000 in
/-- What the condition gives the walk: the table of takes. -/
theorem takes_of_laid {W : World} (h : laidMetH Tryd.prog laidB W) : TakesAt W := by
  rw [MakeChecks.laidMetH_plain _ _ _ (by kernel_rfl)] at h
  obtain ⟨ps, ⟨g0, t0, cs0, f0, p0, q0, hg0, ht0, hv0, hd0, _, _⟩, _, _⟩ := h
  obtain rfl := Option.some.inj (takes_global.symm.trans hg0)
  obtain rfl := Option.some.inj (takes_type.symm.trans ht0)
  obtain ⟨xs, m1, hD, hx1, hlen, hn3, hel⟩ := DataW.trod_array Tryd.underlying109 hd0
  have hmap : xs.map (fun x => x.1) = takesL.map fun v => (.lit (.int .i64 v) : DataW Unit) := by
    have h1 := (Prod.mk.inj hx1).1
    have h2 : (DataW.agg (takesL.map fun v => (.lit (.int .i64 v) : DataW Unit))) = DataW.agg (xs.map fun x => x.1) := h1
    exact (DataW.agg.inj h2).symm
  have hc : ∀ i, i < 8 → W.cell? ⟨0, i, none⟩ = some (I (takesL.getD i 0)) := by
    intro i hi
    have e1 := hel i hi
    rw [cellsB_int, Nat.mul_one, List.getElem?_eq_getElem (by omega)] at e1
    obtain ⟨k, hk, hy, _⟩ := DataW.trod_int Tryd.underlying3 e1
    have hg := congrArg (fun l => l[i]?) hmap
    have ht : takesL[i]? = some (takesL.getD i 0) := by
      rcases (show i = 0 ∨ i = 1 ∨ i = 2 ∨ i = 3 ∨ i = 4 ∨ i = 5 ∨ i = 6 ∨ i = 7 by omega) with rfl | rfl | rfl | rfl | rfl | rfl | rfl | rfl <;> rfl
    rw [List.getElem?_map, List.getElem?_map, List.getElem?_eq_getElem (by omega), ht, Option.map_some, Option.map_some, hy] at hg
    obtain ⟨t, htt⟩ : ∃ t, takesL.getD i 0 = t := ⟨_, rfl⟩
    rw [htt] at hg ⊢
    have hkv : k = t := by simpa using hg
    rw [World.var?_cell hg0 hv0 i]
    have h2 := one_cellB hk
    rw [Array.getElem?_toList] at h2
    rw [h2, hkv]
  exact ⟨cell_inB (hc 0 (by omega)), hc⟩
/-- The door's own heap meets the condition. -/
theorem numbers29_door (os : Os) (args : Array Value) : laidMetH Tryd.prog laidB ((World.doorLaid Tryd.prog 14 os).forCall (fun _ _ => 0) ⟨#[], args, []⟩).memory :=
  laidMetH_of_parts3 (fuel := 8) (laidMet_of_run' 8 (by kernel_rfl) (by kernel_rfl)) (by kernel_rfl) (by kernel_rfl)
set_option maxRecDepth 100000 in
theorem numbers29_lifted (os : Os) (started : os.Started) (H : Type) (enc : TypeId × Value → H) :
    ReturnsInHanded {} Tryd.checked os 3 .any (fun w args => (Rows.boundNumbersSpec.pre enc Tryd.prog Tryd.f3 [] false w args ∧ laidMetH Tryd.prog laidB w) ∧ sizedMet enc Tryd.prog Tryd.f3 (OpenSpec.ofChange Rows.boundNumbersSpec) false w args)
      (Rows.boundNumbersSpec.post enc Tryd.prog Tryd.f3 false true false false) := by
  refine returnsInHanded_of_change_and (C := Tryd.checked) (X := fun w _ => laidMetH Tryd.prog laidB w) (fun _ _ _ hh h => h.of_heap hh) numbers29_own started (by kernel_rfl) Tryd.func3
    (ChangeSpec.witness_shaped (enc := enc) (C := Tryd.checked) (os := os) (X := fun w _ => laidMetH Tryd.prog laidB w) false (World.doorLaid Tryd.prog 14 os) #[.slice none 0 0] 8 rfl (World.shaped_of_RefB (by kernel_rfl) (by kernel_rfl)) (by kernel_rfl) (by kernel_rfl) (by kernel_rfl) (numbers29_door os _)) ?_
  intro W base args ds gs before hval0 hW _ _ hL _
  have hval : ∀ (j : Nat) t v, Tryd.f3.params[j]? = some t → args[j]? = some v → Value.okWide Tryd.prog W .any base t v := hval0
  have hW' := hW
  obtain ⟨p, q, hA0, hV, rfl, hfz, hnd⟩ := hW
  have hA : DataW.TrodAll enc Tryd.prog W 0 (fun _ => true) true Tryd.f3.params.toList args.toList ds p := hA0
  rw [Tryd.params3] at hA hval
  obtain ⟨v0, vs0, d0, ds0, p0, q0, hargs, rfl, rfl, h0, r0⟩ := trodAll_cons hA
  obtain ⟨rfl, rfl, rfl⟩ := trodAll_nil r0
  obtain rfl : args = #[v0] := by cases args; simp_all
  obtain ⟨rfl, rfl⟩ := trodVars_none hV
  have lt0 : ∀ x ∈ p0, x.block < W.heap.size := by obtain ⟨m, hm⟩ := h0; exact DataW.trod_lt m _ _ _ hm
  obtain ⟨ka, kl, kc, ks, rfl, hkc, hkc2, hkn, hk⟩ := open_nums (hval 0 22 v0 rfl rfl) h0
  clear hA0 hval0
  refine (numbersLaw ka kl kc ks W hkc hkc2 hkn hk (takes_of_laid hL)).mono fun e W' ⟨he, hc⟩ => ?_
  subst he
  have bel := hc.below_nil
  exact ⟨_, rfl, _, _, _, [], _, [], hW', trodAll_mk1 (shut_bool Tryd.underlying4 _), (trodAll_cons_mk (Below.trod numbers29_laidOut (by kernel_rfl) (of_decide_eq_true (by kernel_rfl)) h0 bel lt0) trodAll_mk0), rfl, bel.frame _, fun h => by cases h⟩
theorem numbers29_over : Rows.boundNumbersRow.holds Tryd.pinned (OpenSpec.ofChange Rows.boundNumbersSpec) :=
  OpenClaim.holds_of_wide 3 Tryd.f3 rfl rfl rfl rfl rfl rfl rfl ⟨rfl, rfl, rfl, rfl, rfl⟩ rfl rfl rfl rfl rfl numbers29_named Tryd.func3 numbers29_closed numbers29_inst numbers29_wrap
    (fun os started H enc _ => numbers29_lifted os started H enc)
theorem numbers29_row : Rows.BoundNumbersSaid := numbers29_over
/-- The tied card. -/
theorem numbers29_holds : Rows.BoundNumbersCardSaid :=
  Claim7.holds_tied_plain_at .later [] [.data] true (true, "c2a505905cb77ce74a30099887f052c13f4ca45a1fd521a33b7f11e5f5855298") true
    numbers29_row (fun _ h => by cases h) (by kernel_rfl) (fun _ h => by cases h) boundNumbers_row_tie rfl ⟨rfl, rfl⟩ (by kernel_rfl) rfl
    (fun f fn hf hfn => by
      obtain rfl : f = 3 := Option.some.inj ((show Tryd.prog.funcNamed "honeycomb/honeycomblaw29.BoundNumbers" = some 3 by kernel_rfl).symm.trans hf) |>.symm
      obtain rfl : fn = Tryd.f3 := (Option.some.inj (Tryd.func3.symm.trans hfn)).symm
      exact ⟨by kernel_rfl, fun j t ht => by
        rw [Tryd.params3] at ht
        have hm : t ∈ [22] := by simpa using Array.mem_of_getElem? ht
        have hall : ([22].all fun u => !Tryd.prog.wantsStandIn u) = true := by kernel_rfl
        exact (show Tryd.prog.wantsStandIn t = false by simpa using List.all_eq_true.1 hall t hm)⟩)
    (by kernel_rfl)
#print axioms numbers29_holds
end Go.Proofs.YtcikopeddljgkaaDoor
