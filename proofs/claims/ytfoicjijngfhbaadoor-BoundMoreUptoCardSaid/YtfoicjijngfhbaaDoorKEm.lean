/- BoundMore returns true for every script, number of keys and number of slabs more whose reading is of bulk at most 1048576, and its arguments read behind the call as they read before; the table of takes reads as the program's text lays it. Conditions: the bulk, and the listed variable. -/
import Derived.Test.YtfoicjijngfhbaaDoorKEk
import Derived.Test.YtfoicjijngfhbaaDoorKEl
import Derived.Test.YtfoicjijngfhbaaDoorRows
import Derived.Test.YtfoicjijngfhbaaDoorTie
import Derived.Test.YtfoicjijngfhbaaDoorCards
import Derived.WalkKit
import Derived.ProofKit
import Derived.OpenShut
import Derived.LaidMore
import Derived.JoinedCond
import Derived.Deep.DeepHandedRow
import Derived.SevenTiedAt
set_option linter.unusedSimpArgs false
set_option linter.unusedVariables false
namespace Go.Proofs.YtfoicjijngfhbaaDoor
open Go.ChangeShapes Go.WideShapes Go.ChangeAt Go.RowKit Go.Proofs.Hc
set_option linter.unusedVariables false
abbrev laidM : List (String × DataW Unit) := [("honeycomb/script.takes", Rows.laid_honeycomb_script_takes)]
theorem more29_laidOut : laidOutB Tryd.prog = true := by kernel_rfl
theorem more29_own : ownKnob Tryd.prog.godebug = none := by kernel_rfl
theorem mtakes_global : Tryd.prog.globalNamed "honeycomb/script.takes" = some 0 := by kernel_rfl
theorem mtakes_type : (Tryd.prog.globals[0]?).map (·.type) = some 109 := by kernel_rfl
theorem mcells_8 : Tryd.prog.cellsOf 109 = 8 := by kernel_rfl
set_option maxRecDepth 100000 in
/-- What the condition gives the walk: the table of takes. -/
theorem mtakes_of_laid {W : World} (h : laidMetH Tryd.prog laidM W) : TakesAt W := by
  rw [MakeChecks.laidMetH_plain _ _ _ (by kernel_rfl)] at h
  obtain ⟨ps, ⟨g0, t0, cs0, f0, p0, q0, hg0, ht0, hv0, hd0, _, _⟩, _, _⟩ := h
  obtain rfl := Option.some.inj (mtakes_global.symm.trans hg0)
  obtain rfl := Option.some.inj (mtakes_type.symm.trans ht0)
  obtain ⟨xs, m1, hD, hx1, hlen, hn3, hel⟩ := DataW.trod_array Tryd.underlying109 hd0
  have hmap : xs.map (fun x => x.1) = takesL.map fun v => (.lit (.int .i64 v) : DataW Unit) := by
    have h1 := (Prod.mk.inj hx1).1
    have h2 : (DataW.agg (takesL.map fun v => (.lit (.int .i64 v) : DataW Unit))) = DataW.agg (xs.map fun x => x.1) := h1
    exact (DataW.agg.inj h2).symm
  have hc : ∀ i, i < 8 → W.cell? ⟨0, i, none⟩ = some (I (takesL.getD i 0)) := by
    intro i hi
    have e1 := hel i hi
    rw [cellsB_int, Nat.mul_one, List.getElem?_eq_getElem (by omega)] at e1
    obtain ⟨k, hk, hy, _⟩ := DataW.trod_int Tryd.underlying3 e1
    have hg := congrArg (fun l => l[i]?) hmap
    have ht : takesL[i]? = some (takesL.getD i 0) := by
      rcases (show i = 0 ∨ i = 1 ∨ i = 2 ∨ i = 3 ∨ i = 4 ∨ i = 5 ∨ i = 6 ∨ i = 7 by omega) with rfl | rfl | rfl | rfl | rfl | rfl | rfl | rfl <;> rfl
    rw [List.getElem?_map, List.getElem?_map, List.getElem?_eq_getElem (by omega), ht, Option.map_some, Option.map_some, hy] at hg
    obtain ⟨t, htt⟩ : ∃ t, takesL.getD i 0 = t := ⟨_, rfl⟩
    rw [htt] at hg ⊢
    have hkv : k = t := by simpa using hg
    rw [World.var?_cell hg0 hv0 i]
    have h2 := one_cellB hk
    rw [Array.getElem?_toList] at h2
    rw [h2, hkv]
  exact ⟨cell_inB (hc 0 (by omega)), hc⟩
/-! What the bound gives. -/
theorem sizeD_le {H : Type} (d : DataW H) : sizeD d ≤ Rows.uptoBulk d := by
  cases d with
  | slice e sp =>
    have key : ∀ l : List (DataW H), l.length ≤ Rows.uptoBulkAll l := by
      intro l
      induction l with
      | nil => simp [Rows.uptoBulkAll]
      | cons x r ih =>
        have h1 : 1 ≤ Rows.uptoBulk x := by
          cases x with
          | lit l => cases l <;> simp [Rows.uptoBulk]
          | _ => simp [Rows.uptoBulk]
        simp only [Rows.uptoBulkAll, List.length_cons]
        omega
    have := key e
    show e.length ≤ _
    simp only [Rows.uptoBulk]
    omega
  | _ => exact Nat.zero_le _
theorem totalD_le {H : Type} (d : DataW H) : totalD d ≤ Rows.uptoBulk d := by
  cases d with
  | slice e sp =>
    have key : ∀ l : List (DataW H), (l.map sizeD).sum ≤ Rows.uptoBulkAll l := by
      intro l
      induction l with
      | nil => simp [Rows.uptoBulkAll]
      | cons x r ih =>
        have h1 := sizeD_le x
        simp only [Rows.uptoBulkAll, List.map_cons, List.sum_cons]
        omega
    have := key e
    show (e.map sizeD).sum ≤ _
    simp only [Rows.uptoBulk]
    omega
  | _ => exact Nat.zero_le _
theorem bulk_part {H : Type} {d : DataW H} {l : List (DataW H)} (h : d ∈ l) : Rows.uptoBulk d ≤ Rows.uptoBulkAll l := by
  induction l with
  | nil => cases h
  | cons x r ih =>
    simp only [Rows.uptoBulkAll]
    rcases List.mem_cons.1 h with e | e
    · subst e; omega
    · have := ih e; omega
theorem more_bound {H : Type} {xs : List (DataW H)} {y d1 d2 : DataW H} (hk : Rows.uptoSmall H [.agg xs, d1, d2] = true) (hy : y ∈ xs) : totalD y ≤ 1048576 := by
  have h : Rows.uptoBulkAll [DataW.agg xs, d1, d2] ≤ 1048576 := of_decide_eq_true hk
  simp only [Rows.uptoBulkAll, Rows.uptoBulk] at h
  have h1 := bulk_part hy
  have h2 := totalD_le y
  omega
set_option maxRecDepth 100000 in
theorem contract_more (H : Type) (enc : TypeId × Value → H) (W : World) (base : Nat) (args : Array Value) (ds gs : List (DataW H)) (before : List MemPlace)
    (hval0 : ∀ (j : Nat) t v, Tryd.f4.params[j]? = some t → args[j]? = some v → Value.okWide Tryd.prog W .any base t v)
    (hW : DataW.Whole enc Tryd.prog Tryd.f4.params.toList Rows.boundMoreSpec.vars false W args.toList ds gs before) (hk : Rows.uptoSmall H (ds ++ gs) = true) (hL : laidMetH Tryd.prog laidM W) :
    Calls Tryd.prog 4 args W fun e W' => ∃ v, e = .returned v ∧ Rows.boundMoreSpec.post enc Tryd.prog Tryd.f4 false true false false W args v W' := by
  have hval : ∀ (j : Nat) t v, Tryd.f4.params[j]? = some t → args[j]? = some v → Value.okWide Tryd.prog W .any base t v := hval0
  have hW' := hW
  obtain ⟨p, q, hA0, hV, rfl, hfz, hnd⟩ := hW
  have hA : DataW.TrodAll enc Tryd.prog W 0 (fun _ => true) true Tryd.f4.params.toList args.toList ds p := hA0
  rw [Tryd.params4] at hA hval
  obtain ⟨v0, vs0, d0, ds0, p0, q0, hargs, rfl, rfl, h0, r0⟩ := trodAll_cons hA
  obtain ⟨v1, vs1, d1, ds1, p1, q1, rfl, rfl, rfl, h1, r1⟩ := trodAll_cons r0
  obtain ⟨v2, vs2, d2, ds2, p2, q2, rfl, rfl, rfl, h2, r2⟩ := trodAll_cons r1
  obtain ⟨rfl, rfl, rfl⟩ := trodAll_nil r2
  obtain rfl : args = #[v0, v1, v2] := by cases args; simp_all
  obtain ⟨rfl, rfl⟩ := trodVars_none hV
  have lt0 : ∀ x ∈ p0, x.block < W.heap.size := by obtain ⟨m, hm⟩ := h0; exact DataW.trod_lt m _ _ _ hm
  have lt1 : ∀ x ∈ p1, x.block < W.heap.size := by obtain ⟨m, hm⟩ := h1; exact DataW.trod_lt m _ _ _ hm
  have lt2 : ∀ x ∈ p2, x.block < W.heap.size := by obtain ⟨m, hm⟩ := h2; exact DataW.trod_lt m _ _ _ hm
  have h1' := h1
  have h2' := h2
  obtain ⟨s, rfl, hls, xs, hd, y, hy, htot⟩ := open_script (hval 0 36 v0 rfl rfl) h0
  obtain ⟨k1, rfl, hd1, hp1, w1⟩ := open_int Tryd.underlying3 (hval 1 3 v1 rfl rfl) h1
  obtain ⟨k2, rfl, hd2, hp2, w2⟩ := open_int Tryd.underlying3 (hval 2 3 v2 rfl rfl) h2
  have hb := more_bound (d1 := d1) (d2 := d2) (xs := xs) (y := y) (by rw [← hd]; exact hk) (List.mem_of_getElem? hy)
  clear hA0 hval0
  refine (moreLaw s k1 k2 (wfB_i64 w1).2 W ⟨hls, Nat.le_trans htot hb⟩ (mtakes_of_laid hL)).mono fun e W' ⟨he, hc⟩ => ?_
  subst he
  have bel := hc.below_nil
  exact ⟨_, rfl, _, _, _, [], _, [], hW', trodAll_mk1 (shut_bool Tryd.underlying4 _), (trodAll_cons_mk (Below.trod more29_laidOut (by kernel_rfl) (of_decide_eq_true (by kernel_rfl)) h0 bel lt0) (trodAll_cons_mk (Below.trod more29_laidOut (by kernel_rfl) (of_decide_eq_true (by kernel_rfl)) h1' bel lt1) (trodAll_cons_mk (Below.trod more29_laidOut (by kernel_rfl) (of_decide_eq_true (by kernel_rfl)) h2' bel lt2) trodAll_mk0))), rfl, bel.frame _, fun h => by cases h⟩
/-- The witness: no script at all. -/
abbrev noScript : Value := .agg #[.int .i64 0, .int .i64 0, .int .u64 0, .slice none 0 0, .slice none 0 0]
theorem more29_laid (os : Os) : laidMet Tryd.prog laidM ((World.doorLaid Tryd.prog 14 os).forCall (fun _ _ => 0) ⟨#[], #[noScript, .int .i64 0, .int .i64 0], []⟩).memory :=
  laidMet_of_run' 8 (by kernel_rfl) (by kernel_rfl)
theorem more29_reads (os : Os) {H : Type} (enc : TypeId × Value → H) : ∃ places, DataW.whole enc Tryd.prog ((World.doorLaid Tryd.prog 14 os).forCall (fun _ _ => 0) ⟨#[], #[noScript, .int .i64 0, .int .i64 0], []⟩).memory Tryd.f4.params.toList Rows.boundMoreSpec.vars false #[noScript, Value.int .i64 0, .int .i64 0].toList 8 = some ([.agg [.lit (.int .i64 0), .lit (.int .i64 0), .lit (.int .u64 0), .nil, .nil], .lit (.int .i64 0), .lit (.int .i64 0)], [], places) :=
  ⟨[], by kernel_rfl⟩
set_option maxRecDepth 100000 in
theorem more29_lifted (os : Os) (started : os.Started) (H : Type) (enc : TypeId × Value → H) (F : Stop.Interp) :
    ReturnsInHanded {} Tryd.checked os 4 .any ((Rows.OpenSpec.upto Rows.boundMoreSpec).preRow enc Tryd.prog Tryd.f4 Rows.boundMoreUptoRow.domain false Rows.boundMoreUptoRow.laid) (((Rows.OpenSpec.upto Rows.boundMoreSpec).at F).post enc Tryd.prog Tryd.f4 false true false false) := by
  obtain ⟨places, hx⟩ := more29_reads os enc
  refine returnsInHanded_of_row (C := Tryd.checked) (s := Rows.OpenSpec.upto Rows.boundMoreSpec) more29_own started (by kernel_rfl) Tryd.func4
    (witness_row_at (enc := enc) (C := Tryd.checked) false (World.doorLaid Tryd.prog 14 os) #[noScript, .int .i64 0, .int .i64 0] rfl (by kernel_rfl) (by kernel_rfl) (by kernel_rfl)
      (OpenSpec.preRow_of_cond 8 hx (by kernel_rfl) (fun k hk => by cases hk; kernel_rfl) (by kernel_rfl) (laidMetH_of_parts3 (fuel := 8) (more29_laid os) (by kernel_rfl) (by kernel_rfl)))) ?_
  intro W base args ds gs before hval hW _ hcond _ hL _ _
  exact contract_more H enc W base args ds gs before hval hW (hcond _ rfl) hL
theorem more29_row : Rows.BoundMoreUptoSaid :=
  OpenClaim.holds_of_cond 4 Tryd.f4 rfl rfl rfl rfl rfl rfl rfl ⟨rfl, rfl, rfl, rfl, rfl⟩ rfl rfl rfl rfl rfl more29_named Tryd.func4 more29_closed more29_inst more29_wrap
    (fun os started H enc _ F => by rw [OpenClaim.pre_eq_preRow]; exact more29_lifted os started H enc F)
/-- The tied card of the second form. -/
theorem more29_holds : Rows.BoundMoreUptoCardSaid :=
  Claim7.holds_tied_plain_at .later [] _ _ _ _ more29_row (fun _ h => by cases h) (by kernel_rfl) (fun _ h => by cases h) boundMoreUpto_row_tie rfl ⟨rfl, rfl⟩ (by kernel_rfl) rfl
    (fun f fn hf hfn => by
      obtain rfl : f = 4 := Option.some.inj ((show Tryd.prog.funcNamed "honeycomb/honeycomblaw29.BoundMore" = some 4 by kernel_rfl).symm.trans hf) |>.symm
      obtain rfl : fn = Tryd.f4 := (Option.some.inj (Tryd.func4.symm.trans hfn)).symm
      exact ⟨by kernel_rfl, fun j t ht => by
        rw [Tryd.params4] at ht
        have hm : t ∈ [36, 3, 3] := by simpa using Array.mem_of_getElem? ht
        have hall : ([36, 3, 3].all fun u => !Tryd.prog.wantsStandIn u) = true := by kernel_rfl
        exact (show Tryd.prog.wantsStandIn t = false by simpa using List.all_eq_true.1 hall t hm)⟩)
    (by kernel_rfl)
#print axioms more29_holds
end Go.Proofs.YtfoicjijngfhbaaDoor
