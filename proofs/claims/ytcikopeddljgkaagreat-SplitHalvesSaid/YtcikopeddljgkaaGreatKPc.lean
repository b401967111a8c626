/- Layer 22, who splits a table, as a value: its cells. -/
import Derived.Test.YtcikopeddljgkaaGreatKQa
import Derived.Laws.EntriesVeiled
set_option linter.unusedSimpArgs false
set_option linter.unusedVariables false
set_option maxHeartbeats 4000000
set_option maxRecDepth 100000
namespace Go.Proofs.Hc
open Go.RowKit
def PartT.cell (p : PartT) : Nat → Value
  | 0 => I p.ph
  | 1 => I p.who
  | 2 => I p.sl
  | 3 => I p.t0
  | 4 => I p.t1
  | 5 => U p.seed
  | 6 => U p.count
  | 7 => U p.head
  | i + 8 => if i < 2 then U (p.c i) else if i < 18 then U (p.k (i - 2)) else if i < 34 then U (p.v (i - 18)) else if i < 35 then I p.at_ else U (p.ws (i - 35))
def partC (p : PartT) : Array Value := Array.ofFn (n := 123) fun i => p.cell i.1
theorem zbl (p : PartT) : (partC p).size = 123 := by simp [partC]
theorem zdf (p : PartT) (i : Nat) : (partC p)[i]? = if i < 123 then some (p.cell i) else none := by
  unfold partC; rw [Array.getElem?_ofFn]; simp
theorem partCell_one (p : PartT) (i : Nat) : (p.cell i).oneCell' = true := by
  unfold PartT.cell; split <;> try rfl
  split <;> try rfl
  split <;> try rfl
  split <;> try rfl
  split <;> rfl
theorem zch (p : PartT) : allOne (partC p) = true := by
  unfold allOne
  simp only [partC, Array.all_eq_true_iff_forall_mem, Array.mem_ofFn]; rintro v ⟨i, rfl⟩; exact partCell_one ..
theorem zcj (p : PartT) : (partC p).extract 0 123 = partC p := by
  have := Array.extract_size (xs := partC p); rwa [zbl] at this
theorem zcv (p : PartT) : (partC p)[0]? = some (I p.ph) := by rw [zdf]; rfl
theorem zdi (p : PartT) : (partC p)[1]? = some (I p.who) := by rw [zdf]; rfl
theorem zdc (p : PartT) : (partC p)[2]? = some (I p.sl) := by rw [zdf]; rfl
theorem zcy (p : PartT) : (partC p)[3]? = some (I p.t0) := by rw [zdf]; rfl
theorem zcx (p : PartT) : (partC p)[4]? = some (I p.t1) := by rw [zdf]; rfl
theorem zdb (p : PartT) : (partC p)[5]? = some (U p.seed) := by rw [zdf]; rfl
theorem zdh (p : PartT) : (partC p)[6]? = some (U p.count) := by rw [zdf]; rfl
theorem zda (p : PartT) : (partC p)[7]? = some (U p.head) := by rw [zdf]; rfl
theorem zcf (p : PartT) : (partC p)[42]? = some (I p.at_) := by rw [zdf]; rfl
theorem part_gc (p : PartT) (j : Nat) (h : j < 2) : (partC p)[8 + j]? = some (U (p.c j)) := by
  rw [zdf, if_pos (by omega), Nat.add_comm]; simp [PartT.cell, h]
theorem part_gk (p : PartT) (j : Nat) (h : j < 16) : (partC p)[10 + j]? = some (U (p.k j)) := by
  rw [zdf, if_pos (by omega), show 10 + j = (j + 2) + 8 by omega]; simp [PartT.cell, show j + 2 < 18 by omega, show ¬ j + 2 < 2 by omega]
theorem part_gv (p : PartT) (j : Nat) (h : j < 16) : (partC p)[26 + j]? = some (U (p.v j)) := by
  rw [zdf, if_pos (by omega), show 26 + j = (j + 18) + 8 by omega]; simp [PartT.cell, show ¬ j + 18 < 2 by omega, show ¬ j + 18 < 18 by omega, show j + 18 < 34 by omega]
theorem part_gw (p : PartT) (j : Nat) (h : j < 80) : (partC p)[43 + j]? = some (U (p.ws j)) := by
  rw [zdf, if_pos (by omega), show 43 + j = (j + 35) + 8 by omega]; simp [PartT.cell, show ¬ j + 35 < 2 by omega, show ¬ j + 35 < 18 by omega, show ¬ j + 35 < 34 by omega]
theorem zci (p : PartT) (i : Nat) (h : i < (partC p).size) : (partC p)[i] = p.cell i := by simp [partC]
theorem pacell0 (p : PartT) : p.cell 0 = I p.ph := rfl
theorem pacell1 (p : PartT) : p.cell 1 = I p.who := rfl
theorem pacell2 (p : PartT) : p.cell 2 = I p.sl := rfl
theorem pacell3 (p : PartT) : p.cell 3 = I p.t0 := rfl
theorem pacell4 (p : PartT) : p.cell 4 = I p.t1 := rfl
theorem pacell5 (p : PartT) : p.cell 5 = U p.seed := rfl
theorem pacell6 (p : PartT) : p.cell 6 = U p.count := rfl
theorem pacell7 (p : PartT) : p.cell 7 = U p.head := rfl
theorem pacell42 (p : PartT) : p.cell 42 = I p.at_ := rfl
theorem paset {p p' : PartT} {j : Nat} {x : Value} (hj : j < 123) (hx : p'.cell j = x) (ho : ∀ i, i < 123 → i ≠ j → p'.cell i = p.cell i) :
    (partC p).setIfInBounds j x = partC p' := by
  apply Array.ext_getElem?; intro i
  rw [Array.getElem?_setIfInBounds, zdf, zdf, zbl]
  by_cases h : j = i
  · subst h; simp [hj, hx]
  · rw [if_neg h]
    by_cases h2 : i < 123
    · simp only [h2, if_true]; rw [ho i h2 (fun e => h e.symm)]
    · simp [h2]
theorem zct (p : PartT) (x : Int) : (partC p).setIfInBounds 0 (I x) = partC { p with ph := x } :=
  paset (by omega) rfl (fun i _ h => by unfold PartT.cell; split <;> first | rfl | omega)
theorem part_s6 (p : PartT) (x : BitVec 64) : (partC p).setIfInBounds 6 (U x) = partC { p with count := x } :=
  paset (by omega) rfl (fun i _ h => by unfold PartT.cell; split <;> first | rfl | omega)
theorem zdg (p : PartT) (x : BitVec 64) : (partC p).setIfInBounds 7 (U x) = partC { p with head := x } :=
  paset (by omega) rfl (fun i _ h => by unfold PartT.cell; split <;> first | rfl | omega)
theorem zco (p : PartT) (x : Int) : (partC p).setIfInBounds 42 (I x) = partC { p with at_ := x } := by
  refine paset (by omega) rfl (fun i hi h => ?_)
  unfold PartT.cell
  split <;> first | rfl | skip
  rename_i i
  by_cases h35 : i < 34
  · by_cases a : i < 2
    · simp [a]
    · by_cases b : i < 18
      · simp [a, b]
      · simp [a, b, h35]
  · simp [show ¬ i < 2 by omega, show ¬ i < 18 by omega, h35, show ¬ i < 35 by omega]
theorem part_sc (p : PartT) (j : Nat) (hj : j < 2) (x : BitVec 64) : (partC p).setIfInBounds (8 + j) (U x) = partC { p with c := updW p.c j x } := by
  refine paset (by omega) ?_ (fun i hi h => ?_)
  · rw [Nat.add_comm]; simp [PartT.cell, hj, updW]
  · unfold PartT.cell
    split <;> first | rfl | skip
    rename_i i
    by_cases a : i < 2
    · simp [a, updW, show i ≠ j by omega]
    · simp [a]
theorem part_sk (p : PartT) (j : Nat) (hj : j < 16) (x : BitVec 64) : (partC p).setIfInBounds (10 + j) (U x) = partC { p with k := updW p.k j x } := by
  refine paset (by omega) ?_ (fun i hi h => ?_)
  · rw [show 10 + j = (j + 2) + 8 by omega]; simp [PartT.cell, show j + 2 < 18 by omega, show ¬ j + 2 < 2 by omega, updW]
  · unfold PartT.cell
    split <;> first | rfl | skip
    rename_i i
    by_cases a : i < 2
    · simp [a]
    · by_cases b : i < 18
      · simp [a, b, updW, show ¬ i - 2 = j by omega]
      · simp [a, b]
theorem part_sv (p : PartT) (j : Nat) (hj : j < 16) (x : BitVec 64) : (partC p).setIfInBounds (26 + j) (U x) = partC { p with v := updW p.v j x } := by
  refine paset (by omega) ?_ (fun i hi h => ?_)
  · rw [show 26 + j = (j + 18) + 8 by omega]; simp [PartT.cell, show ¬ j + 18 < 2 by omega, show ¬ j + 18 < 18 by omega, show j + 18 < 34 by omega, updW]
  · unfold PartT.cell
    split <;> first | rfl | skip
    rename_i i
    by_cases a : i < 2
    · simp [a]
    · by_cases b : i < 18
      · simp [a, b]
      · by_cases d : i < 34
        · simp [a, b, d, updW, show ¬ i - 18 = j by omega]
        · simp [a, b, d]
theorem boxPart (p : PartT) (w : World) : (Instr.box 51 (.agg (partC p))).run Tryz.prog w = .ok (.pointer (some ⟨w.heap.size, 0, none⟩)) (w.alloc (.cells (partC p) 51)) := rfl
theorem loadPart (g o : Nat) (w : World) : (loadRow 51 ⟨g, o, none⟩).run Tryz.prog w = rowRes Tryz.prog 51 g o w ((w.heap[g]?).bind (rowAt o 123)) :=
  run_row Tryz.underlying51 rfl (by kernel_rfl) g o w
theorem storePart (g o : Nat) (vs : Array Value) (w : World) : (storeRow 51 ⟨g, o, none⟩ (.agg vs)).run Tryz.prog w = layRes Tryz.prog 51 g o vs w (((w.heap[g]?).map (canLay o 123 vs)).getD false) :=
  run_lay (by kernel_rfl) g o vs w
theorem lrowPart (a : Addr) : loadVar 51 a = loadRow 51 a := rfl
theorem srowPart (a : Addr) (v : Value) : storeVar 51 a v = storeRow 51 a v := rfl
theorem browPart (ps : Array (Nat × Value)) : Instr.build 51 ps = buildRow 51 ps := rfl
theorem zck (ps : Array (Nat × Value)) : Instr.build 179 ps = buildRow 179 ps := rfl
theorem zce (p : PartT) (w : World) : (buildRow 179 #[(0, .agg (partC p))]).run Tryz.prog w = .ok (.agg (partC p)) w := by kernel_rfl
theorem zcq (p : PartT) (w : World) : (Instr.box 179 (.agg (partC p))).run Tryz.prog w = .ok (.pointer (some ⟨w.heap.size, 0, none⟩)) (w.alloc (.cells (partC p) 179)) := rfl
theorem zbs (w : World) : (zeroValue 51).run Tryz.prog w = .ok (.agg (partC zeroPart)) w := by kernel_rfl
theorem zas (p q : PartT) (T : TypeId) (fr : Nat × Nat) : laidAt 0 (partC q) (.cells (partC p) T fr) = .cells (partC q) T fr := by
  rw [zah, laid_whole _ _ (by rw [zbl, zbl])]
theorem buildPart0 (w : World) : (buildRow 51 #[]).run Tryz.prog w = .ok (.agg (partC zeroPart)) w := by kernel_rfl
def firstP22 (who sl a b : Int) (seed : BitVec 64) : PartT := ⟨0, who, sl, a, b, seed, 0#64, 0#64, fun _ => 0#64, fun _ => 0#64, fun _ => 0#64, 0, fun _ => 0#64⟩
theorem buildPart4 (who sl a b : Int) (seed : BitVec 64) (w : World) : (buildRow 51 #[(1, I who), (2, I sl), (3, .agg #[I a, I b]), (4, U seed)]).run Tryz.prog w = .ok (.agg (partC (firstP22 who sl a b seed))) w := by kernel_rfl
end Go.Proofs.Hc
namespace Go.Proofs.Hc
open Go.RowKit
attribute [local go_sem] zbr zcd zat zaz zbn zax zbm zbo zbw signed64 signed8 zar BitVec.ofInt_add BitVec.ofInt_mul ofInt_sub' zav zaw wide8 eqN neN zcc shr1 shr7 shr56
attribute [local go_sem high] zay zbv
attribute [local go_sem] zau zbx zai zal zac zbd zan zah zbk zaj zbc zbe
attribute [local go_sem] load26 load73 load23 store26 build73
attribute [local go_sem ↓] lrow26 lrow73 lrow23 srow26 zero26 brow73 zab zba zbb zaa zae
attribute [local go_sem] zag zap zaf zbf zbi zbp zam zaq zbq zbh zbg
attribute [local go_sem] nn2 nm2 nn3 nm3 nn4 nm4 nn5 nm5 nn6 nm6 nn7 nm7 nn8 nm8
section
attribute [local go_sem] zar zbj
attribute [local go_sem] Oper.semAt_some zak
attribute [local go_sem] zci pacell0 pacell1 pacell2 pacell3 pacell4 pacell5 pacell6 pacell7 pacell42
attribute [local go_sem] zcv zdi zdc zcy zcx zdb zdh zda zcf zct part_s6 zdg zco zbl zch zcj boxPart loadPart storePart zce zcq buildPart0 buildPart4
attribute [local go_sem ↓] lrowPart srowPart browPart zck zbs
attribute [local go_sem high] zas
attribute [local irreducible] partC
def toldS (t : Tab) (from_ m : Nat) : List Nat := (List.range m).filter fun j => decide (from_ ≤ j) && fullJ t j
theorem toldS_low (t : Tab) (from_ m : Nat) (h : m ≤ from_) : toldS t from_ m = [] := by
  unfold toldS
  rw [List.filter_eq_nil_iff]
  intro j hj
  rw [List.mem_range] at hj
  rw [decide_eq_false (by omega), Bool.false_and]
  decide
theorem toldS_no (t : Tab) (from_ m : Nat) (h : from_ ≤ m) (hf : fullJ t m = false) : toldS t from_ (m + 1) = toldS t from_ m := by
  unfold toldS
  rw [List.range_succ, List.filter_append, List.filter_cons_of_neg (by rw [hf, Bool.and_false]; decide), List.filter_nil, List.append_nil]
theorem toldS_yes (t : Tab) (from_ m : Nat) (h : from_ ≤ m) (hf : fullJ t m = true) : toldS t from_ (m + 1) = toldS t from_ m ++ [m] := by
  unfold toldS
  rw [List.range_succ, List.filter_append, List.filter_cons_of_pos (by rw [hf, decide_eq_true h]; rfl), List.filter_nil]
theorem toldS_split (t : Tab) (from_ m : Nat) (hm : m < 16) (h : from_ ≤ m) (hf : fullJ t m = true) : ∃ r, toldS t from_ 16 = toldS t from_ m ++ m :: r := by
  refine ⟨((List.range' (m + 1) (16 - (m + 1)))).filter (fun j => decide (from_ ≤ j) && fullJ t j), ?_⟩
  have e : List.range 16 = List.range (m + 1) ++ List.range' (m + 1) (16 - (m + 1)) := by
    have := List.range'_append_1 (s := 0) (m := m + 1) (n := 16 - (m + 1))
    rw [Nat.zero_add, show m + 1 + (16 - (m + 1)) = 16 by omega] at this
    rw [List.range_eq_range', List.range_eq_range', this]
  unfold toldS
  rw [e, List.filter_append]
  have := toldS_yes t from_ m h hf
  unfold toldS at this
  rw [this, List.append_assoc]; rfl
theorem enters_full22 (args : Array Value) (w : World) : (callFunc 308 args).run Tryz.prog w = .ok (.enter 308 args) w := by kernel_rfl
theorem s22full_any (S : Nat) (from_ : Int) (w : World) (hS : S < w.heap.size) : Calls Tryz.prog 280 #[.pointer (some ⟨S, 0, none⟩), I from_] w fun e w' =>
    ∃ q1 q2, e = .returned (.func (.func 308) #[] #[.pointer (some ⟨q1, 0, none⟩), .pointer (some ⟨q2, 0, none⟩)]) ∧
      w'.heap[q1]? = some (.cells #[I from_] 3 (0, 0)) ∧ w'.heap[q2]? = some (.cells #[.pointer (some ⟨S, 0, none⟩)] 177 (0, 0)) ∧ w.heap.size ≤ q1 ∧ w.heap.size ≤ q2 ∧ Ch [] w w' := by
  go_enter Tryz.func280, Tryz.ntmps280
  go_wp2
  go_ret
  refine ⟨w.heap.size + 1, w.heap.size, rfl, ?_, ?_, by omega, by omega, ?_⟩
  · simp [go_sem]
  · simp [go_sem]
  · exact ((Ch.refl [] w).alloc _).alloc _
theorem full_yields (p : PartT) (from_ : Nat) (hf : from_ ≤ 16) (S q1 q2 : Nat) (w : World) (hS : w.heap[S]? = some (.cells (partC p) 179 (0, 0))) (h1 : w.heap[q1]? = some (.cells #[I (from_ : Int)] 3 (0, 0))) (h2 : w.heap[q2]? = some (.cells #[.pointer (some ⟨S, 0, none⟩)] 177 (0, 0))) :
    YieldsO Tryz.prog 308 #[.pointer (some ⟨q1, 0, none⟩), .pointer (some ⟨q2, 0, none⟩)] (fun x : Nat => #[I (x : Int)]) (toldS (gotS p) from_ 16) [] [S, q1, q2] w := by
  intro n l J Jx W O0 hW hk hO hJ hJx hY h0
  have S0 := (hk S (by simp)).trans hS
  have a0 := (hk q1 (by simp)).trans h1
  have b0 := (hk q2 (by simp)).trans h2
  clear hS h1 h2 hk hW
  refine callsIn_of_wp Tryz.func308 rfl trivial ?_
  simp only [Tryz.ntmps308, List.size_toArray, List.length_cons, List.length_nil, Nat.reduceAdd, Nat.reduceSub, Array.replicate_succ, Array.replicate_zero, List.push_toArray, List.append_toArray, List.nil_append, List.cons_append]
  refine wpIn_wide.2 ?_
  apply wp_scope_straight
  refine (wpIn_wide (n := n + 1)).1 ?_
  gi_wp2
  apply wpIn_label
  gi_wp2
  gi_loopw [4] (fun i wr => ∃ (m : Nat) (O : Nat → Prop), i = .int .i64 m ∧ from_ ≤ m ∧ m ≤ 16 ∧ J (toldS (gotS p) from_ m) O wr ∧ wr.heap[S]? = some (.cells (partC p) 179 (0, 0)) ∧ wr.heap[q1]? = some (.cells #[I (from_ : Int)] 3 (0, 0)) ∧ wr.heap[q2]? = some (.cells #[.pointer (some ⟨S, 0, none⟩)] 177 (0, 0))) (fun i _ => 16 - (intOf i).toNat)
  case atStart => exact ⟨from_, O0, rfl, Nat.le_refl _, hf, by rw [toldS_low _ _ _ (Nat.le_refl _)]; exact h0, S0, a0, b0⟩
  case round =>
    obtain ⟨m, O, hm, hml, hm6, hj, Sr, ar, br⟩ := hrel
    subst hm
    clear S0 a0 b0 h0
    have hjK := fun b hb => (hO _ _ _ hj b hb).2
    have hOS : ¬ O S := fun h => hjK S h (by simp)
    have hO1 : ¬ O q1 := fun h => hjK q1 h (by simp)
    have hO2 : ¬ O q2 := fun h => hjK q2 h (by simp)
    clear hjK
    rcases Nat.lt_or_ge m 16 with hlt | hge
    · have d1 : IntKind.i64.wrap ((m / 8 : Nat) : Int) = ((m / 8 : Nat) : Int) := by rw [IntKind.wrap_i64]; omega
      have d2 : IntKind.i64.wrap ((m % 8 : Nat) : Int) = ((m % 8 : Nat) : Int) := by rw [IntKind.wrap_i64]; omega
      have d4 : (m : Int).tdiv 8 = ((m / 8 : Nat) : Int) := by rw [Int.tdiv_eq_ediv_of_nonneg (by omega)]; omega
      have d5 : (m : Int).tmod 8 = ((m % 8 : Nat) : Int) := by rw [Int.tmod_eq_emod_of_nonneg (by omega)]; omega
      have G1 := fun w => get_yes (p.c (m / 8)) (m % 8) (by omega) w
      have e8 := part_gc p (m / 8) (by omega)
      have hbt : byteAt (p.c (m / 8)) (m % 8) = bt (gotS p) m := rfl
      rw [hbt] at G1
      have hfj : fullJ (gotS p) m = decide ((bt (gotS p) m).toNat < 128) := rfl
      have hno := toldS_no (gotS p) from_ m hml
      have hyes := toldS_yes (gotS p) from_ m hml
      have hspl := toldS_split (gotS p) from_ m hlt hml
      rw [hfj] at hno hyes hspl
      generalize bt (gotS p) m = bb at *
      obtain ⟨q, hq⟩ : ∃ q, m / 8 = q := ⟨_, rfl⟩
      obtain ⟨r, hr⟩ : ∃ q, m % 8 = q := ⟨_, rfl⟩
      rw [hq] at d1 d4 e8 G1
      rw [hr] at d2 d5 G1
      have hq2 : q < 2 := by omega
      have hr8 : r < 8 := by omega
      have hmI : (m : Int) < 16 := by omega
      have q0 : (0 : Int) ≤ q := by omega
      have q1' : (q : Int) < 2 := by omega
      clear hq hr hbt
      by_cases hbb : bb.toNat < 128
      · have hle : N bb ≤ 127 := by unfold N; omega
        rw [decide_eq_true hbb] at hno hyes hspl
        obtain ⟨rs, hrs⟩ := hspl rfl
        have hy' := hyes rfl
        obtain ⟨fn, tmps, assign, body, hyl, hRd⟩ := hY _ O m rs wr hrs hj
        have HR := Lib.hid hRd
        have HY' := Lib.hid hy'
        clear hno hyes hspl hrs hRd hy' hj hfj
        gi_wp2_with (refine ⟨trivial, ?_⟩; gi_at_call 168; refine (callsIn_wide.2 (G1 _)).mono ?_; rintro e w' ⟨rfl, rfl⟩)
        refine HR.out.mono ?_
        clear hyl HR
        rintro e w4 (⟨rfl, ⟨O', hj4, hO'⟩, hz4, hk4⟩ | ⟨rfl, hJx4⟩)
        · have S4 := (hk4 S (Array.getElem?_eq_some_iff.1 Sr).1 hOS).trans Sr
          have a4 := (hk4 q1 (Array.getElem?_eq_some_iff.1 ar).1 hO1).trans ar
          have b4 := (hk4 q2 (Array.getElem?_eq_some_iff.1 br).1 hO2).trans br
          clear hk4 hz4 hO' Sr ar br
          gi_wp2
          go_roundw
          case rel => exact ⟨m + 1, O', by go_num, by omega, by omega, by rw [HY'.out]; exact hj4, S4, a4, b4⟩
          case measure => simp [intOf]; omega
        · gi_wp2
          rw [Exit.noGoto_normal]
          refine bodyPost_end (results_none rfl _ _ _) rfl ?_
          exact ⟨⟨_, rfl⟩, .inr hJx4⟩
      · have hle : ¬ (N bb ≤ 127) := by unfold N; omega
        rw [decide_eq_false hbb] at hno hyes hspl
        have hy' := hno rfl
        have HY' := Lib.hid hy'
        clear hno hyes hspl hy' hfj
        gi_wp2_with (refine ⟨trivial, ?_⟩; gi_at_call 168; refine (callsIn_wide.2 (G1 _)).mono ?_; rintro e w' ⟨rfl, rfl⟩)
        refine ⟨(fun f h => by cases h), ?_⟩
        gi_wp2
        go_roundw
        case rel => exact ⟨m + 1, O, by go_num, by omega, by omega, by rw [HY'.out]; exact hj, Sr, ar, br⟩
        case measure => simp [intOf]; omega
    · have hme : m = 16 := by omega
      subst hme
      gi_wp2
      rw [Exit.noGoto_normal]
      refine bodyPost_end (results_none rfl _ _ _) rfl ?_
      exact ⟨⟨_, rfl⟩, .inl ⟨O, hj⟩⟩
end
end Go.Proofs.Hc
namespace Go.Proofs.Hc
open Go.RowKit
def SelfEq (d : Nat) (T : TypeId) (v : Value) : Prop := ∀ w, (Op.equalIn d T v v).run Tryz.prog w = .ok true w
theorem self_int (d : Nat) (T : TypeId) (k k' : IntKind) (a : Int) (h : Tryz.prog.underlying T = some (.int k')) : SelfEq (d + 1) T (.int k a) := fun w => by
  rw [run_equalIn_int w d T k k' a a h, beq_self_eq_true]
theorem self_items {d c : Nat} {e : TypeId} {xs : Array Value} : ∀ (is : List Nat), (∀ i ∈ is, ∃ a, (∀ w, (part e xs (i * c)).run Tryz.prog w = .ok a w) ∧ SelfEq d e a) → ∀ w, (Op.eqItems d e c xs xs is).run Tryz.prog w = .ok true w
  | [], _, w => by simp [Op.eqItems]
  | i :: is, h, w => by
    obtain ⟨a, h1, h2⟩ := h i (by simp)
    have ih := self_items is (fun j hj => h j (by simp [hj])) w
    simp only [Op.eqItems, Sem.run_bind, h1, h2 w, Result.andThen_ok, Bool.not_true, Bool.false_eq_true, if_false, ih]
theorem self_fields {d : Nat} {xs : Array Value} : ∀ (fs : List Field), (∀ f ∈ fs, ∃ a, (∀ w, (part f.type xs f.offset).run Tryz.prog w = .ok a w) ∧ SelfEq d f.type a) → ∀ w, (Op.eqFields d xs xs fs).run Tryz.prog w = .ok true w
  | [], _, w => by simp [Op.eqFields]
  | f :: fs, h, w => by
    obtain ⟨a, h1, h2⟩ := h f (by simp)
    have ih := self_fields fs (fun j hj => h j (by simp [hj])) w
    simp only [Op.eqFields]
    split
    · simp only [Sem.run_bind, h1, h2 w, Result.andThen_ok, Bool.not_true, Bool.false_eq_true, if_false, ih]
    · exact ih
theorem part_int {T : TypeId} {k : IntKind} (h : Tryz.prog.underlying T = some (.int k)) {xs : Array Value} {off : Nat} {v : Value} (hx : xs[off]? = some v) (w : World) : (part T xs off).run Tryz.prog w = .ok v w :=
  run_part_plain w (by simp [Program.plainKey, h]) hx
theorem part_arr {T e : TypeId} {n : Nat} (h : Tryz.prog.underlying T = some (.array n e)) {i : TypeInfo} (hi : Tryz.prog.info? T = some i) (hs : Tryz.prog.cellsOf T = n) (xs : Array Value) (off : Nat) (w : World) : (part T xs off).run Tryz.prog w = .ok (.agg (xs.extract off (off + n))) w := by
  simp [part, isAgg, run_underlying h, run_sizeOf w hi, hs]
theorem self_words {d n : Nat} {T : TypeId} (h : Tryz.prog.underlying T = some (.array n 22)) (xs : Array Value) (hx : ∀ i, i < n → ∃ b : BitVec 64, xs[i]? = some (U b)) : SelfEq (d + 2) T (.agg xs) := fun w => by
  obtain ⟨i, hi⟩ : ∃ i, Tryz.prog.info? 22 = some i := info_of_underlying Tryz.underlying22
  rw [run_equalIn_array w (d + 1) xs xs h hi]
  have hc : Tryz.prog.cellsOf 22 = 1 := by kernel_rfl
  rw [hc]
  refine self_items _ (fun j hj => ?_) w
  obtain ⟨b, hb⟩ := hx j (by simpa using hj)
  exact ⟨U b, fun w => part_int Tryz.underlying22 (by rw [Nat.mul_one]; exact hb) w, self_int d _ _ _ _ Tryz.underlying22⟩
theorem tab_fields : (Tryz.prog.fieldsOf 26).toList.map (fun f => (f.type, f.offset)) = [(22, 0), (3, 1), (22, 2), (3, 3), (3, 4), (23, 5), (24, 7), (24, 23)] := by kernel_rfl
theorem tab_under : Tryz.prog.underlying 26 = some (.struct (Tryz.prog.fieldsOf 26)) := by kernel_rfl
theorem tab_stood : Tryz.prog.stoodInHeld 26 = false := by kernel_rfl
theorem c2_cells : Tryz.prog.cellsOf 23 = 2 := by kernel_rfl
theorem c16_cells : Tryz.prog.cellsOf 24 = 16 := by kernel_rfl
theorem tab_word {t : Tab} {o i : Nat} (h : o = 5 ∧ i < 2 ∨ o = 7 ∧ i < 16 ∨ o = 23 ∧ i < 16) : ∃ b : BitVec 64, (tcells t)[o + i]? = some (U b) := by
  rcases h with ⟨rfl, hi⟩ | ⟨rfl, hi⟩ | ⟨rfl, hi⟩
  · match i, hi with
    | 0, _ => exact ⟨t.c 0, by rw [zaf]; rfl⟩
    | 1, _ => exact ⟨t.c 1, by rw [zaf]; rfl⟩
  · exact ⟨_, tcells_key t i hi⟩
  · exact ⟨_, tcells_val t i hi⟩
theorem tab_words {t : Tab} {o n : Nat} (h : o = 5 ∧ n = 2 ∨ o = 7 ∧ n = 16 ∨ o = 23 ∧ n = 16) : ∀ i, i < n → ∃ b : BitVec 64, ((tcells t).extract o (o + n))[i]? = some (U b) := by
  intro i hi
  obtain ⟨b, hb⟩ := tab_word (t := t) (o := o) (i := i) (by omega)
  refine ⟨b, ?_⟩
  rw [Array.getElem?_extract, if_pos (by rw [zag]; omega)]
  exact hb
theorem self_tab (d : Nat) (t : Tab) : SelfEq (d + 3) 26 (.agg (tcells t)) := fun w => by
  rw [run_equalIn_agg w (d + 2) 26 _ _ tab_under tab_stood]
  refine self_fields _ (fun f hf => ?_) w
  have hm : (f.type, f.offset) ∈ [(22, 0), (3, 1), (22, 2), (3, 3), (3, 4), (23, 5), (24, 7), (24, 23)] := by
    rw [← tab_fields]; exact List.mem_map.2 ⟨f, hf, rfl⟩
  generalize f.type = T at *
  generalize f.offset = o at *
  obtain ⟨i2, h2⟩ := info_of_underlying (P := Tryz.prog) Tryz.underlying23
  obtain ⟨i16, h16⟩ := info_of_underlying (P := Tryz.prog) Tryz.underlying24
  simp only [List.mem_cons, Prod.mk.injEq, List.not_mem_nil, or_false] at hm
  rcases hm with ⟨rfl, rfl⟩ | ⟨rfl, rfl⟩ | ⟨rfl, rfl⟩ | ⟨rfl, rfl⟩ | ⟨rfl, rfl⟩ | ⟨rfl, rfl⟩ | ⟨rfl, rfl⟩ | ⟨rfl, rfl⟩
  · exact ⟨U t.count, part_int Tryz.underlying22 (by rw [zaf]; rfl), self_int _ _ _ _ _ Tryz.underlying22⟩
  · exact ⟨I t.depth, part_int Tryz.underlying3 (by rw [zaf]; rfl), self_int _ _ _ _ _ Tryz.underlying3⟩
  · exact ⟨U t.pre, part_int Tryz.underlying22 (by rw [zaf]; rfl), self_int _ _ _ _ _ Tryz.underlying22⟩
  · exact ⟨I t.can, part_int Tryz.underlying3 (by rw [zaf]; rfl), self_int _ _ _ _ _ Tryz.underlying3⟩
  · exact ⟨I t.live, part_int Tryz.underlying3 (by rw [zaf]; rfl), self_int _ _ _ _ _ Tryz.underlying3⟩
  · exact ⟨_, part_arr Tryz.underlying23 h2 c2_cells _ _, self_words Tryz.underlying23 _ (tab_words (by omega))⟩
  · exact ⟨_, part_arr Tryz.underlying24 h16 c16_cells _ _, self_words Tryz.underlying24 _ (tab_words (by omega))⟩
  · exact ⟨_, part_arr Tryz.underlying24 h16 c16_cells _ _, self_words Tryz.underlying24 _ (tab_words (by omega))⟩
theorem eql_tab (t : Tab) (w : World) : (binOp .eql 26 (.agg (tcells t)) (.agg (tcells t))).run Tryz.prog w = .ok (.bool true) w := by
  rw [run_eql_struct, self_tab 9997 t w]; rfl
theorem neq_tab (t : Tab) (w : World) : (binOp .neq 26 (.agg (tcells t)) (.agg (tcells t))).run Tryz.prog w = .ok (.bool false) w := by
  rw [run_neq_struct, self_tab 9997 t w]; rfl
theorem guard26 (op : BinOp) (x y : Operand) (xs ys : Array Value) (w : World) : (eqGuard op 26 x y (.agg xs) (.agg ys)).run Tryz.prog w = .ok () w := run_eqGuard_agg w op 26 x y xs ys (by kernel_rfl)
end Go.Proofs.Hc
namespace Go.Proofs.Hc
open Go.RowKit
theorem part_fields : (Tryz.prog.fieldsOf 51).toList.map (fun f => (f.type, f.offset)) = [(3, 0), (3, 1), (3, 2), (45, 3), (22, 5), (22, 6), (22, 7), (23, 8), (24, 10), (24, 26), (3, 42), (49, 43)] := by kernel_rfl
theorem part_under : Tryz.prog.underlying 51 = some (.struct (Tryz.prog.fieldsOf 51)) := by kernel_rfl
theorem part_stood : Tryz.prog.stoodInHeld 51 = false := by kernel_rfl
theorem ci2_cells : Tryz.prog.cellsOf 45 = 2 := by kernel_rfl
theorem c40s_cells : Tryz.prog.cellsOf 48 = 40 := by kernel_rfl
theorem c80_cells : Tryz.prog.cellsOf 49 = 80 := by kernel_rfl
theorem self_ints {d n : Nat} {T : TypeId} (h : Tryz.prog.underlying T = some (.array n 3)) (xs : Array Value) (hx : ∀ i, i < n → ∃ b : Int, xs[i]? = some (I b)) : SelfEq (d + 2) T (.agg xs) := fun w => by
  obtain ⟨i, hi⟩ : ∃ i, Tryz.prog.info? 3 = some i := info_of_underlying Tryz.underlying3
  rw [run_equalIn_array w (d + 1) xs xs h hi]
  have hc : Tryz.prog.cellsOf 3 = 1 := by kernel_rfl
  rw [hc]
  refine self_items _ (fun j hj => ?_) w
  obtain ⟨b, hb⟩ := hx j (by simpa using hj)
  exact ⟨I b, fun w => part_int Tryz.underlying3 (by rw [Nat.mul_one]; exact hb) w, self_int d _ _ _ _ Tryz.underlying3⟩
theorem self_w80 {d : Nat} (xs : Array Value) (hx : ∀ i, i < 80 → ∃ b : BitVec 64, xs[i]? = some (U b)) : SelfEq (d + 3) 49 (.agg xs) := fun w => by
  obtain ⟨i, hi⟩ := info_of_underlying (P := Tryz.prog) Tryz.underlying48
  rw [run_equalIn_array w (d + 2) _ _ Tryz.underlying49 hi, c40s_cells]
  refine self_items _ (fun j hj => ?_) w
  have hj2 : j < 2 := by simpa using hj
  refine ⟨_, part_arr Tryz.underlying48 hi c40s_cells _ _, self_words Tryz.underlying48 _ (fun k hk => ?_)⟩
  obtain ⟨b, hb⟩ := hx (j * 40 + k) (by omega)
  have hlt := (Array.getElem?_eq_some_iff.1 hb).1
  have hlt2 : j * 40 + k < xs.size := hlt
  obtain ⟨b2, hb2⟩ := hx 79 (by omega)
  have h79 := (Array.getElem?_eq_some_iff.1 hb2).1
  refine ⟨b, ?_⟩
  rw [Array.getElem?_extract, if_pos (by omega)]
  exact hb
theorem self_part (d : Nat) (p : PartT) : SelfEq (d + 4) 51 (.agg (partC p)) := fun w => by
  rw [run_equalIn_agg w (d + 3) 51 _ _ part_under part_stood]
  refine self_fields _ (fun f hf => ?_) w
  have hm : (f.type, f.offset) ∈ [(3, 0), (3, 1), (3, 2), (45, 3), (22, 5), (22, 6), (22, 7), (23, 8), (24, 10), (24, 26), (3, 42), (49, 43)] := by
    rw [← part_fields]; exact List.mem_map.2 ⟨f, hf, rfl⟩
  generalize f.type = T at *
  generalize f.offset = o at *
  obtain ⟨ii, hii⟩ := info_of_underlying (P := Tryz.prog) Tryz.underlying45
  obtain ⟨i2, h2⟩ := info_of_underlying (P := Tryz.prog) Tryz.underlying23
  obtain ⟨i16, h16⟩ := info_of_underlying (P := Tryz.prog) Tryz.underlying24
  obtain ⟨i80, h80⟩ := info_of_underlying (P := Tryz.prog) Tryz.underlying49
  simp only [List.mem_cons, Prod.mk.injEq, List.not_mem_nil, or_false] at hm
  rcases hm with ⟨rfl, rfl⟩ | ⟨rfl, rfl⟩ | ⟨rfl, rfl⟩ | ⟨rfl, rfl⟩ | ⟨rfl, rfl⟩ | ⟨rfl, rfl⟩ | ⟨rfl, rfl⟩ | ⟨rfl, rfl⟩ | ⟨rfl, rfl⟩ | ⟨rfl, rfl⟩ | ⟨rfl, rfl⟩ | ⟨rfl, rfl⟩
  · exact ⟨_, part_int Tryz.underlying3 (zcv p), self_int _ _ _ _ _ Tryz.underlying3⟩
  · exact ⟨_, part_int Tryz.underlying3 (zdi p), self_int _ _ _ _ _ Tryz.underlying3⟩
  · exact ⟨_, part_int Tryz.underlying3 (zdc p), self_int _ _ _ _ _ Tryz.underlying3⟩
  · refine ⟨_, part_arr Tryz.underlying45 hii ci2_cells _ _, self_ints Tryz.underlying45 _ (fun i hi => ?_)⟩
    match i, hi with
    | 0, _ => exact ⟨p.t0, by rw [Array.getElem?_extract, if_pos (by rw [zbl]; omega)]; exact zcy p⟩
    | 1, _ => exact ⟨p.t1, by rw [Array.getElem?_extract, if_pos (by rw [zbl]; omega)]; exact zcx p⟩
  · exact ⟨_, part_int Tryz.underlying22 (zdb p), self_int _ _ _ _ _ Tryz.underlying22⟩
  · exact ⟨_, part_int Tryz.underlying22 (zdh p), self_int _ _ _ _ _ Tryz.underlying22⟩
  · exact ⟨_, part_int Tryz.underlying22 (zda p), self_int _ _ _ _ _ Tryz.underlying22⟩
  · refine ⟨_, part_arr Tryz.underlying23 h2 c2_cells _ _, self_words Tryz.underlying23 _ (fun i hi => ⟨p.c i, ?_⟩)⟩
    rw [Array.getElem?_extract, if_pos (by rw [zbl]; omega)]
    exact part_gc p i hi
  · refine ⟨_, part_arr Tryz.underlying24 h16 c16_cells _ _, self_words Tryz.underlying24 _ (fun i hi => ⟨p.k i, ?_⟩)⟩
    rw [Array.getElem?_extract, if_pos (by rw [zbl]; omega)]
    exact part_gk p i hi
  · refine ⟨_, part_arr Tryz.underlying24 h16 c16_cells _ _, self_words Tryz.underlying24 _ (fun i hi => ⟨p.v i, ?_⟩)⟩
    rw [Array.getElem?_extract, if_pos (by rw [zbl]; omega)]
    exact part_gv p i hi
  · exact ⟨_, part_int Tryz.underlying3 (zcf p), self_int _ _ _ _ _ Tryz.underlying3⟩
  · refine ⟨.agg ((partC p).extract 43 (43 + 80)), fun w => by simp [part, isAgg, run_underlying Tryz.underlying49, run_sizeOf w h80, c80_cells], self_w80 _ (fun i hi => ⟨p.ws i, ?_⟩)⟩
    rw [Array.getElem?_extract, if_pos (by rw [zbl]; omega)]
    exact part_gw p i hi
theorem eql_part (p : PartT) (w : World) : (binOp .eql 51 (.agg (partC p)) (.agg (partC p))).run Tryz.prog w = .ok (.bool true) w := by
  rw [run_eql_struct, self_part 9996 p w]; rfl
theorem neq_part (p : PartT) (w : World) : (binOp .neq 51 (.agg (partC p)) (.agg (partC p))).run Tryz.prog w = .ok (.bool false) w := by
  rw [run_neq_struct, self_part 9996 p w]; rfl
theorem guardPart (op : BinOp) (x y : Operand) (xs ys : Array Value) (w : World) : (eqGuard op 51 x y (.agg xs) (.agg ys)).run Tryz.prog w = .ok () w := run_eqGuard_agg w op 51 x y xs ys (by kernel_rfl)
end Go.Proofs.Hc
