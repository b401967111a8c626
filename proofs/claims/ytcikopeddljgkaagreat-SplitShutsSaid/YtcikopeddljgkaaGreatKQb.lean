/- Package split: first. -/
import Derived.Test.YtcikopeddljgkaaGreatKPd
import Derived.Test.YtcikopeddljgkaaGreatKPj
import Derived.Laws.EntriesVeiled
set_option linter.unusedSimpArgs false
set_option linter.unusedVariables false
set_option maxHeartbeats 4000000
set_option maxRecDepth 100000
namespace Go.Proofs.Hc
open Go.RowKit
attribute [local go_sem] zbr zby zau zba zbl zay zbk zbm zbu signed64 signed8 zas BitVec.ofInt_add BitVec.ofInt_mul ofInt_sub' zaw zax wide8 eqN neN zbx shr1 shr7 shr56
attribute [local go_sem high] zaz zbt
attribute [local go_sem] zan zbv zae zal zad zbd zao zag zbj zaj zbc zbe
attribute [local go_sem] load26 load73 load23 store26 build73
attribute [local go_sem ↓] lrow26 lrow73 lrow23 srow26 zero26 brow73 zab zav zbb zaa zac
attribute [local go_sem] zah zaq zat zbf zbg zbp zam zar zbq zbi zbh
attribute [local go_sem] nn2 nm2 nn3 nm3 nn4 nm4 nn5 nm5 nn6 nm6 nn7 nm7 nn8 nm8
section
attribute [local go_sem] zas zbo
attribute [local go_sem] Oper.semAt_some zak
attribute [local go_sem] zch pacell0 pacell1 pacell2 pacell3 pacell4 pacell5 pacell6 pacell7 pacell42
attribute [local go_sem] zcv zdi zde zcz zcy zdd zdh zdc zcc zcp zdj zdg zck zbn zcg zci boxPart loadPart storePart zcd zcs buildPart0 buildPart4
attribute [local go_sem ↓] lrowPart srowPart browPart zcj zbw
attribute [local go_sem high] zap
attribute [local irreducible] partC
theorem build_half (d : Int) (p : BitVec 64) (w : World) : (buildRow 26 #[(1, I d), (2, U p)]).run Tryz.prog w = .ok (.agg (tcells ⟨0#64, d, p, 0, 0, fun _ => 0#64, fun _ => 0#64, fun _ => 0#64⟩)) w := by kernel_rfl
theorem mul2_64 (x : BitVec 64) : IntKind.u64.wrap (2 * N x) = N (2#64 * x) := by
  rw [IntKind.wrap_u64]; unfold N; rw [BitVec.toNat_mul, show (2#64).toNat = 2 from rfl]; omega
attribute [local go_sem] mul2_64
attribute [local go_sem ↓] brow26
theorem firstS_eq (p : PartT) (h : BitVec 64) : firstS p h = hasT ⟨0#64, N (p.head &&& 255#64) + 1, 2#64 * (p.head >>> 8), 0, 0, fun _ => 0#64, fun _ => 0#64, fun _ => 0#64⟩ h := rfl
theorem s22first_any (p : PartT) (g : Nat) (h : BitVec 64) (w : World) (hg : w.heap[g]? = some (.cells (partC p) 179 (0, 0))) :
    Calls Tryz.prog 311 #[.pointer (some ⟨g, 0, none⟩), U h] w fun e w' => e = .returned (.bool (firstS p h)) ∧ Ch [] w w' := by
  have P1 := s22parts_any p g w hg
  rw [firstS_eq]
  have hd : N (p.head &&& 255#64) < 256 := and255_lt p.head
  have hd0 : 0 ≤ N (p.head &&& 255#64) := by unfold N; omega
  obtain ⟨d, hdd⟩ : ∃ d, N (p.head &&& 255#64) = d := ⟨_, rfl⟩
  obtain ⟨y, hy⟩ : ∃ y, p.head >>> 8 = y := ⟨_, rfl⟩
  rw [hdd, hy] at P1
  rw [hdd] at hd hd0
  rw [hdd, hy]
  clear hdd hy
  have d1 : IntKind.i64.wrap (d + 1) = d + 1 := by rw [IntKind.wrap_i64]; omega
  have H1 := fun w => has_any ⟨0#64, d + 1, 2#64 * y, 0, 0, fun _ => 0#64, fun _ => 0#64, fun _ => 0#64⟩ h w
  obtain ⟨tc, htc⟩ : ∃ t : Tab, (⟨0#64, d + 1, 2#64 * y, 0, 0, fun _ => 0#64, fun _ => 0#64, fun _ => 0#64⟩ : Tab) = t := ⟨_, rfl⟩
  have B1 := fun w => build_half (d + 1) (2#64 * y) w
  rw [htc] at B1 H1 ⊢
  clear htc
  go_enter Tryz.func311, Tryz.ntmps311
  go_wp2_with fail
  refine P1.mono ?_
  rintro e w2 ⟨rfl, hc2⟩
  go_wp2_with fail
  refine (H1 _).mono ?_
  rintro e w3 ⟨rfl, hc3⟩
  go_wp2
  go_ret
  exact ⟨rfl, hc2.trans hc3⟩
end
section
attribute [local go_sem] zas zbo
attribute [local go_sem] Oper.semAt_some zak
attribute [local go_sem] zch pacell0 pacell1 pacell2 pacell3 pacell4 pacell5 pacell6 pacell7 pacell42
attribute [local go_sem] zcv zdi zde zcz zcy zdd zdh zdc zcc zcp zdj zdg zck zbn zcg zci boxPart loadPart storePart zcd zcs buildPart0 buildPart4
attribute [local go_sem ↓] lrowPart srowPart browPart zcj zbw
attribute [local go_sem high] zap
attribute [local irreducible] partC
def toldS (t : Tab) (from_ m : Nat) : List Nat := (List.range m).filter fun j => decide (from_ ≤ j) && fullJ t j
theorem toldS_low (t : Tab) (from_ m : Nat) (h : m ≤ from_) : toldS t from_ m = [] := by
  unfold toldS
  rw [List.filter_eq_nil_iff]
  intro j hj
  rw [List.mem_range] at hj
  rw [decide_eq_false (by omega), Bool.false_and]
  decide
theorem toldS_no (t : Tab) (from_ m : Nat) (h : from_ ≤ m) (hf : fullJ t m = false) : toldS t from_ (m + 1) = toldS t from_ m := by
  unfold toldS
  rw [List.range_succ, List.filter_append, List.filter_cons_of_neg (by rw [hf, Bool.and_false]; decide), List.filter_nil, List.append_nil]
theorem toldS_yes (t : Tab) (from_ m : Nat) (h : from_ ≤ m) (hf : fullJ t m = true) : toldS t from_ (m + 1) = toldS t from_ m ++ [m] := by
  unfold toldS
  rw [List.range_succ, List.filter_append, List.filter_cons_of_pos (by rw [hf, decide_eq_true h]; rfl), List.filter_nil]
theorem toldS_split (t : Tab) (from_ m : Nat) (hm : m < 16) (h : from_ ≤ m) (hf : fullJ t m = true) : ∃ r, toldS t from_ 16 = toldS t from_ m ++ m :: r := by
  refine ⟨((List.range' (m + 1) (16 - (m + 1)))).filter (fun j => decide (from_ ≤ j) && fullJ t j), ?_⟩
  have e : List.range 16 = List.range (m + 1) ++ List.range' (m + 1) (16 - (m + 1)) := by
    have := List.range'_append_1 (s := 0) (m := m + 1) (n := 16 - (m + 1))
    rw [Nat.zero_add, show m + 1 + (16 - (m + 1)) = 16 by omega] at this
    rw [List.range_eq_range', List.range_eq_range', this]
  unfold toldS
  rw [e, List.filter_append]
  have := toldS_yes t from_ m h hf
  unfold toldS at this
  rw [this, List.append_assoc]; rfl
theorem enters_full22 (args : Array Value) (w : World) : (callFunc 308 args).run Tryz.prog w = .ok (.enter 308 args) w := by kernel_rfl
theorem s22full_any (S : Nat) (from_ : Int) (w : World) (hS : S < w.heap.size) : Calls Tryz.prog 280 #[.pointer (some ⟨S, 0, none⟩), I from_] w fun e w' =>
    ∃ q1 q2, e = .returned (.func (.func 308) #[] #[.pointer (some ⟨q1, 0, none⟩), .pointer (some ⟨q2, 0, none⟩)]) ∧
      w'.heap[q1]? = some (.cells #[I from_] 3 (0, 0)) ∧ w'.heap[q2]? = some (.cells #[.pointer (some ⟨S, 0, none⟩)] 177 (0, 0)) ∧ w.heap.size ≤ q1 ∧ w.heap.size ≤ q2 ∧ Ch [] w w' := by
  go_enter Tryz.func280, Tryz.ntmps280
  go_wp2
  go_ret
  refine ⟨w.heap.size + 1, w.heap.size, rfl, ?_, ?_, by omega, by omega, ?_⟩
  · simp [go_sem]
  · simp [go_sem]
  · exact ((Ch.refl [] w).alloc _).alloc _
theorem full_yields (p : PartT) (from_ : Nat) (hf : from_ ≤ 16) (S q1 q2 : Nat) (w : World) (hS : w.heap[S]? = some (.cells (partC p) 179 (0, 0))) (h1 : w.heap[q1]? = some (.cells #[I (from_ : Int)] 3 (0, 0))) (h2 : w.heap[q2]? = some (.cells #[.pointer (some ⟨S, 0, none⟩)] 177 (0, 0))) :
    YieldsO Tryz.prog 308 #[.pointer (some ⟨q1, 0, none⟩), .pointer (some ⟨q2, 0, none⟩)] (fun x : Nat => #[I (x : Int)]) (toldS (gotS p) from_ 16) [] [S, q1, q2] w := by
  intro n l J Jx W O0 hW hk hO hJ hJx hY h0
  have S0 := (hk S (by simp)).trans hS
  have a0 := (hk q1 (by simp)).trans h1
  have b0 := (hk q2 (by simp)).trans h2
  clear hS h1 h2 hk hW
  refine callsIn_of_wp Tryz.func308 rfl trivial ?_
  simp only [Tryz.ntmps308, List.size_toArray, List.length_cons, List.length_nil, Nat.reduceAdd, Nat.reduceSub, Array.replicate_succ, Array.replicate_zero, List.push_toArray, List.append_toArray, List.nil_append, List.cons_append]
  refine wpIn_wide.2 ?_
  apply wp_scope_straight
  refine (wpIn_wide (n := n + 1)).1 ?_
  gi_wp2
  apply wpIn_label
  gi_wp2
  gi_loopw [4] (fun i wr => ∃ (m : Nat) (O : Nat → Prop), i = .int .i64 m ∧ from_ ≤ m ∧ m ≤ 16 ∧ J (toldS (gotS p) from_ m) O wr ∧ wr.heap[S]? = some (.cells (partC p) 179 (0, 0)) ∧ wr.heap[q1]? = some (.cells #[I (from_ : Int)] 3 (0, 0)) ∧ wr.heap[q2]? = some (.cells #[.pointer (some ⟨S, 0, none⟩)] 177 (0, 0))) (fun i _ => 16 - (intOf i).toNat)
  case atStart => exact ⟨from_, O0, rfl, Nat.le_refl _, hf, by rw [toldS_low _ _ _ (Nat.le_refl _)]; exact h0, S0, a0, b0⟩
  case round =>
    obtain ⟨m, O, hm, hml, hm6, hj, Sr, ar, br⟩ := hrel
    subst hm
    clear S0 a0 b0 h0
    have hjK := fun b hb => (hO _ _ _ hj b hb).2
    have hOS : ¬ O S := fun h => hjK S h (by simp)
    have hO1 : ¬ O q1 := fun h => hjK q1 h (by simp)
    have hO2 : ¬ O q2 := fun h => hjK q2 h (by simp)
    clear hjK
    rcases Nat.lt_or_ge m 16 with hlt | hge
    · have d1 : IntKind.i64.wrap ((m / 8 : Nat) : Int) = ((m / 8 : Nat) : Int) := by rw [IntKind.wrap_i64]; omega
      have d2 : IntKind.i64.wrap ((m % 8 : Nat) : Int) = ((m % 8 : Nat) : Int) := by rw [IntKind.wrap_i64]; omega
      have d4 : (m : Int).tdiv 8 = ((m / 8 : Nat) : Int) := by rw [Int.tdiv_eq_ediv_of_nonneg (by omega)]; omega
      have d5 : (m : Int).tmod 8 = ((m % 8 : Nat) : Int) := by rw [Int.tmod_eq_emod_of_nonneg (by omega)]; omega
      have G1 := fun w => get_yes (p.c (m / 8)) (m % 8) (by omega) w
      have e8 := part_gc p (m / 8) (by omega)
      have hbt : byteAt (p.c (m / 8)) (m % 8) = bt (gotS p) m := rfl
      rw [hbt] at G1
      have hfj : fullJ (gotS p) m = decide ((bt (gotS p) m).toNat < 128) := rfl
      have hno := toldS_no (gotS p) from_ m hml
      have hyes := toldS_yes (gotS p) from_ m hml
      have hspl := toldS_split (gotS p) from_ m hlt hml
      rw [hfj] at hno hyes hspl
      generalize bt (gotS p) m = bb at *
      obtain ⟨q, hq⟩ : ∃ q, m / 8 = q := ⟨_, rfl⟩
      obtain ⟨r, hr⟩ : ∃ q, m % 8 = q := ⟨_, rfl⟩
      rw [hq] at d1 d4 e8 G1
      rw [hr] at d2 d5 G1
      have hq2 : q < 2 := by omega
      have hr8 : r < 8 := by omega
      have hmI : (m : Int) < 16 := by omega
      have q0 : (0 : Int) ≤ q := by omega
      have q1' : (q : Int) < 2 := by omega
      clear hq hr hbt
      by_cases hbb : bb.toNat < 128
      · have hle : N bb ≤ 127 := by unfold N; omega
        rw [decide_eq_true hbb] at hno hyes hspl
        obtain ⟨rs, hrs⟩ := hspl rfl
        have hy' := hyes rfl
        obtain ⟨fn, tmps, assign, body, hyl, hRd⟩ := hY _ O m rs wr hrs hj
        have HR := Lib.hid hRd
        have HY' := Lib.hid hy'
        clear hno hyes hspl hrs hRd hy' hj hfj
        gi_wp2_with (refine ⟨trivial, ?_⟩; gi_at_call 168; refine (callsIn_wide.2 (G1 _)).mono ?_; rintro e w' ⟨rfl, rfl⟩)
        refine HR.out.mono ?_
        clear hyl HR
        rintro e w4 (⟨rfl, ⟨O', hj4, hO'⟩, hz4, hk4⟩ | ⟨rfl, hJx4⟩)
        · have S4 := (hk4 S (Array.getElem?_eq_some_iff.1 Sr).1 hOS).trans Sr
          have a4 := (hk4 q1 (Array.getElem?_eq_some_iff.1 ar).1 hO1).trans ar
          have b4 := (hk4 q2 (Array.getElem?_eq_some_iff.1 br).1 hO2).trans br
          clear hk4 hz4 hO' Sr ar br
          gi_wp2
          go_roundw
          case rel => exact ⟨m + 1, O', by go_num, by omega, by omega, by rw [HY'.out]; exact hj4, S4, a4, b4⟩
          case measure => simp [intOf]; omega
        · gi_wp2
          rw [Exit.noGoto_normal]
          refine bodyPost_end (results_none rfl _ _ _) rfl ?_
          exact ⟨⟨_, rfl⟩, .inr hJx4⟩
      · have hle : ¬ (N bb ≤ 127) := by unfold N; omega
        rw [decide_eq_false hbb] at hno hyes hspl
        have hy' := hno rfl
        have HY' := Lib.hid hy'
        clear hno hyes hspl hy' hfj
        gi_wp2_with (refine ⟨trivial, ?_⟩; gi_at_call 168; refine (callsIn_wide.2 (G1 _)).mono ?_; rintro e w' ⟨rfl, rfl⟩)
        refine ⟨(fun f h => by cases h), ?_⟩
        gi_wp2
        go_roundw
        case rel => exact ⟨m + 1, O, by go_num, by omega, by omega, by rw [HY'.out]; exact hj, Sr, ar, br⟩
        case measure => simp [intOf]; omega
    · have hme : m = 16 := by omega
      subst hme
      gi_wp2
      rw [Exit.noGoto_normal]
      refine bodyPost_end (results_none rfl _ _ _) rfl ?_
      exact ⟨⟨_, rfl⟩, .inl ⟨O, hj⟩⟩
end
end Go.Proofs.Hc
namespace Go.Proofs.Hc
open Go.RowKit
def pairS (p : PartT) (j : Nat) : BitVec 64 × BitVec 64 := (p.k j, p.v j)
theorem pairs_told (p : PartT) : pairsT (gotS p) = (toldS (gotS p) 0 16).map (pairS p) := by
  unfold pairsT toldS
  rw [slotsT_eq, List.map_map]
  have : (fun j => decide (0 ≤ j) && fullJ (gotS p) j) = fullJ (gotS p) := by funext j; simp
  rw [this]; rfl
def joinE : Except Int Tab → Except Int Tab → Option T2
  | .ok a, .ok b => some ⟨a, b⟩
  | _, _ => none
theorem joinE_ok (a b : Tab) : joinE (.ok a) (.ok b) = some ⟨a, b⟩ := rfl
theorem joinE_l (e : Int) (x : Except Int Tab) : joinE (.error e) x = none := by cases x <;> rfl
theorem joinE_r (e : Int) (x : Except Int Tab) : joinE x (.error e) = none := by cases x <;> rfl
def wordsS (x : T2) : Nat → BitVec 64 := fun i => if i < 40 then tword x.l i else tword x.r (i - 40)
theorem halvesS_eq (p : PartT) : halvesS p = (joinE (halfS p 0) (halfS p 1)).map wordsS := by
  unfold halvesS
  generalize halfS p 0 = a
  generalize halfS p 1 = b
  cases a <;> cases b <;> rfl
def bareS (p : PartT) (i : Nat) : Tab := bareT 0#64 (deepS p + 1) (2#64 * preS p + BitVec.ofNat 64 i)
theorem newE_flat (d : Int) (p : BitVec 64) : newE d p = if flatT (bareT 0#64 d p) then .ok (bareT 0#64 d p) else .error 2 := by
  unfold newE
  cases hf : flatT (bareT 0#64 d p) with
  | true =>
    obtain ⟨h0, h5, hp, _⟩ := (flatT_iff _).1 hf
    have e : p >>> d.toNat = 0#64 := BitVec.eq_of_toNat_eq (by
      have : N (p >>> d.toNat) = ((p >>> d.toNat).toNat : Int) := rfl
      have h : N (p >>> d.toNat) = 0 := hp
      show _ = 0
      omega)
    have h0 : (0 : Int) ≤ d := h0
    have h5 : d ≤ 5 := h5
    rw [if_pos rfl, if_neg]
    rw [e]
    simp
    omega
  | false =>
    rw [if_neg (show ¬ (false = true) by decide), if_pos]
    rw [Bool.or_eq_true, Bool.or_eq_true, decide_eq_true_eq, decide_eq_true_eq, bne_iff_ne]
    apply Classical.byContradiction
    intro hn
    have h0 : (0 : Int) ≤ d := by omega
    have h5 : d ≤ 5 := by omega
    have hp : p >>> d.toNat = 0#64 := by
      apply Classical.byContradiction
      intro h; exact hn (.inr h)
    have := bare_flat (c := 0#64) (p := p) h0 h5 (by rw [hp]; rfl)
    rw [hf] at this; cases this
theorem deepS_0 (p : PartT) : 0 ≤ deepS p := by unfold deepS; omega
theorem bareS_0 (p : PartT) : bareS p 0 = bareT 0#64 (deepS p + 1) (2#64 * preS p) := by
  unfold bareS
  rw [show BitVec.ofNat 64 0 = 0#64 from rfl, BitVec.add_zero]
def goS (p : PartT) (x : BitVec 64 × BitVec 64) : Bool := firstS p (hashOf p.seed x.1)
theorem laidT_may {s : BitVec 64} : ∀ (l : List (BitVec 64 × BitVec 64)) (t x : Tab), May t s → laidT s t l = .ok x → May x s
  | [], t, x, m, h => by
    rw [laidT_nil] at h
    cases h; exact m
  | p :: l, t, x, m, h => by
    cases hp : placeT t s p.1 with
    | error e => rw [laidT_err hp] at h; cases h
    | ok sl => rw [laidT_ok hp] at h; exact laidT_may l _ x (m.fill p.2 (place_spot hp)) h
end Go.Proofs.Hc
