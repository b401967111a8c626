/- Package split: the full slots, told one by one. -/
import Derived.Test.YtcikopeddljgkaaGreatJHlh
import Derived.Test.YtcikopeddljgkaaGreatJPo
set_option linter.unusedSimpArgs false
set_option linter.unusedVariables false
set_option maxHeartbeats 4000000
set_option maxRecDepth 100000
namespace Go.Proofs.Hc
open Go.RowKit
attribute [local go_sem] zbu zcc zax zbf zbo zbd zbn zbp zbw signed64 signed8 zap BitVec.ofInt_add BitVec.ofInt_mul ofInt_sub' zbb zbc wide8 eqN neN zca shr1 shr7 shr56
attribute [local go_sem high] zbe zbv
attribute [local go_sem] zaw zby zaj zas zaf zaz zar zak zbm zal zay zba
attribute [local go_sem] load26 load73 load23 store26 build73
attribute [local go_sem ↓] lrow26 lrow73 lrow23 srow26 zero26 brow73 zae zbk zbg zaa zab
attribute [local go_sem] zai zav zat zbj zbl zbr zaq zau zbs zbi zbh
attribute [local go_sem] nn2 nm2 nn3 nm3 nn4 nm4 nn5 nm5 nn6 nm6 nn7 nm7 nn8 nm8
section
attribute [local go_sem] zap zbq
attribute [local go_sem] Oper.semAt_some zao
attribute [local go_sem] zcj pacell0 pacell1 pacell2 pacell3 pacell4 pacell5 pacell6 pacell7 pacell42
attribute [local go_sem] zcs zcx zcp zcw zcv zdg zcu zdf zce zcr zdj zdc zch zbt zci zck boxPart loadPart storePart zcf zct buildPart0 buildPart4
attribute [local go_sem ↓] lrowPart srowPart browPart zcl zbz
attribute [local go_sem high] zag
attribute [local irreducible] partC
def toldS (t : Tab) (from_ m : Nat) : List Nat := (List.range m).filter fun j => decide (from_ ≤ j) && fullJ t j
theorem toldS_low (t : Tab) (from_ m : Nat) (h : m ≤ from_) : toldS t from_ m = [] := by
  unfold toldS
  rw [List.filter_eq_nil_iff]
  intro j hj
  rw [List.mem_range] at hj
  rw [decide_eq_false (by omega), Bool.false_and]
  decide
theorem toldS_no (t : Tab) (from_ m : Nat) (h : from_ ≤ m) (hf : fullJ t m = false) : toldS t from_ (m + 1) = toldS t from_ m := by
  unfold toldS
  rw [List.range_succ, List.filter_append, List.filter_cons_of_neg (by rw [hf, Bool.and_false]; decide), List.filter_nil, List.append_nil]
theorem toldS_yes (t : Tab) (from_ m : Nat) (h : from_ ≤ m) (hf : fullJ t m = true) : toldS t from_ (m + 1) = toldS t from_ m ++ [m] := by
  unfold toldS
  rw [List.range_succ, List.filter_append, List.filter_cons_of_pos (by rw [hf, decide_eq_true h]; rfl), List.filter_nil]
theorem toldS_split (t : Tab) (from_ m : Nat) (hm : m < 16) (h : from_ ≤ m) (hf : fullJ t m = true) : ∃ r, toldS t from_ 16 = toldS t from_ m ++ m :: r := by
  refine ⟨((List.range' (m + 1) (16 - (m + 1)))).filter (fun j => decide (from_ ≤ j) && fullJ t j), ?_⟩
  have e : List.range 16 = List.range (m + 1) ++ List.range' (m + 1) (16 - (m + 1)) := by
    have := List.range'_append_1 (s := 0) (m := m + 1) (n := 16 - (m + 1))
    rw [Nat.zero_add, show m + 1 + (16 - (m + 1)) = 16 by omega] at this
    rw [List.range_eq_range', List.range_eq_range', this]
  unfold toldS
  rw [e, List.filter_append]
  have := toldS_yes t from_ m h hf
  unfold toldS at this
  rw [this, List.append_assoc]; rfl
theorem enters_full22 (args : Array Value) (w : World) : (callFunc 308 args).run Tryz.prog w = .ok (.enter 308 args) w := by kernel_rfl
theorem s22full_any (S : Nat) (from_ : Int) (w : World) (hS : S < w.heap.size) : Calls Tryz.prog 280 #[.pointer (some ⟨S, 0, none⟩), I from_] w fun e w' =>
    ∃ q1 q2, e = .returned (.func (.func 308) #[] #[.pointer (some ⟨q1, 0, none⟩), .pointer (some ⟨q2, 0, none⟩)]) ∧
      w'.heap[q1]? = some (.cells #[I from_] 3 (0, 0)) ∧ w'.heap[q2]? = some (.cells #[.pointer (some ⟨S, 0, none⟩)] 177 (0, 0)) ∧ w.heap.size ≤ q1 ∧ w.heap.size ≤ q2 ∧ Ch [] w w' := by
  go_enter Tryz.func280, Tryz.ntmps280
  go_wp2
  go_ret
  refine ⟨w.heap.size + 1, w.heap.size, rfl, ?_, ?_, by omega, by omega, ?_⟩
  · simp [go_sem]
  · simp [go_sem]
  · exact ((Ch.refl [] w).alloc _).alloc _
theorem full_yields (p : PartT) (from_ : Nat) (hf : from_ ≤ 16) (S q1 q2 : Nat) (w : World) (hS : w.heap[S]? = some (.cells (partC p) 179 (0, 0))) (h1 : w.heap[q1]? = some (.cells #[I (from_ : Int)] 3 (0, 0))) (h2 : w.heap[q2]? = some (.cells #[.pointer (some ⟨S, 0, none⟩)] 177 (0, 0))) :
    YieldsO Tryz.prog 308 #[.pointer (some ⟨q1, 0, none⟩), .pointer (some ⟨q2, 0, none⟩)] (fun x : Nat => #[I (x : Int)]) (toldS (gotS p) from_ 16) [] [S, q1, q2] w := by
  intro n l J Jx W O0 hW hk hO hJ hJx hY h0
  have S0 := (hk S (by simp)).trans hS
  have a0 := (hk q1 (by simp)).trans h1
  have b0 := (hk q2 (by simp)).trans h2
  clear hS h1 h2 hk hW
  refine callsIn_of_wp Tryz.func308 rfl trivial ?_
  simp only [Tryz.ntmps308, List.size_toArray, List.length_cons, List.length_nil, Nat.reduceAdd, Nat.reduceSub, Array.replicate_succ, Array.replicate_zero, List.push_toArray, List.append_toArray, List.nil_append, List.cons_append]
  refine wpIn_wide.2 ?_
  apply wp_scope_straight
  refine (wpIn_wide (n := n + 1)).1 ?_
  gi_wp2
  apply wpIn_label
  gi_wp2
  gi_loopw [4] (fun i wr => ∃ (m : Nat) (O : Nat → Prop), i = .int .i64 m ∧ from_ ≤ m ∧ m ≤ 16 ∧ J (toldS (gotS p) from_ m) O wr ∧ wr.heap[S]? = some (.cells (partC p) 179 (0, 0)) ∧ wr.heap[q1]? = some (.cells #[I (from_ : Int)] 3 (0, 0)) ∧ wr.heap[q2]? = some (.cells #[.pointer (some ⟨S, 0, none⟩)] 177 (0, 0))) (fun i _ => 16 - (intOf i).toNat)
  case atStart => exact ⟨from_, O0, rfl, Nat.le_refl _, hf, by rw [toldS_low _ _ _ (Nat.le_refl _)]; exact h0, S0, a0, b0⟩
  case round =>
    obtain ⟨m, O, hm, hml, hm6, hj, Sr, ar, br⟩ := hrel
    subst hm
    clear S0 a0 b0 h0
    have hjK := fun b hb => (hO _ _ _ hj b hb).2
    have hOS : ¬ O S := fun h => hjK S h (by simp)
    have hO1 : ¬ O q1 := fun h => hjK q1 h (by simp)
    have hO2 : ¬ O q2 := fun h => hjK q2 h (by simp)
    clear hjK
    rcases Nat.lt_or_ge m 16 with hlt | hge
    · have d1 : IntKind.i64.wrap ((m / 8 : Nat) : Int) = ((m / 8 : Nat) : Int) := by rw [IntKind.wrap_i64]; omega
      have d2 : IntKind.i64.wrap ((m % 8 : Nat) : Int) = ((m % 8 : Nat) : Int) := by rw [IntKind.wrap_i64]; omega
      have d4 : (m : Int).tdiv 8 = ((m / 8 : Nat) : Int) := by rw [Int.tdiv_eq_ediv_of_nonneg (by omega)]; omega
      have d5 : (m : Int).tmod 8 = ((m % 8 : Nat) : Int) := by rw [Int.tmod_eq_emod_of_nonneg (by omega)]; omega
      have G1 := fun w => get_yes (p.c (m / 8)) (m % 8) (by omega) w
      have e8 := part_gc p (m / 8) (by omega)
      have hbt : byteAt (p.c (m / 8)) (m % 8) = bt (gotS p) m := rfl
      rw [hbt] at G1
      have hfj : fullJ (gotS p) m = decide ((bt (gotS p) m).toNat < 128) := rfl
      have hno := toldS_no (gotS p) from_ m hml
      have hyes := toldS_yes (gotS p) from_ m hml
      have hspl := toldS_split (gotS p) from_ m hlt hml
      rw [hfj] at hno hyes hspl
      generalize bt (gotS p) m = bb at *
      obtain ⟨q, hq⟩ : ∃ q, m / 8 = q := ⟨_, rfl⟩
      obtain ⟨r, hr⟩ : ∃ q, m % 8 = q := ⟨_, rfl⟩
      rw [hq] at d1 d4 e8 G1
      rw [hr] at d2 d5 G1
      have hq2 : q < 2 := by omega
      have hr8 : r < 8 := by omega
      have hmI : (m : Int) < 16 := by omega
      have q0 : (0 : Int) ≤ q := by omega
      have q1' : (q : Int) < 2 := by omega
      clear hq hr hbt
      by_cases hbb : bb.toNat < 128
      · have hle : N bb ≤ 127 := by unfold N; omega
        rw [decide_eq_true hbb] at hno hyes hspl
        obtain ⟨rs, hrs⟩ := hspl rfl
        have hy' := hyes rfl
        obtain ⟨fn, tmps, assign, body, hyl, hRd⟩ := hY _ O m rs wr hrs hj
        have HR := Lib.hid hRd
        have HY' := Lib.hid hy'
        clear hno hyes hspl hrs hRd hy' hj hfj
        gi_wp2_with (refine ⟨trivial, ?_⟩; gi_at_call 168; refine (callsIn_wide.2 (G1 _)).mono ?_; rintro e w' ⟨rfl, rfl⟩)
        refine HR.out.mono ?_
        clear hyl HR
        rintro e w4 (⟨rfl, ⟨O', hj4, hO'⟩, hz4, hk4⟩ | ⟨rfl, hJx4⟩)
        · have S4 := (hk4 S (Array.getElem?_eq_some_iff.1 Sr).1 hOS).trans Sr
          have a4 := (hk4 q1 (Array.getElem?_eq_some_iff.1 ar).1 hO1).trans ar
          have b4 := (hk4 q2 (Array.getElem?_eq_some_iff.1 br).1 hO2).trans br
          clear hk4 hz4 hO' Sr ar br
          gi_wp2
          go_roundw
          case rel => exact ⟨m + 1, O', by go_num, by omega, by omega, by rw [HY'.out]; exact hj4, S4, a4, b4⟩
          case measure => simp [intOf]; omega
        · gi_wp2
          rw [Exit.noGoto_normal]
          refine bodyPost_end (results_none rfl _ _ _) rfl ?_
          exact ⟨⟨_, rfl⟩, .inr hJx4⟩
      · have hle : ¬ (N bb ≤ 127) := by unfold N; omega
        rw [decide_eq_false hbb] at hno hyes hspl
        have hy' := hno rfl
        have HY' := Lib.hid hy'
        clear hno hyes hspl hy' hfj
        gi_wp2_with (refine ⟨trivial, ?_⟩; gi_at_call 168; refine (callsIn_wide.2 (G1 _)).mono ?_; rintro e w' ⟨rfl, rfl⟩)
        refine ⟨(fun f h => by cases h), ?_⟩
        gi_wp2
        go_roundw
        case rel => exact ⟨m + 1, O, by go_num, by omega, by omega, by rw [HY'.out]; exact hj, Sr, ar, br⟩
        case measure => simp [intOf]; omega
    · have hme : m = 16 := by omega
      subst hme
      gi_wp2
      rw [Exit.noGoto_normal]
      refine bodyPost_end (results_none rfl _ _ _) rfl ?_
      exact ⟨⟨_, rfl⟩, .inl ⟨O, hj⟩⟩
end
end Go.Proofs.Hc
namespace Go.Proofs.Hc
open Go.RowKit
def pairS (p : PartT) (j : Nat) : BitVec 64 × BitVec 64 := (p.k j, p.v j)
theorem pairs_told (p : PartT) : pairsT (gotS p) = (toldS (gotS p) 0 16).map (pairS p) := by
  unfold pairsT toldS
  rw [slotsT_eq, List.map_map]
  have : (fun j => decide (0 ≤ j) && fullJ (gotS p) j) = fullJ (gotS p) := by funext j; simp
  rw [this]; rfl
def joinE : Except Int Tab → Except Int Tab → Option T2
  | .ok a, .ok b => some ⟨a, b⟩
  | _, _ => none
theorem joinE_ok (a b : Tab) : joinE (.ok a) (.ok b) = some ⟨a, b⟩ := rfl
theorem joinE_l (e : Int) (x : Except Int Tab) : joinE (.error e) x = none := by cases x <;> rfl
theorem joinE_r (e : Int) (x : Except Int Tab) : joinE x (.error e) = none := by cases x <;> rfl
def wordsS (x : T2) : Nat → BitVec 64 := fun i => if i < 40 then tword x.l i else tword x.r (i - 40)
theorem halvesS_eq (p : PartT) : halvesS p = (joinE (halfS p 0) (halfS p 1)).map wordsS := by
  unfold halvesS
  generalize halfS p 0 = a
  generalize halfS p 1 = b
  cases a <;> cases b <;> rfl
def bareS (p : PartT) (i : Nat) : Tab := bareT 0#64 (deepS p + 1) (2#64 * preS p + BitVec.ofNat 64 i)
theorem newE_flat (d : Int) (p : BitVec 64) : newE d p = if flatT (bareT 0#64 d p) then .ok (bareT 0#64 d p) else .error 2 := by
  unfold newE
  cases hf : flatT (bareT 0#64 d p) with
  | true =>
    obtain ⟨h0, h5, hp, _⟩ := (flatT_iff _).1 hf
    have e : p >>> d.toNat = 0#64 := BitVec.eq_of_toNat_eq (by
      have : N (p >>> d.toNat) = ((p >>> d.toNat).toNat : Int) := rfl
      have h : N (p >>> d.toNat) = 0 := hp
      show _ = 0
      omega)
    have h0 : (0 : Int) ≤ d := h0
    have h5 : d ≤ 5 := h5
    rw [if_pos rfl, if_neg]
    rw [e]
    simp
    omega
  | false =>
    rw [if_neg (show ¬ (false = true) by decide), if_pos]
    rw [Bool.or_eq_true, Bool.or_eq_true, decide_eq_true_eq, decide_eq_true_eq, bne_iff_ne]
    apply Classical.byContradiction
    intro hn
    have h0 : (0 : Int) ≤ d := by omega
    have h5 : d ≤ 5 := by omega
    have hp : p >>> d.toNat = 0#64 := by
      apply Classical.byContradiction
      intro h; exact hn (.inr h)
    have := bare_flat (c := 0#64) (p := p) h0 h5 (by rw [hp]; rfl)
    rw [hf] at this; cases this
theorem preS_lt (p : PartT) : (preS p).toNat < 2 ^ 56 := by
  unfold preS
  rw [BitVec.toNat_ushiftRight, Nat.shiftRight_eq_div_pow]
  have := p.head.isLt
  omega
theorem deepS_0 (p : PartT) : 0 ≤ deepS p := by unfold deepS; omega
theorem pre2_nat (p : PartT) (i : Nat) (hi : i < 2) : (2#64 * preS p + BitVec.ofNat 64 i).toNat = 2 * (preS p).toNat + i := by
  have := preS_lt p
  rw [BitVec.toNat_add, BitVec.toNat_mul, BitVec.toNat_ofNat]
  simp only [BitVec.toNat_ofNat, Nat.reducePow, Nat.reduceMod] at *
  omega
theorem bareS_flat (p : PartT) : flatT (bareS p 1) = flatT (bareS p 0) := by
  have hn : ∀ i, i < 2 → ∀ n : Nat, ((2#64 * preS p + BitVec.ofNat 64 i) >>> (n + 1)).toNat = (preS p).toNat / 2 ^ n := by
    intro i hi n
    rw [BitVec.toNat_ushiftRight, Nat.shiftRight_eq_div_pow, pre2_nat p i hi, show 2 ^ (n + 1) = 2 * 2 ^ n by rw [Nat.pow_succ, Nat.mul_comm], ← Nat.div_div_eq_div_mul]
    congr 1; omega
  have e : (deepS p + 1).toNat = (deepS p).toNat + 1 := by have := deepS_0 p; omega
  rw [Bool.eq_iff_iff, flatT_iff, flatT_iff]
  have e0 : N ((bareS p 0).pre >>> (bareS p 0).depth.toNat) = N ((bareS p 1).pre >>> (bareS p 1).depth.toNat) := by
    show (((2#64 * preS p + BitVec.ofNat 64 0) >>> (deepS p + 1).toNat).toNat : Int) = (((2#64 * preS p + BitVec.ofNat 64 1) >>> (deepS p + 1).toNat).toNat : Int)
    rw [e, hn 0 (by omega), hn 1 (by omega)]
  rw [e0]
  exact Iff.rfl
theorem bareS_0 (p : PartT) : bareS p 0 = bareT 0#64 (deepS p + 1) (2#64 * preS p) := by
  unfold bareS
  rw [show BitVec.ofNat 64 0 = 0#64 from rfl, BitVec.add_zero]
def goS (p : PartT) (x : BitVec 64 × BitVec 64) : Bool := firstS p (hashOf p.seed x.1)
theorem goS_is (p : PartT) (x : BitVec 64 × BitVec 64) : goS p x = hasT (bareS p 0) (hashOf p.seed x.1) := by rw [bareS_0]; rfl
theorem goS_in (p : PartT) (a : Tab) (hf : flatT a = true) (h0 : flatT (bareS p 0) = true) (hd : a.depth = (bareS p 0).depth) (hp : a.pre = (bareS p 0).pre) (x : BitVec 64 × BitVec 64) : hasT a (hashOf p.seed x.1) = goS p x := by
  rw [goS_is]
  unfold hasT
  rw [hf, h0, hd, hp]
theorem halfS_0 (p : PartT) (hf : flatT (bareS p 0) = true) : halfS p 0 = laidT p.seed (bareS p 0) (((toldS (gotS p) 0 16).map (pairS p)).filter (goS p)) := by
  unfold halfS
  rw [newE_flat]
  rw [show bareT 0#64 (deepS p + 1) (2#64 * preS p + BitVec.ofNat 64 0) = bareS p 0 from rfl, hf, if_pos rfl, pairs_told]
  dsimp only
  congr 2
  funext x
  show (firstS p (hashOf p.seed x.1) == true) = firstS p (hashOf p.seed x.1)
  cases firstS p (hashOf p.seed x.1) <;> rfl
theorem halfS_1 (p : PartT) (hf : flatT (bareS p 0) = true) : halfS p 1 = laidT p.seed (bareS p 1) (((toldS (gotS p) 0 16).map (pairS p)).filter (fun x => !goS p x)) := by
  unfold halfS
  rw [newE_flat]
  rw [show bareT 0#64 (deepS p + 1) (2#64 * preS p + BitVec.ofNat 64 1) = bareS p 1 from rfl, bareS_flat, hf, if_pos rfl, pairs_told]
  dsimp only
  congr 2
  funext x
  show (firstS p (hashOf p.seed x.1) == false) = !firstS p (hashOf p.seed x.1)
  cases firstS p (hashOf p.seed x.1) <;> rfl
theorem halfS_bad (p : PartT) (hf : flatT (bareS p 0) = false) (i : Nat) (hi : i < 2) : halfS p i = .error 2 := by
  have h1 := bareS_flat p
  unfold halfS
  rw [newE_flat]
  have e : flatT (bareT 0#64 (deepS p + 1) (2#64 * preS p + BitVec.ofNat 64 i)) = false := by
    rcases (show i = 0 ∨ i = 1 by omega) with rfl | rfl
    · exact hf
    · rw [← hf, ← h1]; rfl
  rw [e, if_neg (by decide)]
theorem halvesS_bad (p : PartT) (hf : flatT (bareS p 0) = false) : halvesS p = none := by
  rw [halvesS_eq, halfS_bad p hf 0 (by omega), joinE_l]; rfl
def restS (p : PartT) (a b : Tab) (l : List (BitVec 64 × BitVec 64)) : Option T2 := joinE (laidT p.seed a (l.filter (goS p))) (laidT p.seed b (l.filter fun x => !goS p x))
theorem restS_nil (p : PartT) (a b : Tab) : restS p a b [] = some ⟨a, b⟩ := rfl
theorem restS_first (p : PartT) (a b : Tab) (l : List (BitVec 64 × BitVec 64)) (x : BitVec 64 × BitVec 64) (hg : goS p x = true) :
    (∀ e, placeT a p.seed x.1 = .error e → restS p a b (x :: l) = none) ∧ (∀ sl, placeT a p.seed x.1 = .ok sl → restS p a b (x :: l) = restS p (fillT a p.seed x.1 x.2 sl) b l) := by
  unfold restS
  rw [List.filter_cons_of_pos hg, List.filter_cons_of_neg (by rw [hg]; decide)]
  exact ⟨fun e h => by rw [laidT_err h, joinE_l], fun sl h => by rw [laidT_ok h]⟩
theorem restS_second (p : PartT) (a b : Tab) (l : List (BitVec 64 × BitVec 64)) (x : BitVec 64 × BitVec 64) (hg : goS p x = false) :
    (∀ e, placeT b p.seed x.1 = .error e → restS p a b (x :: l) = none) ∧ (∀ sl, placeT b p.seed x.1 = .ok sl → restS p a b (x :: l) = restS p a (fillT b p.seed x.1 x.2 sl) l) := by
  unfold restS
  rw [List.filter_cons_of_neg (by rw [hg]; decide), List.filter_cons_of_pos (by rw [hg]; rfl)]
  exact ⟨fun e h => by rw [laidT_err h, joinE_r], fun sl h => by rw [laidT_ok h]⟩
theorem halvesS_flat (p : PartT) (hf : flatT (bareS p 0) = true) : halvesS p = (restS p (bareS p 0) (bareS p 1) ((toldS (gotS p) 0 16).map (pairS p))).map wordsS := by
  rw [halvesS_eq, halfS_0 p hf, halfS_1 p hf]; rfl
theorem laidT_may {s : BitVec 64} : ∀ (l : List (BitVec 64 × BitVec 64)) (t x : Tab), May t s → laidT s t l = .ok x → May x s
  | [], t, x, m, h => by
    rw [laidT_nil] at h
    cases h; exact m
  | p :: l, t, x, m, h => by
    cases hp : placeT t s p.1 with
    | error e => rw [laidT_err hp] at h; cases h
    | ok sl => rw [laidT_ok hp] at h; exact laidT_may l _ x (m.fill p.2 (place_spot hp)) h
end Go.Proofs.Hc
namespace Go.Proofs.Hc
open Go.RowKit
attribute [local go_sem] zbu zcc zax zbf zbo zbd zbn zbp zbw signed64 signed8 zap BitVec.ofInt_add BitVec.ofInt_mul ofInt_sub' zbb zbc wide8 eqN neN zca shr1 shr7 shr56
attribute [local go_sem high] zbe zbv
attribute [local go_sem] zaw zby zaj zas zaf zaz zar zak zbm zal zay zba
attribute [local go_sem] load26 load73 load23 store26 build73
attribute [local go_sem ↓] lrow26 lrow73 lrow23 srow26 zero26 brow73 zae zbk zbg zaa zab
attribute [local go_sem] zai zav zat zbj zbl zbr zaq zau zbs zbi zbh
attribute [local go_sem] nn2 nm2 nn3 nm3 nn4 nm4 nn5 nm5 nn6 nm6 nn7 nm7 nn8 nm8
section
attribute [local go_sem] zap zbq
attribute [local go_sem] Oper.semAt_some zao
attribute [local go_sem] zcj pacell0 pacell1 pacell2 pacell3 pacell4 pacell5 pacell6 pacell7 pacell42
attribute [local go_sem] zcs zcx zcp zcw zcv zdg zcu zdf zce zcr zdj zdc zch zbt zci zck boxPart loadPart storePart zcf zct buildPart0 buildPart4
attribute [local go_sem ↓] lrowPart srowPart browPart zcl zbz
attribute [local go_sem high] zag
attribute [local irreducible] partC
attribute [local go_sem] loadP storeP allOne_pair
attribute [local go_sem high] laidAt_p
attribute [local go_sem ↓] lrowP srowP zeroP
attribute [local go_sem] box_pair
theorem wpListIn_append_run {F : Fence} {n : Nat} {P : Program} (w : World) {ops : Array Oper} {rest : List Oper} {o : Oper} {a : Act} {Q : Exit → Act → World → Prop} (hgd : o.guard = none) (s x : Operand) (t tn : TypeId)
    (ho : o.op = .call { callee := .builtin .append, args := #[s, x], argTypes := #[t, tn] }) (vs vx : Value) (hs : a.eval s = vs) (hx : a.eval x = vx)
    (v' : Value) (w' : World) (hr : (Builtin.append_ #[t, tn] o.type #[vs, vx]).run P w = .ok v' w') (h : wpListIn F n P ops Q rest (a.put o.dst v') w') : wpListIn F n P ops Q (o :: rest) a w := by
  refine wpListIn_plain hgd fun K hK' => ?_
  unfold Oper.wpIn
  refine ⟨?_, ?_⟩
  · simp [Oper.about, ho, resolve, Target.leads, Sem.run_pure]
  · rw [Oper.semAt_plain F _ _ (by rw [ho]; intro c hc'; cases hc')]
    simp [execOp, ho, resolve, invoke, builtin, hs, hx, hr, Result.andThen]
    exact hK' _ _ h
theorem append_pairO (W : World) (base n n0 : Nat) (hn0 : W.heap.size = n0) (v : Value) (xs : List Value) (hown : W.ownsRow base 31 2 v n xs) (k x : BitVec 64) (hn : n ≤ 900) (hbase : base ≤ W.heap.size) :
    ∃ g' c' w', (Builtin.append_ #[27, 27] 27 #[v, .slice (some ⟨n0, 0, none⟩) 1 1]).run Tryz.prog (W.alloc (.cells #[U k, U x] 31)) = .ok (.slice (some ⟨g', 0, none⟩) (n + 1) c') w' ∧
      w'.ownsRow base 31 2 (.slice (some ⟨g', 0, none⟩) (n + 1) c') (n + 1) (xs ++ [U k, U x]) ∧ Ch (v.ownBlock.toList) W w' ∧ (v.ownBlock = some g' ∨ W.heap.size ≤ g') := by
  subst hn0
  obtain ⟨i0, hi, hz0, hz1, hz2⟩ := info_parts infoP
  obtain ⟨v', w1, hrun, hown', hgrow, _, hloc⟩ := run_append_own_at (P := Tryz.prog) (W.alloc (.cells #[U k, U x] 31)) base 27 27 31 i0 (.agg #[.int .u64 0, .int .u64 0]) 2 16 Tryz.underlying27 hi hz0 hz1 hz2 rfl (by decide) v n xs (hown.alloc _) ⟨W.heap.size, 0, none⟩ 1 1 [U k, U x] rfl (cell_two_new W _ _ _) (by simp [Value.oneCell']) (by unfold maxLen; omega) (by omega) (by simp; omega)
  have hgr : (W.alloc (.cells #[U k, U x] 31)).grownBy w1 v.ownBlock := hgrow
  obtain ⟨g', c', rfl⟩ := ownsRow_succ hown'
  refine ⟨g', c', w1, hrun, hown', (((Ch.refl [] W).alloc _).of_nil).trans2 (Ch.of_grown (S := v.ownBlock.toList) hgr (fun k hk => by simp [hk])) (fun t ht => .inl ht), ?_⟩
  rcases hloc with h | h
  · left; exact h.symm
  · right
    have h2 : some g' = some (W.heap.size + 1) := by simpa [Value.ownBlock] using h
    have := Option.some.inj h2
    omega
def gathL (p : PartT) (i : Int) (l : List Nat) : List (BitVec 64 × BitVec 64) := (l.map (pairS p)).filter fun x => goS p x == (i == 0)
theorem gathL_snoc (p : PartT) (i : Int) (l : List Nat) (j : Nat) : gathL p i (l ++ [j]) = if (firstS p (hashOf p.seed (p.k j)) == (i == 0)) = true then gathL p i l ++ [(p.k j, p.v j)] else gathL p i l := by
  unfold gathL
  rw [List.map_append, List.filter_append, List.map_cons, List.map_nil, List.filter_cons]
  show _ ++ (if (firstS p (hashOf p.seed (p.k j)) == (i == 0)) = true then [(p.k j, p.v j)] else []) = _
  split
  · rfl
  · rw [List.append_nil]
theorem gathL_len (p : PartT) (i : Int) (l : List Nat) : (gathL p i l).length ≤ l.length := by
  unfold gathL
  refine Nat.le_trans (List.length_filter_le _ _) ?_
  rw [List.length_map]; exact Nat.le_refl _
theorem told_len (t : Tab) (f : Nat) : (toldS t f 16).length ≤ 16 := by
  unfold toldS
  refine Nat.le_trans (List.length_filter_le _ _) ?_
  rw [List.length_range]; exact Nat.le_refl _
theorem told_lt (t : Tab) (f : Nat) : ∀ j ∈ toldS t f 16, j < 16 ∧ f ≤ j := by
  intro j hj
  unfold toldS at hj
  obtain ⟨h1, h2⟩ := List.mem_filter.1 hj
  simp only [Bool.and_eq_true, decide_eq_true_eq] at h2
  exact ⟨List.mem_range.1 h1, h2.1⟩
theorem s22gathered_any (p : PartT) (i : Int) (S q1 q2 a1 a2 : Nat) (w : World) (hS : w.heap[S]? = some (.cells (partC p) 179 (0, 0))) (h1 : w.heap[q1]? = some (.cells #[I ((0 : Nat) : Int)] 3 (0, 0))) (h2 : w.heap[q2]? = some (.cells #[.pointer (some ⟨S, 0, none⟩)] 177 (0, 0)))
    (ha1 : w.heap[a1]? = some (.cells #[.pointer (some ⟨S, 0, none⟩)] 177 (0, 0))) (ha2 : w.heap[a2]? = some (.cells #[I i] 3 (0, 0))) :
    Calls Tryz.prog 309 #[.func (.func 308) #[] #[.pointer (some ⟨q1, 0, none⟩), .pointer (some ⟨q2, 0, none⟩)], .func (.func 310) #[] #[.pointer (some ⟨a1, 0, none⟩), .pointer (some ⟨a2, 0, none⟩)]] w fun e w' =>
      ∃ a c, e = .returned (.slice a (gathL p i (toldS (gotS p) 0 16)).length c) ∧ w'.ownsRow w.heap.size 31 2 (.slice a (gathL p i (toldS (gotS p) 0 16)).length c) (gathL p i (toldS (gotS p) 0 16)).length (pcells (gathL p i (toldS (gotS p) 0 16))) ∧ Ch [] w w' := by
  have Y1 := full_yields p 0 (by omega) S q1 q2
  have F1 := fun j w hj hS h1 h2 => s22halves1_any p i j S a1 a2 hj w hS h1 h2
  have XL := Lib.hid (told_len (gotS p) 0)
  have XB := Lib.hid (told_lt (gotS p) 0)
  have GS := Lib.hid (gathL_snoc p i)
  have GL := Lib.hid (gathL_len p i)
  have G0 : Hid (gathL p i [] = []) := Lib.hid rfl
  generalize toldS (gotS p) 0 16 = xs at *
  generalize gathL p i = gl at *
  obtain ⟨fn, hfn⟩ : ∃ v, Value.func (.func 310) #[] #[.pointer (some ⟨a1, 0, none⟩), .pointer (some ⟨a2, 0, none⟩)] = v := ⟨_, rfl⟩
  obtain ⟨W0, hW0⟩ : ∃ W0, (w.alloc (.cells #[fn] 344)).alloc (.cells #[.slice none 0 0] 27) = W0 := ⟨_, rfl⟩
  have hs0 : W0.heap.size = w.heap.size + 2 := by rw [← hW0]; simp
  have hC0 : Ch [] w W0 := by rw [← hW0]; exact ((Ch.refl [] w).alloc _).alloc _
  have b0 : W0.heap[w.heap.size]? = some (.cells #[fn] 344 (0, 0)) := by rw [← hW0]; simp [go_sem]
  have b1 : W0.heap[w.heap.size + 1]? = some (.cells #[.slice none 0 0] 27 (0, 0)) := by rw [← hW0]; simp [go_sem]
  subst hfn
  have S0 := hkeep hC0 hS
  have q10 := hkeep hC0 h1
  have q20 := hkeep hC0 h2
  have a10 := hkeep hC0 ha1
  have a20 := hkeep hC0 ha2
  have lS := Lib.hid (Array.getElem?_eq_some_iff.1 hS).1
  have l1 := Lib.hid (Array.getElem?_eq_some_iff.1 h1).1
  have l2 := Lib.hid (Array.getElem?_eq_some_iff.1 h2).1
  have l3 := Lib.hid (Array.getElem?_eq_some_iff.1 ha1).1
  have l4 := Lib.hid (Array.getElem?_eq_some_iff.1 ha2).1
  have Y2 := Lib.hid (Y1 W0 S0 q10 q20)
  clear hS h1 h2 ha1 ha2 Y1 q10 q20
  refine (callsIn_wide (n := 3)).1 ?_
  refine callsIn_of_wp_marks Tryz.func309 rfl trivial ?_
  simp only [Tryz.ntmps309, List.size_toArray, List.length_cons, List.length_nil, Nat.reduceAdd, Nat.reduceSub, Array.replicate_succ, Array.replicate_zero, List.push_toArray, List.append_toArray, List.nil_append, List.cons_append]
  gi_wp2
  try rw [hW0]
  clear hW0
  refine range_lawO (n := 1) (xs := xs) rfl enters_full22 Y2.out (fun _ => rfl) (by simp) (by have := lS.out; have := l1.out; have := l2.out; simp <;> omega)
    (fun pre O W => ∃ v, (∀ x, O x → x = w.heap.size + 1 ∨ v.ownBlock = some x) ∧ (O (w.heap.size + 1) ∧ ∀ x, v.ownBlock = some x → O x) ∧ Ch [] w W ∧ W.heap[w.heap.size]? = some (.cells #[.func (.func 310) #[] #[.pointer (some ⟨a1, 0, none⟩), .pointer (some ⟨a2, 0, none⟩)]] 344 (0, 0)) ∧ W.heap[w.heap.size + 1]? = some (.cells #[v] 27 (0, 0)) ∧
      W.ownsRow (W0.heap.size + 2) 31 2 v (gl pre).length (pcells (gl pre)) ∧
      W.heap[S]? = some (.cells (partC p) 179 (0, 0)) ∧ W.heap[a1]? = some (.cells #[.pointer (some ⟨S, 0, none⟩)] 177 (0, 0)) ∧ W.heap[a2]? = some (.cells #[I i] 3 (0, 0)))
    (fun _ _ => False)
    (fun x => x = w.heap.size + 1) ?hIO ?hI (fun _ _ _ h _ => h.elim) ⟨_, fun x h => .inl h, ⟨rfl, fun x h => by cases h⟩, hC0, b0, b1, by rw [G0.out]; exact World.ownsRow_nil _ _ _ _, S0, a10, a20⟩ ?a₁ ?assign ?body ?done (fun _ _ h _ => h.elim)
  case assign =>
    intro x W K hK
    gi_wp2
    exact hK
  case hIO =>
    rintro pre O A ⟨v, ho, _, hc, k1, k2, k3, _⟩ x hx
    have := lS.out; have := l1.out; have := l2.out
    rcases ho x hx with rfl | hv
    · exact ⟨.inl (by omega), (Array.getElem?_eq_some_iff.1 k2).1, by simp; omega⟩
    · have := own_block k3 x hv
      refine ⟨.inr this, own_lt k3 hv, by simp; omega⟩
  case hI =>
    rintro pre O A B ⟨v, ho, ho2, hc, k1, k2, k3, k4, k5, k6⟩ hAB
    have := lS.out; have := l3.out; have := l4.out
    exact ⟨v, ho, ho2, hc.trans2 hAB (by simp <;> omega), hkeepS hAB (by simp; omega) k1, hkeepS hAB (by simp; omega) k2, own_ch k3 hAB (by simp), hkeepS hAB (by simp; omega) k4, hkeepS hAB (by simp; omega) k5, hkeepS hAB (by simp; omega) k6⟩
  case body =>
    rintro pre O x post W hx ⟨v, ho, ho2, hc, k1, k2, k3, k4, k5, k6⟩ hsz
    go_light
    have hx16 : x < 16 := (XB.out x (by rw [hx]; simp)).1
    have hlen : (gl pre).length + 1 ≤ 17 := by have h1 := GL.out pre; have := XL.out; rw [hx] at this; simp at this; omega
    have FF := fun w h1 h2 h3 => F1 x w hx16 h1 h2 h3
    have HG := Lib.hid (GS.out pre x)
    clear hx F1 XB XL GS
    obtain ⟨kx, hkx⟩ : ∃ y, p.k x = y := ⟨_, rfl⟩
    obtain ⟨vx, hvx⟩ : ∃ y, p.v x = y := ⟨_, rfl⟩
    rw [hkx] at FF HG
    rw [hvx] at FF HG
    obtain ⟨bo, hbo⟩ : ∃ b, (firstS p (hashOf p.seed kx) == (i == 0)) = b := ⟨_, rfl⟩
    rw [hbo] at FF HG
    clear hkx hvx hbo
    cases bo with
    | false =>
      have HGn : Hid (gl (pre ++ [x]) = gl pre) := Lib.hid (by rw [HG.out]; exact if_neg (by decide))
      clear HG
      gi_wp2_with (refine ⟨trivial, ?_⟩; gi_at_call 310; refine (inR (FF _ k4 k5 k6)).mono ?_; rintro e w1 ⟨rfl, hc1⟩)
      have hc2 : Ch [] W (World.onObj (w1.alloc (.cells #[U 0#64, U 0#64] 31)) w1.heap.size (laidAt 0 #[U kx, U vx])) := (hc1.alloc _).onObj (.inr hc1.size) _
      refine ⟨⟨O, ⟨v, ho, ho2, hc.trans hc2, hkeep hc2 k1, hkeep hc2 k2, by rw [HGn.out]; exact own_ch k3 hc2 (by simp), hkeep hc2 k4, hkeep hc2 k5, hkeep hc2 k6⟩, fun b h => .inl h⟩, hc2.size, fun b hb _ => hc2.block b hb (by simp)⟩
    | true =>
      have HGn : Hid (gl (pre ++ [x]) = gl pre ++ [(kx, vx)]) := Lib.hid (by rw [HG.out]; exact if_pos rfl)
      clear HG
      have hob := Lib.hid (own_block k3)
      gi_wp2_with (first
        | (refine ⟨trivial, ?_⟩; gi_at_call 310; refine (inR (FF _ k4 k5 k6)).mono ?_; rintro e w1 ⟨rfl, hc1⟩
           have k2' := hkeep hc1 k2
           have HC2 : Hid (Ch [] W (World.onObj (w1.alloc (.cells #[U 0#64, U 0#64] 31)) w1.heap.size (laidAt 0 #[U kx, U vx]))) := Lib.hid ((hc1.alloc _).onObj (.inr hc1.size) _)
           have hz1 := hc1.size
           obtain ⟨g', c', w3, hrun, hown', hW3, hloc⟩ := append_pairO (World.onObj (w1.alloc (.cells #[U 0#64, U 0#64] 31)) w1.heap.size (laidAt 0 #[U kx, U vx])) (W0.heap.size + 2) _ (w1.heap.size + 1) (by rw [zbm]; simp) v _ (own_ch k3 HC2.out (by simp)) kx vx (by omega) (by have := HC2.out.size; omega)
           have e2 : w3.heap[w.heap.size + 1]? = some (.cells #[v] 27 (0, 0)) := (hW3.block _ (by have := zad k2; have := HC2.out.size; omega) (fun h => by have := hob.out _ (by simpa using h); omega)).trans (hkeep HC2.out k2)
           have HO := Lib.hid hown'
           have HW := Lib.hid (HC2.out.of_nil.trans hW3)
           have HL : Hid (v.ownBlock = some g' ∨ W.heap.size ≤ g') := Lib.hid (hloc.imp id fun h => by have := HC2.out.size; omega)
           clear hown' hW3 hloc)
        | (gi_at_builtin; refine wpListIn_append_run _ rfl _ _ 27 27 rfl _ _ rfl rfl _ _ hrun ?_))
      have hC3 : Ch [] w w3 := hc.trans2 HW.out (fun t ht => .inr (by have := hob.out t (by simpa using ht); omega))
      have hz3 := HW.out.size
      have hn4 : ∀ {q : Nat} {o : Obj}, q < w.heap.size + 1 → W.heap[q]? = some o → (w3.setCell ⟨w.heap.size + 1, 0, none⟩ (.slice (some ⟨g', 0, none⟩) ((gl pre).length + 1) c')).heap[q]? = some o := fun {q o} hq h => by
        rw [zaa, if_neg (by omega)]
        exact (HW.out.block q (zad h) (fun h => by have := hob.out q (by simpa using h); omega)).trans h
      refine ⟨⟨fun y => y = w.heap.size + 1 ∨ y = g', ⟨.slice (some ⟨g', 0, none⟩) ((gl pre).length + 1) c', ?_, ⟨.inl rfl, fun x hx => .inr (by simpa [Value.ownBlock] using hx.symm)⟩, hC3.setCell (p := ⟨w.heap.size + 1, 0, none⟩) (.inr (by simp)) _, hn4 (by omega) k1, ?_, ?_, hn4 (by have := lS.out; omega) k4, hn4 (by have := l3.out; omega) k5, hn4 (by have := l4.out; omega) k6⟩, ?_⟩, by rw [zal]; omega, ?_⟩
      · rintro x (rfl | rfl)
        · exact .inl rfl
        · exact .inr rfl
      · rw [zaa, if_pos rfl, e2]; rfl
      · have := own_ch (S := [w.heap.size + 1]) HO.out ((Ch.refl _ w3).setCell (p := ⟨w.heap.size + 1, 0, none⟩) (.inl (by simp)) (.slice (some ⟨g', 0, none⟩) ((gl pre).length + 1) c')) (by simp; omega)
        rw [HGn.out, pcells_snoc, List.length_append]
        exact this
      · rintro x (rfl | rfl)
        · exact .inl ho2.1
        · rcases HL.out with h | h
          · exact .inl (ho2.2 _ h)
          · right; exact h
      · intro y hy hn
        have hy1 : y ≠ w.heap.size + 1 := fun e => hn (e ▸ ho2.1)
        rw [zaa, if_neg hy1]
        exact HW.out.block y hy (fun hs => hn (ho2.2 y (by simpa using hs)))
  case done =>
    rintro O W ⟨v, ho, _, hc, k1, k2, k3, -⟩ hd
    gi_wp2
    obtain ⟨a, c, hv⟩ := own_form k3
    subst hv
    refine marks_ret (v := .slice a (gl xs).length c) hd (results_tmp Tryz.results309 _ _ _) ⟨a, c, by simp, ?_, hc.trans2 (zcg _ _ _) (by simp <;> omega)⟩
    have := own_mono (own_ch k3 (zcg W W0.heap.size (.deferred none)) (by simp <;> omega)) (base' := w.heap.size) (by omega)
    simpa using this
end
end Go.Proofs.Hc
