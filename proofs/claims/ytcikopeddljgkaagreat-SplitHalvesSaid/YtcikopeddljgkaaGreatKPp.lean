/- Tables laid anew, and halves: plain law. -/
import Derived.Test.YtcikopeddljgkaaGreatKHtx
import Derived.Test.YtcikopeddljgkaaGreatKPo
set_option linter.unusedSimpArgs false
set_option linter.unusedVariables false
set_option maxHeartbeats 1000000
set_option maxRecDepth 100000
namespace Go.Proofs.Hc
open Go.RowKit
def Clean (t : Tab) : Prop := ∀ j, j < 16 → bt t j ≠ 254#8
theorem clean_nFill {t : Tab} {s : BitVec 64} (m : May t s) (h : Clean t) : nFill t = nFull t := by
  unfold nFill nFull
  apply List.countP_congr
  intro j hj
  have hj16 : j < 16 := by simpa using hj
  rw [fillJ, fullJ, bne_iff_ne, decide_eq_true_iff]
  rcases m.ok j hj16 with e | e | e
  · exact ⟨fun _ => e, fun _ h => by rw [h] at e; exact absurd e (by decide)⟩
  · rw [e]; exact ⟨fun h => absurd rfl h, fun h => absurd h (by decide)⟩
  · exact absurd e (h j hj16)
theorem clean_can {t : Tab} {s : BitVec 64} (m : May t s) (h : Clean t) : t.can = 14 - t.live := by rw [m.can, m.live, clean_nFill m h]
theorem Clean.fill {t : Tab} (h : Clean t) (s k v : BitVec 64) (sl : Nat) : Clean (fillT t s k v sl) := by
  intro j hj
  rw [bt_fill]
  split
  · intro e
    have := hash2_lt (hashOf s k)
    rw [e] at this; exact absurd this (by decide)
  · exact h j hj
theorem bt_bare (c : BitVec 64) (d : Int) (p : BitVec 64) (j : Nat) : bt (bareT c d p) j = 128#8 := byteAt_tops _ (by omega)
theorem clean_bare (c : BitVec 64) (d : Int) (p : BitVec 64) : Clean (bareT c d p) := fun j _ => by rw [bt_bare]; decide
theorem bare_full (c : BitVec 64) (d : Int) (p : BitVec 64) (j : Nat) : fullJ (bareT c d p) j = false := by rw [fullJ, bt_bare]; decide
theorem bare_pairs (c : BitVec 64) (d : Int) (p : BitVec 64) (q : BitVec 64 × BitVec 64) : ¬ q ∈ pairsT (bareT c d p) := by
  rw [mem_pairs]
  rintro ⟨j, _, hf, _⟩
  rw [bare_full] at hf; cases hf
theorem bare_flat {c : BitVec 64} {d : Int} {p : BitVec 64} (h0 : 0 ≤ d) (h5 : d ≤ 5) (hp : N (p >>> d.toNat) = 0) : flatT (bareT c d p) = true :=
  (flatT_iff _).2 ⟨h0, h5, hp, by show (0 : Int) ≤ 14; omega, by show (14 : Int) ≤ 14; omega, by show (0 : Int) ≤ 0; omega, by show (0 : Int) ≤ 14; omega⟩
theorem bare_may {c : BitVec 64} {d : Int} {p : BitVec 64} (s : BitVec 64) (h : flatT (bareT c d p) = true) : May (bareT c d p) s := by
  have h1 : nFull (bareT c d p) = 0 := by
    unfold nFull
    rw [List.countP_eq_zero]
    intro j _
    rw [bare_full]; simp
  have h2 : nFill (bareT c d p) = 0 := by
    unfold nFill
    rw [List.countP_eq_zero]
    intro j _
    rw [fillJ, bt_bare]; decide
  refine ⟨h, fun j _ => .inr (.inl (bt_bare c d p j)), fun j _ hf => ?_, fun i j _ _ hf => ?_, ?_, ?_⟩
  · rw [bare_full] at hf; cases hf
  · rw [bare_full] at hf; cases hf
  · rw [h1]; rfl
  · rw [h2]; rfl
theorem has_fill {t : Tab} {s k v : BitVec 64} {sl : Nat} (m : May (fillT t s k v sl) s) {h : BitVec 64} (hh : hasT t h = true) : hasT (fillT t s k v sl) h = true :=
  hasT_of hh m.flat (fill_depth ..) (fill_pre ..)
structure Laid (s : BitVec 64) (t0 : Tab) (l : List (BitVec 64 × BitVec 64)) (x : Tab) : Prop where
  eq : laidT s t0 l = .ok x
  may : May x s
  clean : Clean x
  mem : ∀ q, q ∈ pairsT x ↔ q ∈ l ∨ q ∈ pairsT t0
  live : x.live = t0.live + l.length
  depth : x.depth = t0.depth
  pre : x.pre = t0.pre
  count : x.count = t0.count
theorem laid_ok {s : BitVec 64} : ∀ (l : List (BitVec 64 × BitVec 64)) (t0 : Tab), May t0 s → Clean t0 → (∀ p ∈ l, hasT t0 (hashOf s p.1) = true) → ((l.map (·.1)).Nodup) → (∀ p ∈ l, ∀ q ∈ pairsT t0, q.1 ≠ p.1) → t0.live + l.length ≤ 14 → ∃ x, Laid s t0 l x
  | [], t0, m, hc, _, _, _, _ => ⟨t0, rfl, m, hc, fun q => by simp, by simp, rfl, rfl, rfl⟩
  | p :: l, t0, m, hc, hg, hn, hd, hl => by
    have hcan := clean_can m hc
    rw [List.length_cons] at hl
    rw [List.map_cons, List.nodup_cons] at hn
    have hno : hasKT t0 p.1 = false := by
      cases h : hasKT t0 p.1 with
      | false => rfl
      | true =>
        obtain ⟨j, hj, hf, hk⟩ := (hasKT_iff t0 p.1).1 h
        exact absurd hk (hd p (by simp) (t0.k j, t0.v j) ((mem_pairs t0 _).2 ⟨j, hj, hf, rfl⟩))
    obtain ⟨sl, hsl⟩ := place_room m (by omega) (hg p (by simp)) hno
    have hsp := place_spot hsl
    have m' := m.fill p.2 hsp
    have hp' := fill_pairs p.2 hsp
    obtain ⟨x, hx⟩ := laid_ok l (fillT t0 s p.1 p.2 sl) m' (hc.fill _ _ _ _) (fun q hq => has_fill m' (hg q (by simp [hq]))) hn.2 (fun q hq r hr => by
      rcases (hp' r).1 hr with rfl | hr
      · intro e; exact hn.1 (List.mem_map.2 ⟨q, hq, e.symm⟩)
      · exact hd q (by simp [hq]) r hr) (by show t0.live + 1 + _ ≤ 14; omega)
    refine ⟨x, ?_, hx.may, hx.clean, fun q => ?_, ?_, hx.depth.trans (fill_depth ..), hx.pre.trans (fill_pre ..), hx.count.trans (fill_count ..)⟩
    · rw [laidT_ok hsl]; exact hx.eq
    · rw [hx.mem q, hp' q, List.mem_cons]
      constructor
      · rintro (h | h | h)
        · exact .inl (.inr h)
        · exact .inl (.inl h)
        · exact .inr h
      · rintro ((h | h) | h)
        · exact .inr (.inl h)
        · exact .inl h
        · exact .inr (.inr h)
    · rw [hx.live]; show t0.live + 1 + (l.length : Int) = _; rw [List.length_cons]; omega
theorem topT_nat (h : BitVec 64) (d : Int) (h0 : 0 ≤ d) (h5 : d ≤ 63) : (topT h d).toNat = h.toNat / 2 ^ (64 - d.toNat) := by
  unfold topT
  rw [BitVec.toNat_ushiftRight, BitVec.toNat_ushiftRight, Nat.shiftRight_eq_div_pow, Nat.shiftRight_eq_div_pow, Nat.div_div_eq_div_mul, ← Nat.pow_add, show 1 + (63 - d).toNat = 64 - d.toNat by omega]
theorem top_half (h : BitVec 64) (d : Int) (h0 : 0 ≤ d) (h5 : d < 5) : (topT h d).toNat = (topT h (d + 1)).toNat / 2 := by
  rw [topT_nat h d h0 (by omega), topT_nat h (d + 1) (by omega) (by omega), Nat.div_div_eq_div_mul, show 64 - d.toNat = (64 - (d + 1).toNat) + 1 by omega, Nat.pow_succ]
theorem pre_lt {t : Tab} (h : flatT t = true) : t.pre.toNat < 2 ^ t.depth.toNat := by
  obtain ⟨_, _, hp, _⟩ := (flatT_iff t).1 h
  unfold N at hp
  rw [BitVec.toNat_ushiftRight, Nat.shiftRight_eq_div_pow] at hp
  have h2 := (Nat.div_eq_zero_iff).1 (show t.pre.toNat / 2 ^ t.depth.toNat = 0 by omega)
  have := Nat.two_pow_pos t.depth.toNat
  omega
theorem half_pre {t : Tab} (h : flatT t = true) (hd : t.depth < 5) (i : Nat) (hi : i < 2) : (2#64 * t.pre + BitVec.ofNat 64 i).toNat = 2 * t.pre.toNat + i := by
  have h1 := pre_lt h
  have h2 : 2 ^ t.depth.toNat ≤ 2 ^ 5 := Nat.pow_le_pow_right (by omega) (by omega)
  rw [BitVec.toNat_add, BitVec.toNat_mul, BitVec.toNat_ofNat, BitVec.toNat_ofNat]
  omega
theorem half_flat {t : Tab} (h : flatT t = true) (hd : t.depth < 5) (i : Nat) (hi : i < 2) : flatT (halfB t i) = true := by
  obtain ⟨h0, _⟩ := (flatT_iff t).1 h
  refine bare_flat (by omega) (by omega) ?_
  unfold N
  rw [BitVec.toNat_ushiftRight, Nat.shiftRight_eq_div_pow, half_pre h hd i hi]
  have h1 := pre_lt h
  have h2 : 2 ^ (t.depth + 1).toNat = 2 ^ t.depth.toNat * 2 := by rw [show (t.depth + 1).toNat = t.depth.toNat + 1 by omega, Nat.pow_succ]
  rw [h2, Nat.div_eq_of_lt (by omega)]; rfl
theorem goesH_iff {t : Tab} {s : BitVec 64} (h : flatT t = true) (hd : t.depth < 5) (i : Nat) (hi : i < 2) (p : BitVec 64 × BitVec 64) : goesH t s i p = true ↔ (topT (hashOf s p.1) (t.depth + 1)).toNat = 2 * t.pre.toNat + i := by
  rw [goesH, hasT_iff, ← half_pre h hd i hi]
  constructor
  · rintro ⟨_, h2⟩; exact congrArg BitVec.toNat h2
  · intro h2; exact ⟨half_flat h hd i hi, BitVec.eq_of_toNat_eq h2⟩
theorem goes_one {t : Tab} {s : BitVec 64} (m : May t s) (hd : t.depth < 5) {p : BitVec 64 × BitVec 64} (hp : p ∈ pairsT t) : goesH t s 1 p = !goesH t s 0 p := by
  obtain ⟨j, hj, hf, rfl⟩ := (mem_pairs t p).1 hp
  obtain ⟨_, hh, _⟩ := m.slot j hj hf
  obtain ⟨h0, _⟩ := (flatT_iff t).1 m.flat
  have h1 := congrArg BitVec.toNat ((hasT_iff _ _).1 hh).2
  rw [top_half _ _ h0 hd] at h1
  have e0 := goesH_iff (s := s) m.flat hd 0 (by omega) (t.k j, t.v j)
  have e1 := goesH_iff (s := s) m.flat hd 1 (by omega) (t.k j, t.v j)
  dsimp only at e0 e1
  cases h2 : goesH t s 0 (t.k j, t.v j) with
  | true =>
    have := e0.1 h2
    cases h3 : goesH t s 1 (t.k j, t.v j) with
    | true => have := e1.1 h3; omega
    | false => rfl
  | false =>
    cases h3 : goesH t s 1 (t.k j, t.v j) with
    | true => rfl
    | false =>
      exfalso
      have a0 : ¬ (topT (hashOf s (t.k j)) (t.depth + 1)).toNat = 2 * t.pre.toNat + 0 := fun e => by rw [e0.2 e] at h2; cases h2
      have a1 : ¬ (topT (hashOf s (t.k j)) (t.depth + 1)).toNat = 2 * t.pre.toNat + 1 := fun e => by rw [e1.2 e] at h3; cases h3
      omega
theorem live_le {t : Tab} {s : BitVec 64} (m : May t s) : ((pairsT t).length : Int) ≤ 14 := by
  rw [m.len]; exact ((flatT_iff t).1 m.flat).2.2.2.2.2.2
theorem half_ok {t : Tab} {s : BitVec 64} (m : May t s) (hd : t.depth < 5) (i : Nat) (hi : i < 2) : ∃ x, Laid s (halfB t i) (halfL t s i) x := by
  have hfl := half_flat m.flat hd i hi
  refine laid_ok _ _ (bare_may s hfl) (clean_bare _ _ _) (fun p hp => (List.mem_filter.1 hp).2) ?_ (fun p _ q hq => absurd hq (bare_pairs _ _ _ q)) ?_
  · exact (List.Sublist.map _ List.filter_sublist).nodup m.keys
  · show (0 : Int) + _ ≤ 14
    have := live_le m
    have h2 : (halfL t s i).length ≤ (pairsT t).length := List.length_filter_le _ _
    omega
end Go.Proofs.Hc
namespace Go.Proofs.Hc
open Go.RowKit
attribute [local go_sem] zbr zcd zat zaz zbn zax zbm zbo zbw signed64 signed8 zar BitVec.ofInt_add BitVec.ofInt_mul ofInt_sub' zav zaw wide8 eqN neN zcc shr1 shr7 shr56
attribute [local go_sem high] zay zbv
attribute [local go_sem] zau zbx zai zal zac zbd zan zah zbk zaj zbc zbe
attribute [local go_sem] load26 load73 load23 store26 build73
attribute [local go_sem ↓] lrow26 lrow73 lrow23 srow26 zero26 brow73 zab zba zbb zaa zae
attribute [local go_sem] zag zap zaf zbf zbi zbp zam zaq zbq zbh zbg
attribute [local go_sem] nn2 nm2 nn3 nm3 nn4 nm4 nn5 nm5 nn6 nm6 nn7 nm7 nn8 nm8
section
attribute [local go_sem] loadA loadT2 storeA storeT2 buildA_ts buildA_sm zcm make_func zcl zbt zcw zcg zdd zcr zcn zde zcs t2cells_l t2cells_r
attribute [local go_sem ↓] lrowA lrowT2 srowA srowT2 browA zeroA_run zcz
attribute [local go_sem] Oper.semAt_some zak zbj
attribute [local go_sem] box26 zbz cell0 cell1 cell2 cell3 cell4 zcb zca
attribute [local go_sem] cell5 cell6 acells_idx zcn
attribute [local go_sem high] zcu laidAt_a laidAt_t2
def okOr : Except Int Tab → Tab
  | .ok x => x
  | .error _ => zeroT
theorem okOr_ok (x : Tab) : okOr (.ok x) = x := rfl
def halfX (t : Tab) (s : BitVec 64) (i : Nat) : Tab := okOr (laidT s (halfB t i) (halfL t s i))
theorem halfX_def (t : Tab) (s : BitVec 64) (i : Nat) : halfX t s i = okOr (laidT s (halfB t i) (halfL t s i)) := by rw [halfX]
theorem halfX_laid {t : Tab} {s : BitVec 64} (m : May t s) (hd : t.depth < 5) (i : Nat) (hi : i < 2) : Laid s (halfB t i) (halfL t s i) (halfX t s i) := by
  obtain ⟨x, hx⟩ := half_ok m hd i hi
  have e : halfX t s i = x := by rw [halfX_def, hx.eq, okOr_ok]
  rw [e]; exact hx
theorem halfX_eq {t : Tab} {s : BitVec 64} (hm : mayT t s = true) (hd : t.depth < 5) (i : Nat) (hi : i < 2) : laidT s (halfB t i) (halfL t s i) = .ok (halfX t s i) := (halfX_laid ((may_iff t s).1 hm) hd i hi).eq
theorem Halves_is (t : Tab) (s : BitVec 64) (w : World) :
    Calls Tryz.prog 16 #[U s, .agg (tcells t)] w fun e w' => e = .returned (tupOr (fun v => .agg (t2cells v)) (.agg (t2cells zeroT2)) (ifMay t s (halvesE t (halfX t s)))) ∧ Ch [] w w' :=
  Halves_any t s (halfX t s) w halfX_eq
end
end Go.Proofs.Hc
namespace Go.Proofs.Hc
open Go.RowKit
def pairS (p : PartT) (j : Nat) : BitVec 64 × BitVec 64 := (p.k j, p.v j)
theorem pairs_told (p : PartT) : pairsT (gotS p) = (toldS (gotS p) 0 16).map (pairS p) := by
  unfold pairsT toldS
  rw [slotsT_eq, List.map_map]
  have : (fun j => decide (0 ≤ j) && fullJ (gotS p) j) = fullJ (gotS p) := by funext j; simp
  rw [this]; rfl
def joinE : Except Int Tab → Except Int Tab → Option T2
  | .ok a, .ok b => some ⟨a, b⟩
  | _, _ => none
theorem joinE_ok (a b : Tab) : joinE (.ok a) (.ok b) = some ⟨a, b⟩ := rfl
theorem joinE_l (e : Int) (x : Except Int Tab) : joinE (.error e) x = none := by cases x <;> rfl
theorem joinE_r (e : Int) (x : Except Int Tab) : joinE x (.error e) = none := by cases x <;> rfl
def wordsS (x : T2) : Nat → BitVec 64 := fun i => if i < 40 then tword x.l i else tword x.r (i - 40)
theorem halvesS_eq (p : PartT) : halvesS p = (joinE (halfS p 0) (halfS p 1)).map wordsS := by
  unfold halvesS
  generalize halfS p 0 = a
  generalize halfS p 1 = b
  cases a <;> cases b <;> rfl
def bareS (p : PartT) (i : Nat) : Tab := bareT 0#64 (deepS p + 1) (2#64 * preS p + BitVec.ofNat 64 i)
theorem newE_flat (d : Int) (p : BitVec 64) : newE d p = if flatT (bareT 0#64 d p) then .ok (bareT 0#64 d p) else .error 2 := by
  unfold newE
  cases hf : flatT (bareT 0#64 d p) with
  | true =>
    obtain ⟨h0, h5, hp, _⟩ := (flatT_iff _).1 hf
    have e : p >>> d.toNat = 0#64 := BitVec.eq_of_toNat_eq (by
      have : N (p >>> d.toNat) = ((p >>> d.toNat).toNat : Int) := rfl
      have h : N (p >>> d.toNat) = 0 := hp
      show _ = 0
      omega)
    have h0 : (0 : Int) ≤ d := h0
    have h5 : d ≤ 5 := h5
    rw [if_pos rfl, if_neg]
    rw [e]
    simp
    omega
  | false =>
    rw [if_neg (show ¬ (false = true) by decide), if_pos]
    rw [Bool.or_eq_true, Bool.or_eq_true, decide_eq_true_eq, decide_eq_true_eq, bne_iff_ne]
    apply Classical.byContradiction
    intro hn
    have h0 : (0 : Int) ≤ d := by omega
    have h5 : d ≤ 5 := by omega
    have hp : p >>> d.toNat = 0#64 := by
      apply Classical.byContradiction
      intro h; exact hn (.inr h)
    have := bare_flat (c := 0#64) (p := p) h0 h5 (by rw [hp]; rfl)
    rw [hf] at this; cases this
theorem deepS_0 (p : PartT) : 0 ≤ deepS p := by unfold deepS; omega
theorem bareS_0 (p : PartT) : bareS p 0 = bareT 0#64 (deepS p + 1) (2#64 * preS p) := by
  unfold bareS
  rw [show BitVec.ofNat 64 0 = 0#64 from rfl, BitVec.add_zero]
def goS (p : PartT) (x : BitVec 64 × BitVec 64) : Bool := firstS p (hashOf p.seed x.1)
theorem laidT_may {s : BitVec 64} : ∀ (l : List (BitVec 64 × BitVec 64)) (t x : Tab), May t s → laidT s t l = .ok x → May x s
  | [], t, x, m, h => by
    rw [laidT_nil] at h
    cases h; exact m
  | p :: l, t, x, m, h => by
    cases hp : placeT t s p.1 with
    | error e => rw [laidT_err hp] at h; cases h
    | ok sl => rw [laidT_ok hp] at h; exact laidT_may l _ x (m.fill p.2 (place_spot hp)) h
end Go.Proofs.Hc
namespace Go.Proofs.Hc
open Go.RowKit
attribute [local go_sem] zbr zcd zat zaz zbn zax zbm zbo zbw signed64 signed8 zar BitVec.ofInt_add BitVec.ofInt_mul ofInt_sub' zav zaw wide8 eqN neN zcc shr1 shr7 shr56
attribute [local go_sem high] zay zbv
attribute [local go_sem] zau zbx zai zal zac zbd zan zah zbk zaj zbc zbe
attribute [local go_sem] load26 load73 load23 store26 build73
attribute [local go_sem ↓] lrow26 lrow73 lrow23 srow26 zero26 brow73 zab zba zbb zaa zae
attribute [local go_sem] zag zap zaf zbf zbi zbp zam zaq zbq zbh zbg
attribute [local go_sem] nn2 nm2 nn3 nm3 nn4 nm4 nn5 nm5 nn6 nm6 nn7 nm7 nn8 nm8
section
attribute [local go_sem] zar zbj
attribute [local go_sem] Oper.semAt_some zak
attribute [local go_sem] zci pacell0 pacell1 pacell2 pacell3 pacell4 pacell5 pacell6 pacell7 pacell42
attribute [local go_sem] zcv zdi zdc zcy zcx zdb zdh zda zcf zct part_s6 zdg zco zbl zch zcj boxPart loadPart storePart zce zcq buildPart0 buildPart4
attribute [local go_sem ↓] lrowPart srowPart browPart zck zbs
attribute [local go_sem high] zas
attribute [local irreducible] partC
attribute [local go_sem] loadP storeP allOne_pair
attribute [local go_sem high] laidAt_p
attribute [local go_sem ↓] lrowP srowP zeroP
attribute [local go_sem] box_pair
theorem wpListIn_append_run {F : Fence} {n : Nat} {P : Program} (w : World) {ops : Array Oper} {rest : List Oper} {o : Oper} {a : Act} {Q : Exit → Act → World → Prop} (hgd : o.guard = none) (s x : Operand) (t tn : TypeId)
    (ho : o.op = .call { callee := .builtin .append, args := #[s, x], argTypes := #[t, tn] }) (vs vx : Value) (hs : a.eval s = vs) (hx : a.eval x = vx)
    (v' : Value) (w' : World) (hr : (Builtin.append_ #[t, tn] o.type #[vs, vx]).run P w = .ok v' w') (h : wpListIn F n P ops Q rest (a.put o.dst v') w') : wpListIn F n P ops Q (o :: rest) a w := by
  refine wpListIn_plain hgd fun K hK' => ?_
  unfold Oper.wpIn
  refine ⟨?_, ?_⟩
  · simp [Oper.about, ho, resolve, Target.leads, Sem.run_pure]
  · rw [Oper.semAt_plain F _ _ (by rw [ho]; intro c hc'; cases hc')]
    simp [execOp, ho, resolve, invoke, builtin, hs, hx, hr, Result.andThen]
    exact hK' _ _ h
theorem append_pairO (W : World) (base n n0 : Nat) (hn0 : W.heap.size = n0) (v : Value) (xs : List Value) (hown : W.ownsRow base 31 2 v n xs) (k x : BitVec 64) (hn : n ≤ 900) (hbase : base ≤ W.heap.size) :
    ∃ g' c' w', (Builtin.append_ #[27, 27] 27 #[v, .slice (some ⟨n0, 0, none⟩) 1 1]).run Tryz.prog (W.alloc (.cells #[U k, U x] 31)) = .ok (.slice (some ⟨g', 0, none⟩) (n + 1) c') w' ∧
      w'.ownsRow base 31 2 (.slice (some ⟨g', 0, none⟩) (n + 1) c') (n + 1) (xs ++ [U k, U x]) ∧ Ch (v.ownBlock.toList) W w' ∧ (v.ownBlock = some g' ∨ W.heap.size ≤ g') := by
  subst hn0
  obtain ⟨i0, hi, hz0, hz1, hz2⟩ := info_parts infoP
  obtain ⟨v', w1, hrun, hown', hgrow, _, hloc⟩ := run_append_own_at (P := Tryz.prog) (W.alloc (.cells #[U k, U x] 31)) base 27 27 31 i0 (.agg #[.int .u64 0, .int .u64 0]) 2 16 Tryz.underlying27 hi hz0 hz1 hz2 rfl (by decide) v n xs (hown.alloc _) ⟨W.heap.size, 0, none⟩ 1 1 [U k, U x] rfl (cell_two_new W _ _ _) (by simp [Value.oneCell']) (by unfold maxLen; omega) (by omega) (by simp; omega)
  have hgr : (W.alloc (.cells #[U k, U x] 31)).grownBy w1 v.ownBlock := hgrow
  obtain ⟨g', c', rfl⟩ := ownsRow_succ hown'
  refine ⟨g', c', w1, hrun, hown', (((Ch.refl [] W).alloc _).of_nil).trans2 (Ch.of_grown (S := v.ownBlock.toList) hgr (fun k hk => by simp [hk])) (fun t ht => .inl ht), ?_⟩
  rcases hloc with h | h
  · left; exact h.symm
  · right
    have h2 : some g' = some (W.heap.size + 1) := by simpa [Value.ownBlock] using h
    have := Option.some.inj h2
    omega
def gathL (p : PartT) (i : Int) (l : List Nat) : List (BitVec 64 × BitVec 64) := (l.map (pairS p)).filter fun x => goS p x == (i == 0)
theorem gathL_snoc (p : PartT) (i : Int) (l : List Nat) (j : Nat) : gathL p i (l ++ [j]) = if (firstS p (hashOf p.seed (p.k j)) == (i == 0)) = true then gathL p i l ++ [(p.k j, p.v j)] else gathL p i l := by
  unfold gathL
  rw [List.map_append, List.filter_append, List.map_cons, List.map_nil, List.filter_cons]
  show _ ++ (if (firstS p (hashOf p.seed (p.k j)) == (i == 0)) = true then [(p.k j, p.v j)] else []) = _
  split
  · rfl
  · rw [List.append_nil]
theorem gathL_len (p : PartT) (i : Int) (l : List Nat) : (gathL p i l).length ≤ l.length := by
  unfold gathL
  refine Nat.le_trans (List.length_filter_le _ _) ?_
  rw [List.length_map]; exact Nat.le_refl _
theorem told_len (t : Tab) (f : Nat) : (toldS t f 16).length ≤ 16 := by
  unfold toldS
  refine Nat.le_trans (List.length_filter_le _ _) ?_
  rw [List.length_range]; exact Nat.le_refl _
theorem told_lt (t : Tab) (f : Nat) : ∀ j ∈ toldS t f 16, j < 16 ∧ f ≤ j := by
  intro j hj
  unfold toldS at hj
  obtain ⟨h1, h2⟩ := List.mem_filter.1 hj
  simp only [Bool.and_eq_true, decide_eq_true_eq] at h2
  exact ⟨List.mem_range.1 h1, h2.1⟩
theorem s22gathered_any (p : PartT) (i : Int) (S q1 q2 a1 a2 : Nat) (w : World) (hS : w.heap[S]? = some (.cells (partC p) 179 (0, 0))) (h1 : w.heap[q1]? = some (.cells #[I ((0 : Nat) : Int)] 3 (0, 0))) (h2 : w.heap[q2]? = some (.cells #[.pointer (some ⟨S, 0, none⟩)] 177 (0, 0)))
    (ha1 : w.heap[a1]? = some (.cells #[.pointer (some ⟨S, 0, none⟩)] 177 (0, 0))) (ha2 : w.heap[a2]? = some (.cells #[I i] 3 (0, 0))) :
    Calls Tryz.prog 309 #[.func (.func 308) #[] #[.pointer (some ⟨q1, 0, none⟩), .pointer (some ⟨q2, 0, none⟩)], .func (.func 310) #[] #[.pointer (some ⟨a1, 0, none⟩), .pointer (some ⟨a2, 0, none⟩)]] w fun e w' =>
      ∃ a c, e = .returned (.slice a (gathL p i (toldS (gotS p) 0 16)).length c) ∧ w'.ownsRow w.heap.size 31 2 (.slice a (gathL p i (toldS (gotS p) 0 16)).length c) (gathL p i (toldS (gotS p) 0 16)).length (pcells (gathL p i (toldS (gotS p) 0 16))) ∧ Ch [] w w' := by
  have Y1 := full_yields p 0 (by omega) S q1 q2
  have F1 := fun j w hj hS h1 h2 => s22halves1_any p i j S a1 a2 hj w hS h1 h2
  have XL := Lib.hid (told_len (gotS p) 0)
  have XB := Lib.hid (told_lt (gotS p) 0)
  have GS := Lib.hid (gathL_snoc p i)
  have GL := Lib.hid (gathL_len p i)
  have G0 : Hid (gathL p i [] = []) := Lib.hid rfl
  generalize toldS (gotS p) 0 16 = xs at *
  generalize gathL p i = gl at *
  obtain ⟨fn, hfn⟩ : ∃ v, Value.func (.func 310) #[] #[.pointer (some ⟨a1, 0, none⟩), .pointer (some ⟨a2, 0, none⟩)] = v := ⟨_, rfl⟩
  obtain ⟨W0, hW0⟩ : ∃ W0, (w.alloc (.cells #[fn] 344)).alloc (.cells #[.slice none 0 0] 27) = W0 := ⟨_, rfl⟩
  have hs0 : W0.heap.size = w.heap.size + 2 := by rw [← hW0]; simp
  have hC0 : Ch [] w W0 := by rw [← hW0]; exact ((Ch.refl [] w).alloc _).alloc _
  have b0 : W0.heap[w.heap.size]? = some (.cells #[fn] 344 (0, 0)) := by rw [← hW0]; simp [go_sem]
  have b1 : W0.heap[w.heap.size + 1]? = some (.cells #[.slice none 0 0] 27 (0, 0)) := by rw [← hW0]; simp [go_sem]
  subst hfn
  have S0 := hkeep hC0 hS
  have q10 := hkeep hC0 h1
  have q20 := hkeep hC0 h2
  have a10 := hkeep hC0 ha1
  have a20 := hkeep hC0 ha2
  have lS := Lib.hid (Array.getElem?_eq_some_iff.1 hS).1
  have l1 := Lib.hid (Array.getElem?_eq_some_iff.1 h1).1
  have l2 := Lib.hid (Array.getElem?_eq_some_iff.1 h2).1
  have l3 := Lib.hid (Array.getElem?_eq_some_iff.1 ha1).1
  have l4 := Lib.hid (Array.getElem?_eq_some_iff.1 ha2).1
  have Y2 := Lib.hid (Y1 W0 S0 q10 q20)
  clear hS h1 h2 ha1 ha2 Y1 q10 q20
  refine (callsIn_wide (n := 3)).1 ?_
  refine callsIn_of_wp_marks Tryz.func309 rfl trivial ?_
  simp only [Tryz.ntmps309, List.size_toArray, List.length_cons, List.length_nil, Nat.reduceAdd, Nat.reduceSub, Array.replicate_succ, Array.replicate_zero, List.push_toArray, List.append_toArray, List.nil_append, List.cons_append]
  gi_wp2
  try rw [hW0]
  clear hW0
  refine range_lawO (n := 1) (xs := xs) rfl enters_full22 Y2.out (fun _ => rfl) (by simp) (by have := lS.out; have := l1.out; have := l2.out; simp <;> omega)
    (fun pre O W => ∃ v, (∀ x, O x → x = w.heap.size + 1 ∨ v.ownBlock = some x) ∧ (O (w.heap.size + 1) ∧ ∀ x, v.ownBlock = some x → O x) ∧ Ch [] w W ∧ W.heap[w.heap.size]? = some (.cells #[.func (.func 310) #[] #[.pointer (some ⟨a1, 0, none⟩), .pointer (some ⟨a2, 0, none⟩)]] 344 (0, 0)) ∧ W.heap[w.heap.size + 1]? = some (.cells #[v] 27 (0, 0)) ∧
      W.ownsRow (W0.heap.size + 2) 31 2 v (gl pre).length (pcells (gl pre)) ∧
      W.heap[S]? = some (.cells (partC p) 179 (0, 0)) ∧ W.heap[a1]? = some (.cells #[.pointer (some ⟨S, 0, none⟩)] 177 (0, 0)) ∧ W.heap[a2]? = some (.cells #[I i] 3 (0, 0)))
    (fun _ _ => False)
    (fun x => x = w.heap.size + 1) ?hIO ?hI (fun _ _ _ h _ => h.elim) ⟨_, fun x h => .inl h, ⟨rfl, fun x h => by cases h⟩, hC0, b0, b1, by rw [G0.out]; exact World.ownsRow_nil _ _ _ _, S0, a10, a20⟩ ?a₁ ?assign ?body ?done (fun _ _ h _ => h.elim)
  case assign =>
    intro x W K hK
    gi_wp2
    exact hK
  case hIO =>
    rintro pre O A ⟨v, ho, _, hc, k1, k2, k3, _⟩ x hx
    have := lS.out; have := l1.out; have := l2.out
    rcases ho x hx with rfl | hv
    · exact ⟨.inl (by omega), (Array.getElem?_eq_some_iff.1 k2).1, by simp; omega⟩
    · have := own_block k3 x hv
      refine ⟨.inr this, own_lt k3 hv, by simp; omega⟩
  case hI =>
    rintro pre O A B ⟨v, ho, ho2, hc, k1, k2, k3, k4, k5, k6⟩ hAB
    have := lS.out; have := l3.out; have := l4.out
    exact ⟨v, ho, ho2, hc.trans2 hAB (by simp <;> omega), hkeepS hAB (by simp; omega) k1, hkeepS hAB (by simp; omega) k2, own_ch k3 hAB (by simp), hkeepS hAB (by simp; omega) k4, hkeepS hAB (by simp; omega) k5, hkeepS hAB (by simp; omega) k6⟩
  case body =>
    rintro pre O x post W hx ⟨v, ho, ho2, hc, k1, k2, k3, k4, k5, k6⟩ hsz
    go_light
    have hx16 : x < 16 := (XB.out x (by rw [hx]; simp)).1
    have hlen : (gl pre).length + 1 ≤ 17 := by have h1 := GL.out pre; have := XL.out; rw [hx] at this; simp at this; omega
    have FF := fun w h1 h2 h3 => F1 x w hx16 h1 h2 h3
    have HG := Lib.hid (GS.out pre x)
    clear hx F1 XB XL GS
    obtain ⟨kx, hkx⟩ : ∃ y, p.k x = y := ⟨_, rfl⟩
    obtain ⟨vx, hvx⟩ : ∃ y, p.v x = y := ⟨_, rfl⟩
    rw [hkx] at FF HG
    rw [hvx] at FF HG
    obtain ⟨bo, hbo⟩ : ∃ b, (firstS p (hashOf p.seed kx) == (i == 0)) = b := ⟨_, rfl⟩
    rw [hbo] at FF HG
    clear hkx hvx hbo
    cases bo with
    | false =>
      have HGn : Hid (gl (pre ++ [x]) = gl pre) := Lib.hid (by rw [HG.out]; exact if_neg (by decide))
      clear HG
      gi_wp2_with (refine ⟨trivial, ?_⟩; gi_at_call 310; refine (inR (FF _ k4 k5 k6)).mono ?_; rintro e w1 ⟨rfl, hc1⟩)
      have hc2 : Ch [] W (World.onObj (w1.alloc (.cells #[U 0#64, U 0#64] 31)) w1.heap.size (laidAt 0 #[U kx, U vx])) := (hc1.alloc _).onObj (.inr hc1.size) _
      refine ⟨⟨O, ⟨v, ho, ho2, hc.trans hc2, hkeep hc2 k1, hkeep hc2 k2, by rw [HGn.out]; exact own_ch k3 hc2 (by simp), hkeep hc2 k4, hkeep hc2 k5, hkeep hc2 k6⟩, fun b h => .inl h⟩, hc2.size, fun b hb _ => hc2.block b hb (by simp)⟩
    | true =>
      have HGn : Hid (gl (pre ++ [x]) = gl pre ++ [(kx, vx)]) := Lib.hid (by rw [HG.out]; exact if_pos rfl)
      clear HG
      have hob := Lib.hid (own_block k3)
      gi_wp2_with (first
        | (refine ⟨trivial, ?_⟩; gi_at_call 310; refine (inR (FF _ k4 k5 k6)).mono ?_; rintro e w1 ⟨rfl, hc1⟩
           have k2' := hkeep hc1 k2
           have HC2 : Hid (Ch [] W (World.onObj (w1.alloc (.cells #[U 0#64, U 0#64] 31)) w1.heap.size (laidAt 0 #[U kx, U vx]))) := Lib.hid ((hc1.alloc _).onObj (.inr hc1.size) _)
           have hz1 := hc1.size
           obtain ⟨g', c', w3, hrun, hown', hW3, hloc⟩ := append_pairO (World.onObj (w1.alloc (.cells #[U 0#64, U 0#64] 31)) w1.heap.size (laidAt 0 #[U kx, U vx])) (W0.heap.size + 2) _ (w1.heap.size + 1) (by rw [zbk]; simp) v _ (own_ch k3 HC2.out (by simp)) kx vx (by omega) (by have := HC2.out.size; omega)
           have e2 : w3.heap[w.heap.size + 1]? = some (.cells #[v] 27 (0, 0)) := (hW3.block _ (by have := zad k2; have := HC2.out.size; omega) (fun h => by have := hob.out _ (by simpa using h); omega)).trans (hkeep HC2.out k2)
           have HO := Lib.hid hown'
           have HW := Lib.hid (HC2.out.of_nil.trans hW3)
           have HL : Hid (v.ownBlock = some g' ∨ W.heap.size ≤ g') := Lib.hid (hloc.imp id fun h => by have := HC2.out.size; omega)
           clear hown' hW3 hloc)
        | (gi_at_builtin; refine wpListIn_append_run _ rfl _ _ 27 27 rfl _ _ rfl rfl _ _ hrun ?_))
      have hC3 : Ch [] w w3 := hc.trans2 HW.out (fun t ht => .inr (by have := hob.out t (by simpa using ht); omega))
      have hz3 := HW.out.size
      have hn4 : ∀ {q : Nat} {o : Obj}, q < w.heap.size + 1 → W.heap[q]? = some o → (w3.setCell ⟨w.heap.size + 1, 0, none⟩ (.slice (some ⟨g', 0, none⟩) ((gl pre).length + 1) c')).heap[q]? = some o := fun {q o} hq h => by
        rw [zaa, if_neg (by omega)]
        exact (HW.out.block q (zad h) (fun h => by have := hob.out q (by simpa using h); omega)).trans h
      refine ⟨⟨fun y => y = w.heap.size + 1 ∨ y = g', ⟨.slice (some ⟨g', 0, none⟩) ((gl pre).length + 1) c', ?_, ⟨.inl rfl, fun x hx => .inr (by simpa [Value.ownBlock] using hx.symm)⟩, hC3.setCell (p := ⟨w.heap.size + 1, 0, none⟩) (.inr (by simp)) _, hn4 (by omega) k1, ?_, ?_, hn4 (by have := lS.out; omega) k4, hn4 (by have := l3.out; omega) k5, hn4 (by have := l4.out; omega) k6⟩, ?_⟩, by rw [zaj]; omega, ?_⟩
      · rintro x (rfl | rfl)
        · exact .inl rfl
        · exact .inr rfl
      · rw [zaa, if_pos rfl, e2]; rfl
      · have := own_ch (S := [w.heap.size + 1]) HO.out ((Ch.refl _ w3).setCell (p := ⟨w.heap.size + 1, 0, none⟩) (.inl (by simp)) (.slice (some ⟨g', 0, none⟩) ((gl pre).length + 1) c')) (by simp; omega)
        rw [HGn.out, pcells_snoc, List.length_append]
        exact this
      · rintro x (rfl | rfl)
        · exact .inl ho2.1
        · rcases HL.out with h | h
          · exact .inl (ho2.2 _ h)
          · right; exact h
      · intro y hy hn
        have hy1 : y ≠ w.heap.size + 1 := fun e => hn (e ▸ ho2.1)
        rw [zaa, if_neg hy1]
        exact HW.out.block y hy (fun hs => hn (ho2.2 y (by simpa using hs)))
  case done =>
    rintro O W ⟨v, ho, _, hc, k1, k2, k3, -⟩ hd
    gi_wp2
    obtain ⟨a, c, hv⟩ := own_form k3
    subst hv
    refine marks_ret (v := .slice a (gl xs).length c) hd (results_tmp Tryz.results309 _ _ _) ⟨a, c, by simp, ?_, hc.trans2 (zby _ _ _) (by simp <;> omega)⟩
    have := own_mono (own_ch k3 (zby W W0.heap.size (.deferred none)) (by simp <;> omega)) (base' := w.heap.size) (by omega)
    simpa using this
end
end Go.Proofs.Hc
