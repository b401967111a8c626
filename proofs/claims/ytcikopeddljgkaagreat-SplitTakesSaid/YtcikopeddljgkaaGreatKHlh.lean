/- Package table: Put. -/
import Derived.Test.YtcikopeddljgkaaGreatKHdi
set_option linter.unusedSimpArgs false
set_option linter.unusedVariables false
set_option maxHeartbeats 4000000
set_option maxRecDepth 100000
namespace Go.Proofs.Hc
open Go.RowKit
attribute [local go_sem] zbv zcb zba zbf zbr zbd zbq zbs zbx signed64 signed8 zap BitVec.ofInt_add BitVec.ofInt_mul ofInt_sub' zbb zbc wide8 eqN neN zca shr1 shr7 shr56
attribute [local go_sem high] zbe zbw
attribute [local go_sem] zaw zby zaj zas zae zay zar zak zbn zam zax zaz
attribute [local go_sem] load26 load73 load23 store26 build73
attribute [local go_sem ↓] lrow26 lrow73 lrow23 srow26 zero26 brow73 zac zbk zbg zaa zab
attribute [local go_sem] zai zav zau zbj zbl zbo zaq zat zbp zbi zbh
attribute [local go_sem] nn2 nm2 nn3 nm3 nn4 nm4 nn5 nm5 nn6 nm6 nn7 nm7 nn8 nm8
section
attribute [local go_sem] loadA loadT2 storeA storeT2 buildA_ts buildA_sm zdj make_func zdf zcd acells_get zda acells_one t2cells_one zcz acells_all t2cells_all t2cells_l t2cells_r
attribute [local go_sem ↓] lrowA lrowT2 srowA srowT2 browA zeroA_run zeroT2_run
attribute [local go_sem] Oper.semAt_some zao zbt
attribute [local go_sem] box26 zcc cell0 cell1 cell2 cell3 cell4 zcn zcm
attribute [local go_sem] cell5 cell6 acells_idx zcz
attribute [local go_sem high] zco laidAt_a
def putV (r : Except Int At) : Value := match r with
  | .ok y => .tuple #[.agg (tcells y.t), I y.slot, I 0]
  | .error c => .tuple #[.agg (tcells zeroT), I 0, I c]
theorem results_c0tt {P : Program} {fn : Func} {p q r : Tmp} {T1 : TypeId} (h : fn.results = #[.cell p T1, .tmp q, .tmp r]) (tmps : Array Value) (a : Addr) (w : World) {x y z : Value}
    (hp : tmps.getD p undef = .pointer (some a)) (hq : tmps.getD q undef = y) (hr : tmps.getD r undef = z) (h1 : (loadVar T1 a).run P w = .ok x w) :
    (results fn tmps).run P w = .ok (.tuple #[x, y, z]) w := by
  have hp' : tmps[p]?.getD undef = .pointer (some a) := by simpa using hp
  have hq' : tmps[q]?.getD undef = y := by simpa using hq
  have hr' : tmps[r]?.getD undef = z := by simpa using hr
  simp [results, h, hp', hq', hr', asAddr, h1]
end
section
attribute [local go_sem] loadA loadT2 storeA storeT2 buildA_ts buildA_sm zdj make_func zdf zcd acells_get zda acells_one t2cells_one zcz acells_all t2cells_all t2cells_l t2cells_r
attribute [local go_sem ↓] lrowA lrowT2 srowA srowT2 browA zeroA_run zeroT2_run
attribute [local go_sem] Oper.semAt_some zao zbt
attribute [local go_sem] box26 zcc cell0 cell1 cell2 cell3 cell4 zcn zcm
attribute [local go_sem] cell5 cell6
attribute [local go_sem] loadP storeP allOne_pair
attribute [local go_sem ↓] lrowP srowP zeroP
attribute [local go_sem high] zco laidAt_p
def halfB (t : Tab) (i : Nat) : Tab := bareT 0#64 (t.depth + 1) (2#64 * t.pre + BitVec.ofNat 64 i)
def goesH (t : Tab) (s : BitVec 64) (i : Nat) (p : BitVec 64 × BitVec 64) : Bool := hasT (halfB t i) (hashOf s p.1)
def halfL (t : Tab) (s : BitVec 64) (i : Nat) : List (BitVec 64 × BitVec 64) := (pairsT t).filter (goesH t s i)
theorem laidAt_t2 (a b : T2) (T : TypeId) (fr : Nat × Nat) : laidAt 0 (t2cells b) (.cells (t2cells a) T fr) = .cells (t2cells b) T fr := by
  rw [zak, laid_whole _ _ (by rw [zcd, zcd])]
attribute [local go_sem high] laidAt_t2
theorem laid_l (a : T2) (x : Tab) (T : TypeId) (fr : Nat × Nat) : laidAt 0 (tcells x) (.cells (t2cells a) T fr) = .cells (t2cells ⟨x, a.r⟩) T fr := by
  rw [zak]
  refine congrArg (fun c => Obj.cells c T fr) ?_
  have h0 : (t2cells a).extract 0 0 = #[] := by apply Array.eq_empty_of_size_eq_zero; simp
  rw [h0, Array.empty_append, zai, zcd]
  apply Array.ext_getElem?; intro i
  rw [Array.getElem?_append, zai, zda, zau, Array.getElem?_extract, zda, zcd]
  by_cases h : i < 39
  · simp [h, show i < 78 by omega]
  · simp only [h, if_false]
    by_cases h2 : i < 78
    · rw [if_pos (by omega), if_pos (by omega), if_pos h2, if_neg (by omega), show 0 + 39 + (i - 39) = i by omega]
    · rw [if_neg (by omega), if_neg h2]
theorem laid_r (a : T2) (x : Tab) (T : TypeId) (fr : Nat × Nat) : laidAt 39 (tcells x) (.cells (t2cells a) T fr) = .cells (t2cells ⟨a.l, x⟩) T fr := by
  rw [zak]
  refine congrArg (fun c => Obj.cells c T fr) ?_
  have h0 : (t2cells a).extract (39 + (tcells x).size) (t2cells a).size = #[] := by apply Array.eq_empty_of_size_eq_zero; simp [zai, zcd]
  have h1 : (t2cells a).extract 0 39 = tcells a.l := t2cells_l a
  rw [h0, Array.append_empty, h1]
  apply Array.ext_getElem?; intro i
  rw [Array.getElem?_append, zai, zda, zau, zau]
  by_cases h : i < 39
  · simp [h, show i < 78 by omega]
  · simp only [h, if_false]
    by_cases h2 : i < 78
    · rw [if_pos (by omega), if_pos h2]
    · rw [if_neg (by omega), if_neg h2]
end
end Go.Proofs.Hc
namespace Go.Proofs.Hc
open Go.RowKit
def Clean (t : Tab) : Prop := ∀ j, j < 16 → bt t j ≠ 254#8
theorem clean_nFill {t : Tab} {s : BitVec 64} (m : May t s) (h : Clean t) : nFill t = nFull t := by
  unfold nFill nFull
  apply List.countP_congr
  intro j hj
  have hj16 : j < 16 := by simpa using hj
  rw [fillJ, fullJ, bne_iff_ne, decide_eq_true_iff]
  rcases m.ok j hj16 with e | e | e
  · exact ⟨fun _ => e, fun _ h => by rw [h] at e; exact absurd e (by decide)⟩
  · rw [e]; exact ⟨fun h => absurd rfl h, fun h => absurd h (by decide)⟩
  · exact absurd e (h j hj16)
theorem clean_can {t : Tab} {s : BitVec 64} (m : May t s) (h : Clean t) : t.can = 14 - t.live := by rw [m.can, m.live, clean_nFill m h]
theorem Clean.fill {t : Tab} (h : Clean t) (s k v : BitVec 64) (sl : Nat) : Clean (fillT t s k v sl) := by
  intro j hj
  rw [bt_fill]
  split
  · intro e
    have := hash2_lt (hashOf s k)
    rw [e] at this; exact absurd this (by decide)
  · exact h j hj
theorem bt_bare (c : BitVec 64) (d : Int) (p : BitVec 64) (j : Nat) : bt (bareT c d p) j = 128#8 := byteAt_tops _ (by omega)
theorem clean_bare (c : BitVec 64) (d : Int) (p : BitVec 64) : Clean (bareT c d p) := fun j _ => by rw [bt_bare]; decide
theorem bare_full (c : BitVec 64) (d : Int) (p : BitVec 64) (j : Nat) : fullJ (bareT c d p) j = false := by rw [fullJ, bt_bare]; decide
theorem bare_pairs (c : BitVec 64) (d : Int) (p : BitVec 64) (q : BitVec 64 × BitVec 64) : ¬ q ∈ pairsT (bareT c d p) := by
  rw [mem_pairs]
  rintro ⟨j, _, hf, _⟩
  rw [bare_full] at hf; cases hf
theorem bare_flat {c : BitVec 64} {d : Int} {p : BitVec 64} (h0 : 0 ≤ d) (h5 : d ≤ 5) (hp : N (p >>> d.toNat) = 0) : flatT (bareT c d p) = true :=
  (flatT_iff _).2 ⟨h0, h5, hp, by show (0 : Int) ≤ 14; omega, by show (14 : Int) ≤ 14; omega, by show (0 : Int) ≤ 0; omega, by show (0 : Int) ≤ 14; omega⟩
theorem bare_may {c : BitVec 64} {d : Int} {p : BitVec 64} (s : BitVec 64) (h : flatT (bareT c d p) = true) : May (bareT c d p) s := by
  have h1 : nFull (bareT c d p) = 0 := by
    unfold nFull
    rw [List.countP_eq_zero]
    intro j _
    rw [bare_full]; simp
  have h2 : nFill (bareT c d p) = 0 := by
    unfold nFill
    rw [List.countP_eq_zero]
    intro j _
    rw [fillJ, bt_bare]; decide
  refine ⟨h, fun j _ => .inr (.inl (bt_bare c d p j)), fun j _ hf => ?_, fun i j _ _ hf => ?_, ?_, ?_⟩
  · rw [bare_full] at hf; cases hf
  · rw [bare_full] at hf; cases hf
  · rw [h1]; rfl
  · rw [h2]; rfl
theorem has_fill {t : Tab} {s k v : BitVec 64} {sl : Nat} (m : May (fillT t s k v sl) s) {h : BitVec 64} (hh : hasT t h = true) : hasT (fillT t s k v sl) h = true :=
  hasT_of hh m.flat (fill_depth ..) (fill_pre ..)
structure Laid (s : BitVec 64) (t0 : Tab) (l : List (BitVec 64 × BitVec 64)) (x : Tab) : Prop where
  eq : laidT s t0 l = .ok x
  may : May x s
  clean : Clean x
  mem : ∀ q, q ∈ pairsT x ↔ q ∈ l ∨ q ∈ pairsT t0
  live : x.live = t0.live + l.length
  depth : x.depth = t0.depth
  pre : x.pre = t0.pre
  count : x.count = t0.count
theorem laid_ok {s : BitVec 64} : ∀ (l : List (BitVec 64 × BitVec 64)) (t0 : Tab), May t0 s → Clean t0 → (∀ p ∈ l, hasT t0 (hashOf s p.1) = true) → ((l.map (·.1)).Nodup) → (∀ p ∈ l, ∀ q ∈ pairsT t0, q.1 ≠ p.1) → t0.live + l.length ≤ 14 → ∃ x, Laid s t0 l x
  | [], t0, m, hc, _, _, _, _ => ⟨t0, rfl, m, hc, fun q => by simp, by simp, rfl, rfl, rfl⟩
  | p :: l, t0, m, hc, hg, hn, hd, hl => by
    have hcan := clean_can m hc
    rw [List.length_cons] at hl
    rw [List.map_cons, List.nodup_cons] at hn
    have hno : hasKT t0 p.1 = false := by
      cases h : hasKT t0 p.1 with
      | false => rfl
      | true =>
        obtain ⟨j, hj, hf, hk⟩ := (hasKT_iff t0 p.1).1 h
        exact absurd hk (hd p (by simp) (t0.k j, t0.v j) ((mem_pairs t0 _).2 ⟨j, hj, hf, rfl⟩))
    obtain ⟨sl, hsl⟩ := place_room m (by omega) (hg p (by simp)) hno
    have hsp := place_spot hsl
    have m' := m.fill p.2 hsp
    have hp' := fill_pairs p.2 hsp
    obtain ⟨x, hx⟩ := laid_ok l (fillT t0 s p.1 p.2 sl) m' (hc.fill _ _ _ _) (fun q hq => has_fill m' (hg q (by simp [hq]))) hn.2 (fun q hq r hr => by
      rcases (hp' r).1 hr with rfl | hr
      · intro e; exact hn.1 (List.mem_map.2 ⟨q, hq, e.symm⟩)
      · exact hd q (by simp [hq]) r hr) (by show t0.live + 1 + _ ≤ 14; omega)
    refine ⟨x, ?_, hx.may, hx.clean, fun q => ?_, ?_, hx.depth.trans (fill_depth ..), hx.pre.trans (fill_pre ..), hx.count.trans (fill_count ..)⟩
    · rw [laidT_ok hsl]; exact hx.eq
    · rw [hx.mem q, hp' q, List.mem_cons]
      constructor
      · rintro (h | h | h)
        · exact .inl (.inr h)
        · exact .inl (.inl h)
        · exact .inr h
      · rintro ((h | h) | h)
        · exact .inr (.inl h)
        · exact .inl h
        · exact .inr (.inr h)
    · rw [hx.live]; show t0.live + 1 + (l.length : Int) = _; rw [List.length_cons]; omega
theorem topT_nat (h : BitVec 64) (d : Int) (h0 : 0 ≤ d) (h5 : d ≤ 63) : (topT h d).toNat = h.toNat / 2 ^ (64 - d.toNat) := by
  unfold topT
  rw [BitVec.toNat_ushiftRight, BitVec.toNat_ushiftRight, Nat.shiftRight_eq_div_pow, Nat.shiftRight_eq_div_pow, Nat.div_div_eq_div_mul, ← Nat.pow_add, show 1 + (63 - d).toNat = 64 - d.toNat by omega]
theorem top_half (h : BitVec 64) (d : Int) (h0 : 0 ≤ d) (h5 : d < 5) : (topT h d).toNat = (topT h (d + 1)).toNat / 2 := by
  rw [topT_nat h d h0 (by omega), topT_nat h (d + 1) (by omega) (by omega), Nat.div_div_eq_div_mul, show 64 - d.toNat = (64 - (d + 1).toNat) + 1 by omega, Nat.pow_succ]
theorem pre_lt {t : Tab} (h : flatT t = true) : t.pre.toNat < 2 ^ t.depth.toNat := by
  obtain ⟨_, _, hp, _⟩ := (flatT_iff t).1 h
  unfold N at hp
  rw [BitVec.toNat_ushiftRight, Nat.shiftRight_eq_div_pow] at hp
  have h2 := (Nat.div_eq_zero_iff).1 (show t.pre.toNat / 2 ^ t.depth.toNat = 0 by omega)
  have := Nat.two_pow_pos t.depth.toNat
  omega
theorem half_pre {t : Tab} (h : flatT t = true) (hd : t.depth < 5) (i : Nat) (hi : i < 2) : (2#64 * t.pre + BitVec.ofNat 64 i).toNat = 2 * t.pre.toNat + i := by
  have h1 := pre_lt h
  have h2 : 2 ^ t.depth.toNat ≤ 2 ^ 5 := Nat.pow_le_pow_right (by omega) (by omega)
  rw [BitVec.toNat_add, BitVec.toNat_mul, BitVec.toNat_ofNat, BitVec.toNat_ofNat]
  omega
theorem half_flat {t : Tab} (h : flatT t = true) (hd : t.depth < 5) (i : Nat) (hi : i < 2) : flatT (halfB t i) = true := by
  obtain ⟨h0, _⟩ := (flatT_iff t).1 h
  refine bare_flat (by omega) (by omega) ?_
  unfold N
  rw [BitVec.toNat_ushiftRight, Nat.shiftRight_eq_div_pow, half_pre h hd i hi]
  have h1 := pre_lt h
  have h2 : 2 ^ (t.depth + 1).toNat = 2 ^ t.depth.toNat * 2 := by rw [show (t.depth + 1).toNat = t.depth.toNat + 1 by omega, Nat.pow_succ]
  rw [h2, Nat.div_eq_of_lt (by omega)]; rfl
theorem goesH_iff {t : Tab} {s : BitVec 64} (h : flatT t = true) (hd : t.depth < 5) (i : Nat) (hi : i < 2) (p : BitVec 64 × BitVec 64) : goesH t s i p = true ↔ (topT (hashOf s p.1) (t.depth + 1)).toNat = 2 * t.pre.toNat + i := by
  rw [goesH, hasT_iff, ← half_pre h hd i hi]
  constructor
  · rintro ⟨_, h2⟩; exact congrArg BitVec.toNat h2
  · intro h2; exact ⟨half_flat h hd i hi, BitVec.eq_of_toNat_eq h2⟩
theorem goes_one {t : Tab} {s : BitVec 64} (m : May t s) (hd : t.depth < 5) {p : BitVec 64 × BitVec 64} (hp : p ∈ pairsT t) : goesH t s 1 p = !goesH t s 0 p := by
  obtain ⟨j, hj, hf, rfl⟩ := (mem_pairs t p).1 hp
  obtain ⟨_, hh, _⟩ := m.slot j hj hf
  obtain ⟨h0, _⟩ := (flatT_iff t).1 m.flat
  have h1 := congrArg BitVec.toNat ((hasT_iff _ _).1 hh).2
  rw [top_half _ _ h0 hd] at h1
  have e0 := goesH_iff (s := s) m.flat hd 0 (by omega) (t.k j, t.v j)
  have e1 := goesH_iff (s := s) m.flat hd 1 (by omega) (t.k j, t.v j)
  dsimp only at e0 e1
  cases h2 : goesH t s 0 (t.k j, t.v j) with
  | true =>
    have := e0.1 h2
    cases h3 : goesH t s 1 (t.k j, t.v j) with
    | true => have := e1.1 h3; omega
    | false => rfl
  | false =>
    cases h3 : goesH t s 1 (t.k j, t.v j) with
    | true => rfl
    | false =>
      exfalso
      have a0 : ¬ (topT (hashOf s (t.k j)) (t.depth + 1)).toNat = 2 * t.pre.toNat + 0 := fun e => by rw [e0.2 e] at h2; cases h2
      have a1 : ¬ (topT (hashOf s (t.k j)) (t.depth + 1)).toNat = 2 * t.pre.toNat + 1 := fun e => by rw [e1.2 e] at h3; cases h3
      omega
theorem live_le {t : Tab} {s : BitVec 64} (m : May t s) : ((pairsT t).length : Int) ≤ 14 := by
  rw [m.len]; exact ((flatT_iff t).1 m.flat).2.2.2.2.2.2
theorem half_ok {t : Tab} {s : BitVec 64} (m : May t s) (hd : t.depth < 5) (i : Nat) (hi : i < 2) : ∃ x, Laid s (halfB t i) (halfL t s i) x := by
  have hfl := half_flat m.flat hd i hi
  refine laid_ok _ _ (bare_may s hfl) (clean_bare _ _ _) (fun p hp => (List.mem_filter.1 hp).2) ?_ (fun p _ q hq => absurd hq (bare_pairs _ _ _ q)) ?_
  · exact (List.Sublist.map _ List.filter_sublist).nodup m.keys
  · show (0 : Int) + _ ≤ 14
    have := live_le m
    have h2 : (halfL t s i).length ≤ (pairsT t).length := List.length_filter_le _ _
    omega
end Go.Proofs.Hc
namespace Go.Proofs.Hc
open Go.RowKit
attribute [local go_sem] zbv zcb zba zbf zbr zbd zbq zbs zbx signed64 signed8 zap BitVec.ofInt_add BitVec.ofInt_mul ofInt_sub' zbb zbc wide8 eqN neN zca shr1 shr7 shr56
attribute [local go_sem high] zbe zbw
attribute [local go_sem] zaw zby zaj zas zae zay zar zak zbn zam zax zaz
attribute [local go_sem] load26 load73 load23 store26 build73
attribute [local go_sem ↓] lrow26 lrow73 lrow23 srow26 zero26 brow73 zac zbk zbg zaa zab
attribute [local go_sem] zai zav zau zbj zbl zbo zaq zat zbp zbi zbh
attribute [local go_sem] nn2 nm2 nn3 nm3 nn4 nm4 nn5 nm5 nn6 nm6 nn7 nm7 nn8 nm8
section
attribute [local go_sem] loadA loadT2 storeA storeT2 buildA_ts buildA_sm zdj make_func zdf zcd acells_get zda acells_one t2cells_one zcz acells_all t2cells_all t2cells_l t2cells_r
attribute [local go_sem ↓] lrowA lrowT2 srowA srowT2 browA zeroA_run zeroT2_run
attribute [local go_sem] Oper.semAt_some zao zbt
attribute [local go_sem] box26 zcc cell0 cell1 cell2 cell3 cell4 zcn zcm
attribute [local go_sem] cell5 cell6 acells_idx zcz
attribute [local go_sem high] zco laidAt_a laidAt_t2
def okOr : Except Int Tab → Tab
  | .ok x => x
  | .error _ => zeroT
theorem okOr_ok (x : Tab) : okOr (.ok x) = x := rfl
def halfX (t : Tab) (s : BitVec 64) (i : Nat) : Tab := okOr (laidT s (halfB t i) (halfL t s i))
theorem halfX_def (t : Tab) (s : BitVec 64) (i : Nat) : halfX t s i = okOr (laidT s (halfB t i) (halfL t s i)) := by rw [halfX]
theorem halfX_laid {t : Tab} {s : BitVec 64} (m : May t s) (hd : t.depth < 5) (i : Nat) (hi : i < 2) : Laid s (halfB t i) (halfL t s i) (halfX t s i) := by
  obtain ⟨x, hx⟩ := half_ok m hd i hi
  have e : halfX t s i = x := by rw [halfX_def, hx.eq, okOr_ok]
  rw [e]; exact hx
theorem halfX_eq {t : Tab} {s : BitVec 64} (hm : mayT t s = true) (hd : t.depth < 5) (i : Nat) (hi : i < 2) : laidT s (halfB t i) (halfL t s i) = .ok (halfX t s i) := (halfX_laid ((may_iff t s).1 hm) hd i hi).eq
end
section
attribute [local go_sem] zap zbt
attribute [local go_sem] Oper.semAt_some zao
attribute [local go_sem] zcj pacell0 pacell1 pacell2 pacell3 pacell4 pacell5 pacell6 pacell7 pacell42
attribute [local go_sem] zcr zcw zct zdc zdb part_g5 zcv zdl zcf zcq part_s6 zde zch zbu zci zck boxPart loadPart storePart zce zcs buildPart0 buildPart4
attribute [local go_sem ↓] lrowPart srowPart browPart zcl zbz
attribute [local go_sem high] zag
attribute [local irreducible] partC
def toldS (t : Tab) (from_ m : Nat) : List Nat := (List.range m).filter fun j => decide (from_ ≤ j) && fullJ t j
theorem toldS_low (t : Tab) (from_ m : Nat) (h : m ≤ from_) : toldS t from_ m = [] := by
  unfold toldS
  rw [List.filter_eq_nil_iff]
  intro j hj
  rw [List.mem_range] at hj
  rw [decide_eq_false (by omega), Bool.false_and]
  decide
theorem toldS_no (t : Tab) (from_ m : Nat) (h : from_ ≤ m) (hf : fullJ t m = false) : toldS t from_ (m + 1) = toldS t from_ m := by
  unfold toldS
  rw [List.range_succ, List.filter_append, List.filter_cons_of_neg (by rw [hf, Bool.and_false]; decide), List.filter_nil, List.append_nil]
theorem toldS_yes (t : Tab) (from_ m : Nat) (h : from_ ≤ m) (hf : fullJ t m = true) : toldS t from_ (m + 1) = toldS t from_ m ++ [m] := by
  unfold toldS
  rw [List.range_succ, List.filter_append, List.filter_cons_of_pos (by rw [hf, decide_eq_true h]; rfl), List.filter_nil]
theorem toldS_split (t : Tab) (from_ m : Nat) (hm : m < 16) (h : from_ ≤ m) (hf : fullJ t m = true) : ∃ r, toldS t from_ 16 = toldS t from_ m ++ m :: r := by
  refine ⟨((List.range' (m + 1) (16 - (m + 1)))).filter (fun j => decide (from_ ≤ j) && fullJ t j), ?_⟩
  have e : List.range 16 = List.range (m + 1) ++ List.range' (m + 1) (16 - (m + 1)) := by
    have := List.range'_append_1 (s := 0) (m := m + 1) (n := 16 - (m + 1))
    rw [Nat.zero_add, show m + 1 + (16 - (m + 1)) = 16 by omega] at this
    rw [List.range_eq_range', List.range_eq_range', this]
  unfold toldS
  rw [e, List.filter_append]
  have := toldS_yes t from_ m h hf
  unfold toldS at this
  rw [this, List.append_assoc]; rfl
theorem enters_full22 (args : Array Value) (w : World) : (callFunc 308 args).run Tryz.prog w = .ok (.enter 308 args) w := by kernel_rfl
theorem s22full_any (S : Nat) (from_ : Int) (w : World) (hS : S < w.heap.size) : Calls Tryz.prog 280 #[.pointer (some ⟨S, 0, none⟩), I from_] w fun e w' =>
    ∃ q1 q2, e = .returned (.func (.func 308) #[] #[.pointer (some ⟨q1, 0, none⟩), .pointer (some ⟨q2, 0, none⟩)]) ∧
      w'.heap[q1]? = some (.cells #[I from_] 3 (0, 0)) ∧ w'.heap[q2]? = some (.cells #[.pointer (some ⟨S, 0, none⟩)] 177 (0, 0)) ∧ w.heap.size ≤ q1 ∧ w.heap.size ≤ q2 ∧ Ch [] w w' := by
  go_enter Tryz.func280, Tryz.ntmps280
  go_wp2
  go_ret
  refine ⟨w.heap.size + 1, w.heap.size, rfl, ?_, ?_, by omega, by omega, ?_⟩
  · simp [go_sem]
  · simp [go_sem]
  · exact ((Ch.refl [] w).alloc _).alloc _
theorem full_yields (p : PartT) (from_ : Nat) (hf : from_ ≤ 16) (S q1 q2 : Nat) (w : World) (hS : w.heap[S]? = some (.cells (partC p) 179 (0, 0))) (h1 : w.heap[q1]? = some (.cells #[I (from_ : Int)] 3 (0, 0))) (h2 : w.heap[q2]? = some (.cells #[.pointer (some ⟨S, 0, none⟩)] 177 (0, 0))) :
    YieldsO Tryz.prog 308 #[.pointer (some ⟨q1, 0, none⟩), .pointer (some ⟨q2, 0, none⟩)] (fun x : Nat => #[I (x : Int)]) (toldS (gotS p) from_ 16) [] [S, q1, q2] w := by
  intro n l J Jx W O0 hW hk hO hJ hJx hY h0
  have S0 := (hk S (by simp)).trans hS
  have a0 := (hk q1 (by simp)).trans h1
  have b0 := (hk q2 (by simp)).trans h2
  clear hS h1 h2 hk hW
  refine callsIn_of_wp Tryz.func308 rfl trivial ?_
  simp only [Tryz.ntmps308, List.size_toArray, List.length_cons, List.length_nil, Nat.reduceAdd, Nat.reduceSub, Array.replicate_succ, Array.replicate_zero, List.push_toArray, List.append_toArray, List.nil_append, List.cons_append]
  refine wpIn_wide.2 ?_
  apply wp_scope_straight
  refine (wpIn_wide (n := n + 1)).1 ?_
  gi_wp2
  apply wpIn_label
  gi_wp2
  gi_loopw [4] (fun i wr => ∃ (m : Nat) (O : Nat → Prop), i = .int .i64 m ∧ from_ ≤ m ∧ m ≤ 16 ∧ J (toldS (gotS p) from_ m) O wr ∧ wr.heap[S]? = some (.cells (partC p) 179 (0, 0)) ∧ wr.heap[q1]? = some (.cells #[I (from_ : Int)] 3 (0, 0)) ∧ wr.heap[q2]? = some (.cells #[.pointer (some ⟨S, 0, none⟩)] 177 (0, 0))) (fun i _ => 16 - (intOf i).toNat)
  case atStart => exact ⟨from_, O0, rfl, Nat.le_refl _, hf, by rw [toldS_low _ _ _ (Nat.le_refl _)]; exact h0, S0, a0, b0⟩
  case round =>
    obtain ⟨m, O, hm, hml, hm6, hj, Sr, ar, br⟩ := hrel
    subst hm
    clear S0 a0 b0 h0
    have hjK := fun b hb => (hO _ _ _ hj b hb).2
    have hOS : ¬ O S := fun h => hjK S h (by simp)
    have hO1 : ¬ O q1 := fun h => hjK q1 h (by simp)
    have hO2 : ¬ O q2 := fun h => hjK q2 h (by simp)
    clear hjK
    rcases Nat.lt_or_ge m 16 with hlt | hge
    · have d1 : IntKind.i64.wrap ((m / 8 : Nat) : Int) = ((m / 8 : Nat) : Int) := by rw [IntKind.wrap_i64]; omega
      have d2 : IntKind.i64.wrap ((m % 8 : Nat) : Int) = ((m % 8 : Nat) : Int) := by rw [IntKind.wrap_i64]; omega
      have d4 : (m : Int).tdiv 8 = ((m / 8 : Nat) : Int) := by rw [Int.tdiv_eq_ediv_of_nonneg (by omega)]; omega
      have d5 : (m : Int).tmod 8 = ((m % 8 : Nat) : Int) := by rw [Int.tmod_eq_emod_of_nonneg (by omega)]; omega
      have G1 := fun w => get_yes (p.c (m / 8)) (m % 8) (by omega) w
      have e8 := part_gc p (m / 8) (by omega)
      have hbt : byteAt (p.c (m / 8)) (m % 8) = bt (gotS p) m := rfl
      rw [hbt] at G1
      have hfj : fullJ (gotS p) m = decide ((bt (gotS p) m).toNat < 128) := rfl
      have hno := toldS_no (gotS p) from_ m hml
      have hyes := toldS_yes (gotS p) from_ m hml
      have hspl := toldS_split (gotS p) from_ m hlt hml
      rw [hfj] at hno hyes hspl
      generalize bt (gotS p) m = bb at *
      obtain ⟨q, hq⟩ : ∃ q, m / 8 = q := ⟨_, rfl⟩
      obtain ⟨r, hr⟩ : ∃ q, m % 8 = q := ⟨_, rfl⟩
      rw [hq] at d1 d4 e8 G1
      rw [hr] at d2 d5 G1
      have hq2 : q < 2 := by omega
      have hr8 : r < 8 := by omega
      have hmI : (m : Int) < 16 := by omega
      have q0 : (0 : Int) ≤ q := by omega
      have q1' : (q : Int) < 2 := by omega
      clear hq hr hbt
      by_cases hbb : bb.toNat < 128
      · have hle : N bb ≤ 127 := by unfold N; omega
        rw [decide_eq_true hbb] at hno hyes hspl
        obtain ⟨rs, hrs⟩ := hspl rfl
        have hy' := hyes rfl
        obtain ⟨fn, tmps, assign, body, hyl, hRd⟩ := hY _ O m rs wr hrs hj
        have HR := Lib.hid hRd
        have HY' := Lib.hid hy'
        clear hno hyes hspl hrs hRd hy' hj hfj
        gi_wp2_with (refine ⟨trivial, ?_⟩; gi_at_call 168; refine (callsIn_wide.2 (G1 _)).mono ?_; rintro e w' ⟨rfl, rfl⟩)
        refine HR.out.mono ?_
        clear hyl HR
        rintro e w4 (⟨rfl, ⟨O', hj4, hO'⟩, hz4, hk4⟩ | ⟨rfl, hJx4⟩)
        · have S4 := (hk4 S (Array.getElem?_eq_some_iff.1 Sr).1 hOS).trans Sr
          have a4 := (hk4 q1 (Array.getElem?_eq_some_iff.1 ar).1 hO1).trans ar
          have b4 := (hk4 q2 (Array.getElem?_eq_some_iff.1 br).1 hO2).trans br
          clear hk4 hz4 hO' Sr ar br
          gi_wp2
          go_roundw
          case rel => exact ⟨m + 1, O', by go_num, by omega, by omega, by rw [HY'.out]; exact hj4, S4, a4, b4⟩
          case measure => simp [intOf]; omega
        · gi_wp2
          rw [Exit.noGoto_normal]
          refine bodyPost_end (results_none rfl _ _ _) rfl ?_
          exact ⟨⟨_, rfl⟩, .inr hJx4⟩
      · have hle : ¬ (N bb ≤ 127) := by unfold N; omega
        rw [decide_eq_false hbb] at hno hyes hspl
        have hy' := hno rfl
        have HY' := Lib.hid hy'
        clear hno hyes hspl hy' hfj
        gi_wp2_with (refine ⟨trivial, ?_⟩; gi_at_call 168; refine (callsIn_wide.2 (G1 _)).mono ?_; rintro e w' ⟨rfl, rfl⟩)
        refine ⟨(fun f h => by cases h), ?_⟩
        gi_wp2
        go_roundw
        case rel => exact ⟨m + 1, O, by go_num, by omega, by omega, by rw [HY'.out]; exact hj, Sr, ar, br⟩
        case measure => simp [intOf]; omega
    · have hme : m = 16 := by omega
      subst hme
      gi_wp2
      rw [Exit.noGoto_normal]
      refine bodyPost_end (results_none rfl _ _ _) rfl ?_
      exact ⟨⟨_, rfl⟩, .inl ⟨O, hj⟩⟩
end
end Go.Proofs.Hc
namespace Go.Proofs.Hc
open Go.RowKit
def pairS (p : PartT) (j : Nat) : BitVec 64 × BitVec 64 := (p.k j, p.v j)
theorem pairs_told (p : PartT) : pairsT (gotS p) = (toldS (gotS p) 0 16).map (pairS p) := by
  unfold pairsT toldS
  rw [slotsT_eq, List.map_map]
  have : (fun j => decide (0 ≤ j) && fullJ (gotS p) j) = fullJ (gotS p) := by funext j; simp
  rw [this]; rfl
def joinE : Except Int Tab → Except Int Tab → Option T2
  | .ok a, .ok b => some ⟨a, b⟩
  | _, _ => none
theorem joinE_ok (a b : Tab) : joinE (.ok a) (.ok b) = some ⟨a, b⟩ := rfl
theorem joinE_l (e : Int) (x : Except Int Tab) : joinE (.error e) x = none := by cases x <;> rfl
theorem joinE_r (e : Int) (x : Except Int Tab) : joinE x (.error e) = none := by cases x <;> rfl
def wordsS (x : T2) : Nat → BitVec 64 := fun i => if i < 40 then tword x.l i else tword x.r (i - 40)
theorem halvesS_eq (p : PartT) : halvesS p = (joinE (halfS p 0) (halfS p 1)).map wordsS := by
  unfold halvesS
  generalize halfS p 0 = a
  generalize halfS p 1 = b
  cases a <;> cases b <;> rfl
def bareS (p : PartT) (i : Nat) : Tab := bareT 0#64 (deepS p + 1) (2#64 * preS p + BitVec.ofNat 64 i)
theorem newE_flat (d : Int) (p : BitVec 64) : newE d p = if flatT (bareT 0#64 d p) then .ok (bareT 0#64 d p) else .error 2 := by
  unfold newE
  cases hf : flatT (bareT 0#64 d p) with
  | true =>
    obtain ⟨h0, h5, hp, _⟩ := (flatT_iff _).1 hf
    have e : p >>> d.toNat = 0#64 := BitVec.eq_of_toNat_eq (by
      have : N (p >>> d.toNat) = ((p >>> d.toNat).toNat : Int) := rfl
      have h : N (p >>> d.toNat) = 0 := hp
      show _ = 0
      omega)
    have h0 : (0 : Int) ≤ d := h0
    have h5 : d ≤ 5 := h5
    rw [if_pos rfl, if_neg]
    rw [e]
    simp
    omega
  | false =>
    rw [if_neg (show ¬ (false = true) by decide), if_pos]
    rw [Bool.or_eq_true, Bool.or_eq_true, decide_eq_true_eq, decide_eq_true_eq, bne_iff_ne]
    apply Classical.byContradiction
    intro hn
    have h0 : (0 : Int) ≤ d := by omega
    have h5 : d ≤ 5 := by omega
    have hp : p >>> d.toNat = 0#64 := by
      apply Classical.byContradiction
      intro h; exact hn (.inr h)
    have := bare_flat (c := 0#64) (p := p) h0 h5 (by rw [hp]; rfl)
    rw [hf] at this; cases this
theorem preS_lt (p : PartT) : (preS p).toNat < 2 ^ 56 := by
  unfold preS
  rw [BitVec.toNat_ushiftRight, Nat.shiftRight_eq_div_pow]
  have := p.head.isLt
  omega
theorem deepS_0 (p : PartT) : 0 ≤ deepS p := by unfold deepS; omega
theorem pre2_nat (p : PartT) (i : Nat) (hi : i < 2) : (2#64 * preS p + BitVec.ofNat 64 i).toNat = 2 * (preS p).toNat + i := by
  have := preS_lt p
  rw [BitVec.toNat_add, BitVec.toNat_mul, BitVec.toNat_ofNat]
  simp only [BitVec.toNat_ofNat, Nat.reducePow, Nat.reduceMod] at *
  omega
theorem bareS_flat (p : PartT) : flatT (bareS p 1) = flatT (bareS p 0) := by
  have hn : ∀ i, i < 2 → ∀ n : Nat, ((2#64 * preS p + BitVec.ofNat 64 i) >>> (n + 1)).toNat = (preS p).toNat / 2 ^ n := by
    intro i hi n
    rw [BitVec.toNat_ushiftRight, Nat.shiftRight_eq_div_pow, pre2_nat p i hi, show 2 ^ (n + 1) = 2 * 2 ^ n by rw [Nat.pow_succ, Nat.mul_comm], ← Nat.div_div_eq_div_mul]
    congr 1; omega
  have e : (deepS p + 1).toNat = (deepS p).toNat + 1 := by have := deepS_0 p; omega
  rw [Bool.eq_iff_iff, flatT_iff, flatT_iff]
  have e0 : N ((bareS p 0).pre >>> (bareS p 0).depth.toNat) = N ((bareS p 1).pre >>> (bareS p 1).depth.toNat) := by
    show (((2#64 * preS p + BitVec.ofNat 64 0) >>> (deepS p + 1).toNat).toNat : Int) = (((2#64 * preS p + BitVec.ofNat 64 1) >>> (deepS p + 1).toNat).toNat : Int)
    rw [e, hn 0 (by omega), hn 1 (by omega)]
  rw [e0]
  exact Iff.rfl
theorem bareS_0 (p : PartT) : bareS p 0 = bareT 0#64 (deepS p + 1) (2#64 * preS p) := by
  unfold bareS
  rw [show BitVec.ofNat 64 0 = 0#64 from rfl, BitVec.add_zero]
def goS (p : PartT) (x : BitVec 64 × BitVec 64) : Bool := firstS p (hashOf p.seed x.1)
theorem goS_is (p : PartT) (x : BitVec 64 × BitVec 64) : goS p x = hasT (bareS p 0) (hashOf p.seed x.1) := by rw [bareS_0]; rfl
theorem goS_in (p : PartT) (a : Tab) (hf : flatT a = true) (h0 : flatT (bareS p 0) = true) (hd : a.depth = (bareS p 0).depth) (hp : a.pre = (bareS p 0).pre) (x : BitVec 64 × BitVec 64) : hasT a (hashOf p.seed x.1) = goS p x := by
  rw [goS_is]
  unfold hasT
  rw [hf, h0, hd, hp]
theorem halfS_0 (p : PartT) (hf : flatT (bareS p 0) = true) : halfS p 0 = laidT p.seed (bareS p 0) (((toldS (gotS p) 0 16).map (pairS p)).filter (goS p)) := by
  unfold halfS
  rw [newE_flat]
  rw [show bareT 0#64 (deepS p + 1) (2#64 * preS p + BitVec.ofNat 64 0) = bareS p 0 from rfl, hf, if_pos rfl, pairs_told]
  dsimp only
  congr 2
  funext x
  show (firstS p (hashOf p.seed x.1) == true) = firstS p (hashOf p.seed x.1)
  cases firstS p (hashOf p.seed x.1) <;> rfl
theorem halfS_1 (p : PartT) (hf : flatT (bareS p 0) = true) : halfS p 1 = laidT p.seed (bareS p 1) (((toldS (gotS p) 0 16).map (pairS p)).filter (fun x => !goS p x)) := by
  unfold halfS
  rw [newE_flat]
  rw [show bareT 0#64 (deepS p + 1) (2#64 * preS p + BitVec.ofNat 64 1) = bareS p 1 from rfl, bareS_flat, hf, if_pos rfl, pairs_told]
  dsimp only
  congr 2
  funext x
  show (firstS p (hashOf p.seed x.1) == false) = !firstS p (hashOf p.seed x.1)
  cases firstS p (hashOf p.seed x.1) <;> rfl
theorem halfS_bad (p : PartT) (hf : flatT (bareS p 0) = false) (i : Nat) (hi : i < 2) : halfS p i = .error 2 := by
  have h1 := bareS_flat p
  unfold halfS
  rw [newE_flat]
  have e : flatT (bareT 0#64 (deepS p + 1) (2#64 * preS p + BitVec.ofNat 64 i)) = false := by
    rcases (show i = 0 ∨ i = 1 by omega) with rfl | rfl
    · exact hf
    · rw [← hf, ← h1]; rfl
  rw [e, if_neg (by decide)]
theorem halvesS_bad (p : PartT) (hf : flatT (bareS p 0) = false) : halvesS p = none := by
  rw [halvesS_eq, halfS_bad p hf 0 (by omega), joinE_l]; rfl
def restS (p : PartT) (a b : Tab) (l : List (BitVec 64 × BitVec 64)) : Option T2 := joinE (laidT p.seed a (l.filter (goS p))) (laidT p.seed b (l.filter fun x => !goS p x))
theorem restS_nil (p : PartT) (a b : Tab) : restS p a b [] = some ⟨a, b⟩ := rfl
theorem restS_first (p : PartT) (a b : Tab) (l : List (BitVec 64 × BitVec 64)) (x : BitVec 64 × BitVec 64) (hg : goS p x = true) :
    (∀ e, placeT a p.seed x.1 = .error e → restS p a b (x :: l) = none) ∧ (∀ sl, placeT a p.seed x.1 = .ok sl → restS p a b (x :: l) = restS p (fillT a p.seed x.1 x.2 sl) b l) := by
  unfold restS
  rw [List.filter_cons_of_pos hg, List.filter_cons_of_neg (by rw [hg]; decide)]
  exact ⟨fun e h => by rw [laidT_err h, joinE_l], fun sl h => by rw [laidT_ok h]⟩
theorem restS_second (p : PartT) (a b : Tab) (l : List (BitVec 64 × BitVec 64)) (x : BitVec 64 × BitVec 64) (hg : goS p x = false) :
    (∀ e, placeT b p.seed x.1 = .error e → restS p a b (x :: l) = none) ∧ (∀ sl, placeT b p.seed x.1 = .ok sl → restS p a b (x :: l) = restS p a (fillT b p.seed x.1 x.2 sl) l) := by
  unfold restS
  rw [List.filter_cons_of_neg (by rw [hg]; decide), List.filter_cons_of_pos (by rw [hg]; rfl)]
  exact ⟨fun e h => by rw [laidT_err h, joinE_r], fun sl h => by rw [laidT_ok h]⟩
theorem halvesS_flat (p : PartT) (hf : flatT (bareS p 0) = true) : halvesS p = (restS p (bareS p 0) (bareS p 1) ((toldS (gotS p) 0 16).map (pairS p))).map wordsS := by
  rw [halvesS_eq, halfS_0 p hf, halfS_1 p hf]; rfl
theorem laidT_may {s : BitVec 64} : ∀ (l : List (BitVec 64 × BitVec 64)) (t x : Tab), May t s → laidT s t l = .ok x → May x s
  | [], t, x, m, h => by
    rw [laidT_nil] at h
    cases h; exact m
  | p :: l, t, x, m, h => by
    cases hp : placeT t s p.1 with
    | error e => rw [laidT_err hp] at h; cases h
    | ok sl => rw [laidT_ok hp] at h; exact laidT_may l _ x (m.fill p.2 (place_spot hp)) h
end Go.Proofs.Hc
namespace Go.Proofs.Hc
open Go.RowKit
attribute [local go_sem] zbv zcb zba zbf zbr zbd zbq zbs zbx signed64 signed8 zap BitVec.ofInt_add BitVec.ofInt_mul ofInt_sub' zbb zbc wide8 eqN neN zca shr1 shr7 shr56
attribute [local go_sem high] zbe zbw
attribute [local go_sem] zaw zby zaj zas zae zay zar zak zbn zam zax zaz
attribute [local go_sem] load26 load73 load23 store26 build73
attribute [local go_sem ↓] lrow26 lrow73 lrow23 srow26 zero26 brow73 zac zbk zbg zaa zab
attribute [local go_sem] zai zav zau zbj zbl zbo zaq zat zbp zbi zbh
attribute [local go_sem] nn2 nm2 nn3 nm3 nn4 nm4 nn5 nm5 nn6 nm6 nn7 nm7 nn8 nm8
section
attribute [local go_sem] loadA loadT2 storeA storeT2 buildA_ts buildA_sm zdj make_func zdf zcd acells_get zda acells_one t2cells_one zcz acells_all t2cells_all t2cells_l t2cells_r
attribute [local go_sem ↓] lrowA lrowT2 srowA srowT2 browA zeroA_run zeroT2_run
attribute [local go_sem] Oper.semAt_some zao zbt
attribute [local go_sem] box26 zcc cell0 cell1 cell2 cell3 cell4 zcn zcm
attribute [local go_sem] cell5 cell6 acells_idx zcz build_zero
attribute [local go_sem high] zco laidAt_a laidAt_t2
attribute [local go_sem ↓] brow26
theorem t2cells_idx (a : T2) (i : Nat) (h : i < (t2cells a).size) : (t2cells a)[i] = if i < 39 then a.l.cell i else a.r.cell (i - 39) := by simp [t2cells]
attribute [local go_sem] t2cells_idx
end
section
attribute [local go_sem] loadA loadT2 storeA storeT2 buildA_ts buildA_sm zdj make_func zdf zcd acells_get zda acells_one t2cells_one zcz acells_all t2cells_all t2cells_l t2cells_r
attribute [local go_sem ↓] lrowA lrowT2 srowA srowT2 browA zeroA_run zeroT2_run
attribute [local go_sem] Oper.semAt_some zao zbt
attribute [local go_sem] box26 zcc cell0 cell1 cell2 cell3 cell4 zcn zcm
attribute [local go_sem] cell5 cell6 t2cells_idx
attribute [local go_sem] loadP storeP allOne_pair
attribute [local go_sem ↓] lrowP srowP zeroP
attribute [local go_sem high] zco laidAt_a laidAt_t2 laidAt_p
theorem brow35 (ps : Array (Nat × Value)) : Instr.build 35 ps = buildRow 35 ps := rfl
theorem build_zero2 (w : World) : (buildRow 35 #[]).run Tryz.prog w = .ok (.agg (t2cells zeroT2)) w := by kernel_rfl
theorem eql_zero2 (w : World) : (binOp .eql 35 (.agg (t2cells zeroT2)) (.agg (t2cells zeroT2))).run Tryz.prog w = .ok (.bool true) w := by kernel_rfl
theorem guard35 (x y : Operand) (xs ys : Array Value) (w : World) : (eqGuard .eql 35 x y (.agg xs) (.agg ys)).run Tryz.prog w = .ok () w := run_eqGuard_agg w .eql 35 x y xs ys (by kernel_rfl)
attribute [local go_sem high] eql_zero2 guard35
attribute [local go_sem] build_zero2
attribute [local go_sem ↓] brow35
theorem index35_0 (a : T2) (w : World) : (Instr.index 35 (.agg (t2cells a)) (.int .i64 0)).run Tryz.prog w = .ok (.agg (tcells a.l)) w := by kernel_rfl
theorem index35_1 (a : T2) (w : World) : (Instr.index 35 (.agg (t2cells a)) (.int .i64 1)).run Tryz.prog w = .ok (.agg (tcells a.r)) w := by kernel_rfl
attribute [local go_sem high] index35_0 index35_1
end
end Go.Proofs.Hc
