/- Package table: Put. -/
import Derived.Test.YtcikopeddljgkaaGreatJHdi
set_option linter.unusedSimpArgs false
set_option linter.unusedVariables false
namespace Go.Proofs.Hc
open Go.RowKit
attribute [local go_sem] zbu zcc zax zbf zbo zbd zbn zbp zbw signed64 signed8 zap BitVec.ofInt_add BitVec.ofInt_mul ofInt_sub' zbb zbc wide8 eqN neN zca shr1 shr7 shr56
attribute [local go_sem high] zbe zbv
attribute [local go_sem] zaw zby zaj zas zaf zaz zar zak zbm zal zay zba
attribute [local go_sem] load26 load73 load23 store26 build73
attribute [local go_sem ↓] lrow26 lrow73 lrow23 srow26 zero26 brow73 zae zbk zbg zaa zab
attribute [local go_sem] zai zav zat zbj zbl zbr zaq zau zbs zbi zbh
attribute [local go_sem] nn2 nm2 nn3 nm3 nn4 nm4 nn5 nm5 nn6 nm6 nn7 nm7 nn8 nm8
section
attribute [local go_sem] loadA loadT2 storeA storeT2 buildA_ts buildA_sm zdd make_func zda zcd acells_get zcz acells_one t2cells_one zcy acells_all t2cells_all t2cells_l t2cells_r
attribute [local go_sem ↓] lrowA lrowT2 srowA srowT2 browA zeroA_run zeroT2_run
attribute [local go_sem] Oper.semAt_some zao zbq
attribute [local go_sem] box26 zcb cell0 cell1 cell2 cell3 cell4 zcn zcm
attribute [local go_sem] cell5 cell6 acells_idx zcy
attribute [local go_sem high] zco laidAt_a
def putV (r : Except Int At) : Value := match r with
  | .ok y => .tuple #[.agg (tcells y.t), I y.slot, I 0]
  | .error c => .tuple #[.agg (tcells zeroT), I 0, I c]
theorem results_c0tt {P : Program} {fn : Func} {p q r : Tmp} {T1 : TypeId} (h : fn.results = #[.cell p T1, .tmp q, .tmp r]) (tmps : Array Value) (a : Addr) (w : World) {x y z : Value}
    (hp : tmps.getD p undef = .pointer (some a)) (hq : tmps.getD q undef = y) (hr : tmps.getD r undef = z) (h1 : (loadVar T1 a).run P w = .ok x w) :
    (results fn tmps).run P w = .ok (.tuple #[x, y, z]) w := by
  have hp' : tmps[p]?.getD undef = .pointer (some a) := by simpa using hp
  have hq' : tmps[q]?.getD undef = y := by simpa using hq
  have hr' : tmps[r]?.getD undef = z := by simpa using hr
  simp [results, h, hp', hq', hr', asAddr, h1]
end
section
attribute [local go_sem] loadA loadT2 storeA storeT2 buildA_ts buildA_sm zdd make_func zda zcd acells_get zcz acells_one t2cells_one zcy acells_all t2cells_all t2cells_l t2cells_r
attribute [local go_sem ↓] lrowA lrowT2 srowA srowT2 browA zeroA_run zeroT2_run
attribute [local go_sem] Oper.semAt_some zao zbq
attribute [local go_sem] box26 zcb cell0 cell1 cell2 cell3 cell4 zcn zcm
attribute [local go_sem] cell5 cell6
attribute [local go_sem] loadP storeP allOne_pair
attribute [local go_sem ↓] lrowP srowP zeroP
attribute [local go_sem high] zco laidAt_p
def halfB (t : Tab) (i : Nat) : Tab := bareT 0#64 (t.depth + 1) (2#64 * t.pre + BitVec.ofNat 64 i)
def goesH (t : Tab) (s : BitVec 64) (i : Nat) (p : BitVec 64 × BitVec 64) : Bool := hasT (halfB t i) (hashOf s p.1)
def halfL (t : Tab) (s : BitVec 64) (i : Nat) : List (BitVec 64 × BitVec 64) := (pairsT t).filter (goesH t s i)
theorem laidAt_t2 (a b : T2) (T : TypeId) (fr : Nat × Nat) : laidAt 0 (t2cells b) (.cells (t2cells a) T fr) = .cells (t2cells b) T fr := by
  rw [zak, laid_whole _ _ (by rw [zcd, zcd])]
attribute [local go_sem high] laidAt_t2
theorem laid_l (a : T2) (x : Tab) (T : TypeId) (fr : Nat × Nat) : laidAt 0 (tcells x) (.cells (t2cells a) T fr) = .cells (t2cells ⟨x, a.r⟩) T fr := by
  rw [zak]
  refine congrArg (fun c => Obj.cells c T fr) ?_
  have h0 : (t2cells a).extract 0 0 = #[] := by apply Array.eq_empty_of_size_eq_zero; simp
  rw [h0, Array.empty_append, zai, zcd]
  apply Array.ext_getElem?; intro i
  rw [Array.getElem?_append, zai, zcz, zat, Array.getElem?_extract, zcz, zcd]
  by_cases h : i < 39
  · simp [h, show i < 78 by omega]
  · simp only [h, if_false]
    by_cases h2 : i < 78
    · rw [if_pos (by omega), if_pos (by omega), if_pos h2, if_neg (by omega), show 0 + 39 + (i - 39) = i by omega]
    · rw [if_neg (by omega), if_neg h2]
theorem laid_r (a : T2) (x : Tab) (T : TypeId) (fr : Nat × Nat) : laidAt 39 (tcells x) (.cells (t2cells a) T fr) = .cells (t2cells ⟨a.l, x⟩) T fr := by
  rw [zak]
  refine congrArg (fun c => Obj.cells c T fr) ?_
  have h0 : (t2cells a).extract (39 + (tcells x).size) (t2cells a).size = #[] := by apply Array.eq_empty_of_size_eq_zero; simp [zai, zcd]
  have h1 : (t2cells a).extract 0 39 = tcells a.l := t2cells_l a
  rw [h0, Array.append_empty, h1]
  apply Array.ext_getElem?; intro i
  rw [Array.getElem?_append, zai, zcz, zat, zat]
  by_cases h : i < 39
  · simp [h, show i < 78 by omega]
  · simp only [h, if_false]
    by_cases h2 : i < 78
    · rw [if_pos (by omega), if_pos h2]
    · rw [if_neg (by omega), if_neg h2]
end
end Go.Proofs.Hc
namespace Go.Proofs.Hc
open Go.RowKit
def Clean (t : Tab) : Prop := ∀ j, j < 16 → bt t j ≠ 254#8
theorem clean_nFill {t : Tab} {s : BitVec 64} (m : May t s) (h : Clean t) : nFill t = nFull t := by
  unfold nFill nFull
  apply List.countP_congr
  intro j hj
  have hj16 : j < 16 := by simpa using hj
  rw [fillJ, fullJ, bne_iff_ne, decide_eq_true_iff]
  rcases m.ok j hj16 with e | e | e
  · exact ⟨fun _ => e, fun _ h => by rw [h] at e; exact absurd e (by decide)⟩
  · rw [e]; exact ⟨fun h => absurd rfl h, fun h => absurd h (by decide)⟩
  · exact absurd e (h j hj16)
theorem clean_can {t : Tab} {s : BitVec 64} (m : May t s) (h : Clean t) : t.can = 14 - t.live := by rw [m.can, m.live, clean_nFill m h]
theorem Clean.fill {t : Tab} (h : Clean t) (s k v : BitVec 64) (sl : Nat) : Clean (fillT t s k v sl) := by
  intro j hj
  rw [bt_fill]
  split
  · intro e
    have := hash2_lt (hashOf s k)
    rw [e] at this; exact absurd this (by decide)
  · exact h j hj
theorem bt_bare (c : BitVec 64) (d : Int) (p : BitVec 64) (j : Nat) : bt (bareT c d p) j = 128#8 := byteAt_tops _ (by omega)
theorem clean_bare (c : BitVec 64) (d : Int) (p : BitVec 64) : Clean (bareT c d p) := fun j _ => by rw [bt_bare]; decide
theorem bare_full (c : BitVec 64) (d : Int) (p : BitVec 64) (j : Nat) : fullJ (bareT c d p) j = false := by rw [fullJ, bt_bare]; decide
theorem bare_pairs (c : BitVec 64) (d : Int) (p : BitVec 64) (q : BitVec 64 × BitVec 64) : ¬ q ∈ pairsT (bareT c d p) := by
  rw [mem_pairs]
  rintro ⟨j, _, hf, _⟩
  rw [bare_full] at hf; cases hf
theorem bare_flat {c : BitVec 64} {d : Int} {p : BitVec 64} (h0 : 0 ≤ d) (h5 : d ≤ 5) (hp : N (p >>> d.toNat) = 0) : flatT (bareT c d p) = true :=
  (flatT_iff _).2 ⟨h0, h5, hp, by show (0 : Int) ≤ 14; omega, by show (14 : Int) ≤ 14; omega, by show (0 : Int) ≤ 0; omega, by show (0 : Int) ≤ 14; omega⟩
theorem bare_may {c : BitVec 64} {d : Int} {p : BitVec 64} (s : BitVec 64) (h : flatT (bareT c d p) = true) : May (bareT c d p) s := by
  have h1 : nFull (bareT c d p) = 0 := by
    unfold nFull
    rw [List.countP_eq_zero]
    intro j _
    rw [bare_full]; simp
  have h2 : nFill (bareT c d p) = 0 := by
    unfold nFill
    rw [List.countP_eq_zero]
    intro j _
    rw [fillJ, bt_bare]; decide
  refine ⟨h, fun j _ => .inr (.inl (bt_bare c d p j)), fun j _ hf => ?_, fun i j _ _ hf => ?_, ?_, ?_⟩
  · rw [bare_full] at hf; cases hf
  · rw [bare_full] at hf; cases hf
  · rw [h1]; rfl
  · rw [h2]; rfl
theorem has_fill {t : Tab} {s k v : BitVec 64} {sl : Nat} (m : May (fillT t s k v sl) s) {h : BitVec 64} (hh : hasT t h = true) : hasT (fillT t s k v sl) h = true :=
  hasT_of hh m.flat (fill_depth ..) (fill_pre ..)
structure Laid (s : BitVec 64) (t0 : Tab) (l : List (BitVec 64 × BitVec 64)) (x : Tab) : Prop where
  eq : laidT s t0 l = .ok x
  may : May x s
  clean : Clean x
  mem : ∀ q, q ∈ pairsT x ↔ q ∈ l ∨ q ∈ pairsT t0
  live : x.live = t0.live + l.length
  depth : x.depth = t0.depth
  pre : x.pre = t0.pre
  count : x.count = t0.count
theorem laid_ok {s : BitVec 64} : ∀ (l : List (BitVec 64 × BitVec 64)) (t0 : Tab), May t0 s → Clean t0 → (∀ p ∈ l, hasT t0 (hashOf s p.1) = true) → ((l.map (·.1)).Nodup) → (∀ p ∈ l, ∀ q ∈ pairsT t0, q.1 ≠ p.1) → t0.live + l.length ≤ 14 → ∃ x, Laid s t0 l x
  | [], t0, m, hc, _, _, _, _ => ⟨t0, rfl, m, hc, fun q => by simp, by simp, rfl, rfl, rfl⟩
  | p :: l, t0, m, hc, hg, hn, hd, hl => by
    have hcan := clean_can m hc
    rw [List.length_cons] at hl
    rw [List.map_cons, List.nodup_cons] at hn
    have hno : hasKT t0 p.1 = false := by
      cases h : hasKT t0 p.1 with
      | false => rfl
      | true =>
        obtain ⟨j, hj, hf, hk⟩ := (hasKT_iff t0 p.1).1 h
        exact absurd hk (hd p (by simp) (t0.k j, t0.v j) ((mem_pairs t0 _).2 ⟨j, hj, hf, rfl⟩))
    obtain ⟨sl, hsl⟩ := place_room m (by omega) (hg p (by simp)) hno
    have hsp := place_spot hsl
    have m' := m.fill p.2 hsp
    have hp' := fill_pairs p.2 hsp
    obtain ⟨x, hx⟩ := laid_ok l (fillT t0 s p.1 p.2 sl) m' (hc.fill _ _ _ _) (fun q hq => has_fill m' (hg q (by simp [hq]))) hn.2 (fun q hq r hr => by
      rcases (hp' r).1 hr with rfl | hr
      · intro e; exact hn.1 (List.mem_map.2 ⟨q, hq, e.symm⟩)
      · exact hd q (by simp [hq]) r hr) (by show t0.live + 1 + _ ≤ 14; omega)
    refine ⟨x, ?_, hx.may, hx.clean, fun q => ?_, ?_, hx.depth.trans (fill_depth ..), hx.pre.trans (fill_pre ..), hx.count.trans (fill_count ..)⟩
    · rw [laidT_ok hsl]; exact hx.eq
    · rw [hx.mem q, hp' q, List.mem_cons]
      constructor
      · rintro (h | h | h)
        · exact .inl (.inr h)
        · exact .inl (.inl h)
        · exact .inr h
      · rintro ((h | h) | h)
        · exact .inr (.inl h)
        · exact .inl h
        · exact .inr (.inr h)
    · rw [hx.live]; show t0.live + 1 + (l.length : Int) = _; rw [List.length_cons]; omega
theorem topT_nat (h : BitVec 64) (d : Int) (h0 : 0 ≤ d) (h5 : d ≤ 63) : (topT h d).toNat = h.toNat / 2 ^ (64 - d.toNat) := by
  unfold topT
  rw [BitVec.toNat_ushiftRight, BitVec.toNat_ushiftRight, Nat.shiftRight_eq_div_pow, Nat.shiftRight_eq_div_pow, Nat.div_div_eq_div_mul, ← Nat.pow_add, show 1 + (63 - d).toNat = 64 - d.toNat by omega]
theorem top_half (h : BitVec 64) (d : Int) (h0 : 0 ≤ d) (h5 : d < 5) : (topT h d).toNat = (topT h (d + 1)).toNat / 2 := by
  rw [topT_nat h d h0 (by omega), topT_nat h (d + 1) (by omega) (by omega), Nat.div_div_eq_div_mul, show 64 - d.toNat = (64 - (d + 1).toNat) + 1 by omega, Nat.pow_succ]
theorem pre_lt {t : Tab} (h : flatT t = true) : t.pre.toNat < 2 ^ t.depth.toNat := by
  obtain ⟨_, _, hp, _⟩ := (flatT_iff t).1 h
  unfold N at hp
  rw [BitVec.toNat_ushiftRight, Nat.shiftRight_eq_div_pow] at hp
  have h2 := (Nat.div_eq_zero_iff).1 (show t.pre.toNat / 2 ^ t.depth.toNat = 0 by omega)
  have := Nat.two_pow_pos t.depth.toNat
  omega
theorem half_pre {t : Tab} (h : flatT t = true) (hd : t.depth < 5) (i : Nat) (hi : i < 2) : (2#64 * t.pre + BitVec.ofNat 64 i).toNat = 2 * t.pre.toNat + i := by
  have h1 := pre_lt h
  have h2 : 2 ^ t.depth.toNat ≤ 2 ^ 5 := Nat.pow_le_pow_right (by omega) (by omega)
  rw [BitVec.toNat_add, BitVec.toNat_mul, BitVec.toNat_ofNat, BitVec.toNat_ofNat]
  omega
theorem half_flat {t : Tab} (h : flatT t = true) (hd : t.depth < 5) (i : Nat) (hi : i < 2) : flatT (halfB t i) = true := by
  obtain ⟨h0, _⟩ := (flatT_iff t).1 h
  refine bare_flat (by omega) (by omega) ?_
  unfold N
  rw [BitVec.toNat_ushiftRight, Nat.shiftRight_eq_div_pow, half_pre h hd i hi]
  have h1 := pre_lt h
  have h2 : 2 ^ (t.depth + 1).toNat = 2 ^ t.depth.toNat * 2 := by rw [show (t.depth + 1).toNat = t.depth.toNat + 1 by omega, Nat.pow_succ]
  rw [h2, Nat.div_eq_of_lt (by omega)]; rfl
theorem goesH_iff {t : Tab} {s : BitVec 64} (h : flatT t = true) (hd : t.depth < 5) (i : Nat) (hi : i < 2) (p : BitVec 64 × BitVec 64) : goesH t s i p = true ↔ (topT (hashOf s p.1) (t.depth + 1)).toNat = 2 * t.pre.toNat + i := by
  rw [goesH, hasT_iff, ← half_pre h hd i hi]
  constructor
  · rintro ⟨_, h2⟩; exact congrArg BitVec.toNat h2
  · intro h2; exact ⟨half_flat h hd i hi, BitVec.eq_of_toNat_eq h2⟩
theorem goes_one {t : Tab} {s : BitVec 64} (m : May t s) (hd : t.depth < 5) {p : BitVec 64 × BitVec 64} (hp : p ∈ pairsT t) : goesH t s 1 p = !goesH t s 0 p := by
  obtain ⟨j, hj, hf, rfl⟩ := (mem_pairs t p).1 hp
  obtain ⟨_, hh, _⟩ := m.slot j hj hf
  obtain ⟨h0, _⟩ := (flatT_iff t).1 m.flat
  have h1 := congrArg BitVec.toNat ((hasT_iff _ _).1 hh).2
  rw [top_half _ _ h0 hd] at h1
  have e0 := goesH_iff (s := s) m.flat hd 0 (by omega) (t.k j, t.v j)
  have e1 := goesH_iff (s := s) m.flat hd 1 (by omega) (t.k j, t.v j)
  dsimp only at e0 e1
  cases h2 : goesH t s 0 (t.k j, t.v j) with
  | true =>
    have := e0.1 h2
    cases h3 : goesH t s 1 (t.k j, t.v j) with
    | true => have := e1.1 h3; omega
    | false => rfl
  | false =>
    cases h3 : goesH t s 1 (t.k j, t.v j) with
    | true => rfl
    | false =>
      exfalso
      have a0 : ¬ (topT (hashOf s (t.k j)) (t.depth + 1)).toNat = 2 * t.pre.toNat + 0 := fun e => by rw [e0.2 e] at h2; cases h2
      have a1 : ¬ (topT (hashOf s (t.k j)) (t.depth + 1)).toNat = 2 * t.pre.toNat + 1 := fun e => by rw [e1.2 e] at h3; cases h3
      omega
theorem live_le {t : Tab} {s : BitVec 64} (m : May t s) : ((pairsT t).length : Int) ≤ 14 := by
  rw [m.len]; exact ((flatT_iff t).1 m.flat).2.2.2.2.2.2
theorem half_ok {t : Tab} {s : BitVec 64} (m : May t s) (hd : t.depth < 5) (i : Nat) (hi : i < 2) : ∃ x, Laid s (halfB t i) (halfL t s i) x := by
  have hfl := half_flat m.flat hd i hi
  refine laid_ok _ _ (bare_may s hfl) (clean_bare _ _ _) (fun p hp => (List.mem_filter.1 hp).2) ?_ (fun p _ q hq => absurd hq (bare_pairs _ _ _ q)) ?_
  · exact (List.Sublist.map _ List.filter_sublist).nodup m.keys
  · show (0 : Int) + _ ≤ 14
    have := live_le m
    have h2 : (halfL t s i).length ≤ (pairsT t).length := List.length_filter_le _ _
    omega
end Go.Proofs.Hc
namespace Go.Proofs.Hc
open Go.RowKit
attribute [local go_sem] zbu zcc zax zbf zbo zbd zbn zbp zbw signed64 signed8 zap BitVec.ofInt_add BitVec.ofInt_mul ofInt_sub' zbb zbc wide8 eqN neN zca shr1 shr7 shr56
attribute [local go_sem high] zbe zbv
attribute [local go_sem] zaw zby zaj zas zaf zaz zar zak zbm zal zay zba
attribute [local go_sem] load26 load73 load23 store26 build73
attribute [local go_sem ↓] lrow26 lrow73 lrow23 srow26 zero26 brow73 zae zbk zbg zaa zab
attribute [local go_sem] zai zav zat zbj zbl zbr zaq zau zbs zbi zbh
attribute [local go_sem] nn2 nm2 nn3 nm3 nn4 nm4 nn5 nm5 nn6 nm6 nn7 nm7 nn8 nm8
section
attribute [local go_sem] loadA loadT2 storeA storeT2 buildA_ts buildA_sm zdd make_func zda zcd acells_get zcz acells_one t2cells_one zcy acells_all t2cells_all t2cells_l t2cells_r
attribute [local go_sem ↓] lrowA lrowT2 srowA srowT2 browA zeroA_run zeroT2_run
attribute [local go_sem] Oper.semAt_some zao zbq
attribute [local go_sem] box26 zcb cell0 cell1 cell2 cell3 cell4 zcn zcm
attribute [local go_sem] cell5 cell6 acells_idx zcy
attribute [local go_sem high] zco laidAt_a laidAt_t2
def okOr : Except Int Tab → Tab
  | .ok x => x
  | .error _ => zeroT
theorem okOr_ok (x : Tab) : okOr (.ok x) = x := rfl
def halfX (t : Tab) (s : BitVec 64) (i : Nat) : Tab := okOr (laidT s (halfB t i) (halfL t s i))
theorem halfX_def (t : Tab) (s : BitVec 64) (i : Nat) : halfX t s i = okOr (laidT s (halfB t i) (halfL t s i)) := by rw [halfX]
theorem halfX_laid {t : Tab} {s : BitVec 64} (m : May t s) (hd : t.depth < 5) (i : Nat) (hi : i < 2) : Laid s (halfB t i) (halfL t s i) (halfX t s i) := by
  obtain ⟨x, hx⟩ := half_ok m hd i hi
  have e : halfX t s i = x := by rw [halfX_def, hx.eq, okOr_ok]
  rw [e]; exact hx
theorem halfX_eq {t : Tab} {s : BitVec 64} (hm : mayT t s = true) (hd : t.depth < 5) (i : Nat) (hi : i < 2) : laidT s (halfB t i) (halfL t s i) = .ok (halfX t s i) := (halfX_laid ((may_iff t s).1 hm) hd i hi).eq
end
section
attribute [local go_sem] loadA loadT2 storeA storeT2 buildA_ts buildA_sm zdd make_func zda zcd acells_get zcz acells_one t2cells_one zcy acells_all t2cells_all t2cells_l t2cells_r
attribute [local go_sem ↓] lrowA lrowT2 srowA srowT2 browA zeroA_run zeroT2_run
attribute [local go_sem] Oper.semAt_some zao zbq
attribute [local go_sem] box26 zcb cell0 cell1 cell2 cell3 cell4 zcn zcm
attribute [local go_sem] cell5 cell6 acells_idx zcy build_zero
attribute [local go_sem high] zco laidAt_a laidAt_t2
attribute [local go_sem ↓] brow26
theorem t2cells_idx (a : T2) (i : Nat) (h : i < (t2cells a).size) : (t2cells a)[i] = if i < 39 then a.l.cell i else a.r.cell (i - 39) := by simp [t2cells]
attribute [local go_sem] t2cells_idx
end
section
attribute [local go_sem] loadA loadT2 storeA storeT2 buildA_ts buildA_sm zdd make_func zda zcd acells_get zcz acells_one t2cells_one zcy acells_all t2cells_all t2cells_l t2cells_r
attribute [local go_sem ↓] lrowA lrowT2 srowA srowT2 browA zeroA_run zeroT2_run
attribute [local go_sem] Oper.semAt_some zao zbq
attribute [local go_sem] box26 zcb cell0 cell1 cell2 cell3 cell4 zcn zcm
attribute [local go_sem] cell5 cell6 t2cells_idx
attribute [local go_sem] loadP storeP allOne_pair
attribute [local go_sem ↓] lrowP srowP zeroP
attribute [local go_sem high] zco laidAt_a laidAt_t2 laidAt_p
theorem brow35 (ps : Array (Nat × Value)) : Instr.build 35 ps = buildRow 35 ps := rfl
theorem build_zero2 (w : World) : (buildRow 35 #[]).run Tryz.prog w = .ok (.agg (t2cells zeroT2)) w := by kernel_rfl
theorem eql_zero2 (w : World) : (binOp .eql 35 (.agg (t2cells zeroT2)) (.agg (t2cells zeroT2))).run Tryz.prog w = .ok (.bool true) w := by kernel_rfl
theorem guard35 (x y : Operand) (xs ys : Array Value) (w : World) : (eqGuard .eql 35 x y (.agg xs) (.agg ys)).run Tryz.prog w = .ok () w := run_eqGuard_agg w .eql 35 x y xs ys (by kernel_rfl)
attribute [local go_sem high] eql_zero2 guard35
attribute [local go_sem] build_zero2
attribute [local go_sem ↓] brow35
theorem index35_0 (a : T2) (w : World) : (Instr.index 35 (.agg (t2cells a)) (.int .i64 0)).run Tryz.prog w = .ok (.agg (tcells a.l)) w := by kernel_rfl
theorem index35_1 (a : T2) (w : World) : (Instr.index 35 (.agg (t2cells a)) (.int .i64 1)).run Tryz.prog w = .ok (.agg (tcells a.r)) w := by kernel_rfl
attribute [local go_sem high] index35_0 index35_1
end
end Go.Proofs.Hc
