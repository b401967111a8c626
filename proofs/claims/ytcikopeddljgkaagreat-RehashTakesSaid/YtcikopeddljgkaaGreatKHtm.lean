/- Package table: Put. -/
import Derived.Test.YtcikopeddljgkaaGreatKHwk
import Derived.Test.YtcikopeddljgkaaGreatK0
set_option linter.unusedSimpArgs false
set_option linter.unusedVariables false
set_option maxHeartbeats 1000000
set_option maxRecDepth 100000
namespace Go.Proofs.Hc
open Go.RowKit
attribute [local go_sem] zbs zca zax zbc zbn zba zbm zbo zbu signed64 signed8 zar BitVec.ofInt_add BitVec.ofInt_mul ofInt_sub' zay zaz wide8 eqN neN zbz shr1 shr7 shr56
attribute [local go_sem high] zbb zbt
attribute [local go_sem] zag zbw zah zas zad zbe zaq zal zbl zan zbd zbf
attribute [local go_sem] load26 load73 load23 store26 build73
attribute [local go_sem ↓] lrow26 lrow73 lrow23 srow26 zero26 brow73 zac zaw zbg zaa zab
attribute [local go_sem] zai zav zat zbj zbk zbp zao zau zbq zbi zbh
attribute [local go_sem] nn2 nm2 nn3 nm3 nn4 nm4 nn5 nm5 nn6 nm6 nn7 nm7 nn8 nm8
section
attribute [local go_sem] loadA loadT2 storeA storeT2 zdj zdk zcj zdi zcd zce zct zcl zcy zco zcg zcz zcp zdh zdg
attribute [local go_sem ↓] lrowA lrowT2 srowA srowT2 browA zdf zcx
attribute [local go_sem] Oper.semAt_some zap zby
attribute [local go_sem] box26 zbx cell0 cell1 cell2 cell3 cell4 zci zch
attribute [local go_sem] cell5 cell6 acells_idx zcg
attribute [local go_sem high] zcb laidAt_a
def putV (r : Except Int At) : Value := match r with
  | .ok y => .tuple #[.agg (tcells y.t), I y.slot, I 0]
  | .error c => .tuple #[.agg (tcells zeroT), I 0, I c]
theorem put_cases (r : Except Int At) : ∃ (y : At) (c : Int), tupOr (fun v => Value.agg (acells v)) (.agg (acells zeroA)) r = .tuple #[.agg (acells y), I c] ∧ putV r = .tuple #[.agg (tcells y.t), I y.slot, I c] := by
  cases r with
  | error c => exact ⟨zeroA, c, rfl, rfl⟩
  | ok y => exact ⟨y, 0, rfl, rfl⟩
theorem results_c0tt {P : Program} {fn : Func} {p q r : Tmp} {T1 : TypeId} (h : fn.results = #[.cell p T1, .tmp q, .tmp r]) (tmps : Array Value) (a : Addr) (w : World) {x y z : Value}
    (hp : tmps.getD p undef = .pointer (some a)) (hq : tmps.getD q undef = y) (hr : tmps.getD r undef = z) (h1 : (loadVar T1 a).run P w = .ok x w) :
    (results fn tmps).run P w = .ok (.tuple #[x, y, z]) w := by
  have hp' : tmps[p]?.getD undef = .pointer (some a) := by simpa using hp
  have hq' : tmps[q]?.getD undef = y := by simpa using hq
  have hr' : tmps[r]?.getD undef = z := by simpa using hr
  simp [results, h, hp', hq', hr', asAddr, h1]
end
end Go.Proofs.Hc
namespace Go.Proofs.Hc
open Go.RowKit
def goneC (t : Tab) (j : Nat) : BitVec 64 := withB (t.c (j / 8)) (j % 8) (gone (t.c (j / 8)))
def dropT (t : Tab) (j : Nat) : Tab := { t with c := fun i => if i = j / 8 then goneC t j else t.c i, can := if emptyM (goneC t j) != 0#8 then t.can + 1 else t.can, live := t.live - 1 }
def dropE (t : Tab) (s k : BitVec 64) : Except Int At := (foundE t s k).map fun y => ⟨dropT t y.1, y.1, 0⟩
theorem mk_depth (a : BitVec 64) (b : Int) (c : BitVec 64) (d e : Int) (f g h : Nat → BitVec 64) : (Tab.mk a b c d e f g h).depth = b := rfl
theorem mk_pre (a : BitVec 64) (b : Int) (c : BitVec 64) (d e : Int) (f g h : Nat → BitVec 64) : (Tab.mk a b c d e f g h).pre = c := rfl
theorem mk_count (a : BitVec 64) (b : Int) (c : BitVec 64) (d e : Int) (f g h : Nat → BitVec 64) : (Tab.mk a b c d e f g h).count = a := rfl
theorem fill_depth (t : Tab) (s k v : BitVec 64) (sl : Nat) : (fillT t s k v sl).depth = t.depth := by unfold fillT; exact mk_depth _ _ _ _ _ _ _ _
theorem fill_pre (t : Tab) (s k v : BitVec 64) (sl : Nat) : (fillT t s k v sl).pre = t.pre := by unfold fillT; exact mk_pre _ _ _ _ _ _ _ _
theorem fill_count (t : Tab) (s k v : BitVec 64) (sl : Nat) : (fillT t s k v sl).count = t.count := by unfold fillT; exact mk_count _ _ _ _ _ _ _ _
theorem bt_with (t t' : Tab) (sl : Nat) (b : BitVec 8) (hc : t'.c = fun i => if i = sl / 8 then withB (t.c (sl / 8)) (sl % 8) b else t.c i) (j : Nat) : bt t' j = if j = sl then b else bt t j := by
  unfold bt
  rw [hc]
  dsimp only
  by_cases h : j / 8 = sl / 8
  · rw [if_pos h, byteAt_withB _ _ _ _ (by omega) (by omega), h]
    by_cases h2 : j % 8 = sl % 8
    · rw [if_pos h2, if_pos (by omega)]
    · rw [if_neg h2, if_neg (by intro e; rw [e] at h2; exact h2 rfl)]
  · rw [if_neg h, if_neg (by intro e; rw [e] at h; exact h rfl)]
theorem bt_fill (t : Tab) (s k v : BitVec 64) (sl j : Nat) : bt (fillT t s k v sl) j = if j = sl then hash2 (hashOf s k) else bt t j := bt_with t _ sl _ rfl j
theorem flatT_iff (t : Tab) : flatT t = true ↔ 0 ≤ t.depth ∧ t.depth ≤ 5 ∧ N (t.pre >>> t.depth.toNat) = 0 ∧ 0 ≤ t.can ∧ t.can ≤ 14 ∧ 0 ≤ t.live ∧ t.live ≤ 14 := by
  rw [flatT]
  simp only [Bool.and_eq_true, decide_eq_true_iff, beq_iff_eq]
  constructor
  · rintro ⟨⟨⟨⟨a, b⟩, c⟩, d, e⟩, f, g⟩; exact ⟨a, b, c, d, e, f, g⟩
  · rintro ⟨a, b, c, d, e, f, g⟩; exact ⟨⟨⟨⟨a, b⟩, c⟩, d, e⟩, f, g⟩
theorem flatT_of {t t' : Tab} (h : flatT t = true) (hd : t'.depth = t.depth) (hp : t'.pre = t.pre) (h1 : 0 ≤ t'.can) (h2 : t'.can ≤ 14) (h3 : 0 ≤ t'.live) (h4 : t'.live ≤ 14) : flatT t' = true := by
  obtain ⟨a, b, c, _⟩ := (flatT_iff t).1 h
  refine (flatT_iff t').2 ⟨?_, ?_, ?_, h1, h2, h3, h4⟩ <;> rw [hd]
  · exact a
  · exact b
  · rw [hp]; exact c
theorem hasT_iff (t : Tab) (h : BitVec 64) : hasT t h = true ↔ flatT t = true ∧ topT h t.depth = t.pre := by rw [hasT, Bool.and_eq_true, beq_iff_eq]
theorem hasT_of {t t' : Tab} {h : BitVec 64} (hh : hasT t h = true) (hf : flatT t' = true) (hd : t'.depth = t.depth) (hp : t'.pre = t.pre) : hasT t' h = true :=
  (hasT_iff t' h).2 ⟨hf, by rw [hd, hp]; exact ((hasT_iff t h).1 hh).2⟩
theorem full_of_h2 {t : Tab} {j : Nat} {h : BitVec 64} (e : bt t j = hash2 h) : fullJ t j = true := by
  rw [fullJ, e]; simpa using hash2_lt h
theorem free_iff (t : Tab) (g x : Nat) (hx : x < 8) : (freeM (t.c g)).getLsbD x = true ↔ bt t (8 * g + x) = 128#8 ∨ bt t (8 * g + x) = 254#8 := by
  rw [free_byte _ _ hx, bt_at t g x hx, Bool.or_eq_true, beq_iff_eq, beq_iff_eq]
structure Spot (t : Tab) (s k : BitVec 64) (sl : Nat) : Prop where
  lt : sl < 16
  free : bt t sl = 128#8 ∨ bt t sl = 254#8
  row : sl / 8 ∈ rowT t s k
  goes : hasT t (hashOf s k) = true
  not : ∀ j, j < 16 → fullJ t j = true → t.k j ≠ k
  can : bt t sl = 128#8 → 0 < t.can
theorem place_spot {t : Tab} {s k : BitVec 64} {sl : Nat} (h : placeT t s k = .ok sl) : Spot t s k sl := by
  obtain ⟨g, x, rfl, hg, hx, hr, -, hf, hgo, hn, hd⟩ := place_ok h
  refine ⟨by omega, (free_iff t g x hx).1 hf, by rw [show (8 * g + x) / 8 = g by omega]; exact hr, hgo, fun j hj hfj hk => ?_, fun he => ?_⟩
  · have := (hasKT_iff t k).2 ⟨j, hj, hfj, hk⟩
    rw [hn] at this; cases this
  · rcases hd with hd | hd
    · exfalso
      rw [bne_iff_ne, ne_eq, and_lane _ x hx, delM_bit _ x hx, ← bt_at t g x hx, he] at hd
      exact hd (by decide)
    · exact hd
theorem Spot.notfull {t : Tab} {s k : BitVec 64} {sl : Nat} (h : Spot t s k sl) : fullJ t sl = false := by
  rw [fullJ]
  rcases h.free with e | e <;> rw [e] <;> decide
theorem fill_full {t : Tab} (s k v : BitVec 64) (sl j : Nat) : fullJ (fillT t s k v sl) j = if j = sl then true else fullJ t j := by
  rw [fullJ, bt_fill]
  by_cases h : j = sl
  · rw [if_pos h, if_pos h]; simpa using hash2_lt (hashOf s k)
  · rw [if_neg h, if_neg h, fullJ]
theorem fill_fill {t : Tab} (s k v : BitVec 64) (sl j : Nat) : fillJ (fillT t s k v sl) j = if j = sl then true else fillJ t j := by
  rw [fillJ, bt_fill]
  by_cases h : j = sl
  · rw [if_pos h, if_pos h, bne_iff_ne]
    intro e
    have := hash2_lt (hashOf s k)
    rw [e] at this; exact absurd this (by decide)
  · rw [if_neg h, if_neg h, fillJ]
theorem fill_nFull {t : Tab} {s k : BitVec 64} {sl : Nat} (v : BitVec 64) (h : Spot t s k sl) : nFull (fillT t s k v sl) = nFull t + 1 := by
  have := countP_upd (fullJ t) (fullJ (fillT t s k v sl)) sl 16 (fun j hj => by rw [fill_full, if_neg hj])
  rw [h.notfull, fill_full, if_pos rfl, if_neg (by simp), if_pos ⟨h.lt, rfl⟩] at this
  unfold nFull
  exact this
theorem fill_nFill {t : Tab} {s k : BitVec 64} {sl : Nat} (v : BitVec 64) (h : Spot t s k sl) : nFill (fillT t s k v sl) = nFill t + if bt t sl = 128#8 then 1 else 0 := by
  have := countP_upd (fillJ t) (fillJ (fillT t s k v sl)) sl 16 (fun j hj => by rw [fill_fill, if_neg hj])
  rw [fill_fill, if_pos rfl, if_pos (show sl < 16 ∧ true = true from ⟨h.lt, rfl⟩)] at this
  have hlt := h.lt
  unfold nFill
  rcases h.free with e | e
  · rw [if_pos e]
    rw [if_neg (by rw [fillJ, e]; simp)] at this
    exact this
  · rw [if_neg (by rw [e]; decide)]
    rw [if_pos (by rw [fillJ, e]; exact ⟨hlt, by decide⟩)] at this
    omega
theorem fill_can {t : Tab} {s k : BitVec 64} {sl : Nat} (v : BitVec 64) : (fillT t s k v sl).can = if bt t sl = 128#8 then t.can - 1 else t.can := by
  show (if emptyM (t.c (sl / 8)) &&& laneM (sl % 8) != 0#8 then t.can - 1 else t.can) = _
  have e : (emptyM (t.c (sl / 8)) &&& laneM (sl % 8) != 0#8) = true ↔ bt t sl = 128#8 := by
    rw [bne_iff_ne, ne_eq, and_lane _ _ (by omega), emptyM_bit _ _ (by omega)]
    show ¬ (bt t sl == 128#8) = false ↔ _
    simp
  by_cases h : bt t sl = 128#8
  · rw [if_pos (e.2 h), if_pos h]
  · rw [if_neg (fun h2 => h (e.1 h2)), if_neg h]
theorem fill_hasE {t : Tab} {s k : BitVec 64} {sl : Nat} (v : BitVec 64) (g : Nat) (h : hasE (fillT t s k v sl) g = true) : hasE t g = true := by
  rw [hasE_iff] at h ⊢
  obtain ⟨x, hx, hb⟩ := h
  rw [bt_fill] at hb
  by_cases he : 8 * g + x = sl
  · rw [if_pos he] at hb
    have := hash2_lt (hashOf s k)
    rw [hb] at this; exact absurd this (by decide)
  · rw [if_neg he] at hb; exact ⟨x, hx, hb⟩
theorem May.fill {t : Tab} {s k : BitVec 64} {sl : Nat} (m : May t s) (v : BitVec 64) (h : Spot t s k sl) : May (fillT t s k v sl) s := by
  have hlt := h.lt
  have hnF := fill_nFull v h
  have hnf := fill_nFill v h
  have hcan := fill_can (t := t) (s := s) (k := k) (sl := sl) v
  have hcan' : (fillT t s k v sl).can = 14 - (nFill (fillT t s k v sl) : Int) := by
    rw [hcan, hnf, m.can]
    split
    · rw [show ((nFill t + 1 : Nat) : Int) = (nFill t : Int) + 1 by omega]; omega
    · rw [Nat.add_zero]
  have hlive' : (fillT t s k v sl).live = (nFull (fillT t s k v sl) : Int) := by
    rw [hnF]; show t.live + 1 = _; rw [m.live]; omega
  have hfl : flatT (fillT t s k v sl) = true := by
    obtain ⟨a, b, c, d, e, f, g⟩ := (flatT_iff t).1 m.flat
    have hle := nFull_le (fillT t s k v sl)
    have hc0 : 0 ≤ (fillT t s k v sl).can := by
      rw [hcan]
      split
      · have := h.can ‹_›; omega
      · exact d
    refine flatT_of m.flat (fill_depth ..) (fill_pre ..) hc0 ?_ ?_ ?_
    · rw [hcan']; clear hcan hcan' hnF hnf hlive' hc0; omega
    · rw [hlive']; clear hcan hcan' hnF hnf hlive' hc0; omega
    · rw [hlive']; rw [hcan'] at hc0; clear hcan hcan' hnF hnf hlive' f g d e; omega
  have hgoes : ∀ x, hasT t x = true → hasT (fillT t s k v sl) x = true := fun x hx => hasT_of hx hfl (fill_depth ..) (fill_pre ..)
  refine ⟨hfl, fun j hj => ?_, fun j hj hf => ?_, fun i j hi hj hfi hfj hk => ?_, hlive', hcan'⟩
  · rw [bt_fill]
    by_cases e : j = sl
    · rw [if_pos e]; exact .inl (hash2_lt _)
    · rw [if_neg e]; exact m.ok j hj
  · by_cases e : j = sl
    · have hk : (fillT t s k v sl).k j = k := by show (if j = sl then k else t.k j) = k; rw [if_pos e]
      rw [hk, bt_fill, if_pos e]
      exact ⟨rfl, hgoes _ h.goes, by rw [e]; exact row_mono (fun i _ => fill_hasE v i) h.row⟩
    · have hk : (fillT t s k v sl).k j = t.k j := by show (if j = sl then k else t.k j) = _; rw [if_neg e]
      rw [fill_full, if_neg e] at hf
      obtain ⟨a, b, c⟩ := m.slot j hj hf
      rw [hk, bt_fill, if_neg e]
      exact ⟨a, hgoes _ b, row_mono (fun i _ => fill_hasE v i) c⟩
  · change (if i = sl then k else t.k i) = (if j = sl then k else t.k j) at hk
    rw [fill_full] at hfi hfj
    by_cases ei : i = sl
    · by_cases ej : j = sl
      · omega
      · rw [if_pos ei, if_neg ej] at hk
        rw [if_neg ej] at hfj
        exact absurd hk.symm (h.not j hj hfj)
    · rw [if_neg ei] at hk hfi
      by_cases ej : j = sl
      · rw [if_pos ej] at hk
        exact absurd hk (h.not i hi hfi)
      · rw [if_neg ej] at hk hfj
        exact m.inj i j hi hj hfi hfj hk
theorem fill_pairs {t : Tab} {s k : BitVec 64} {sl : Nat} (v : BitVec 64) (h : Spot t s k sl) (p : BitVec 64 × BitVec 64) : p ∈ pairsT (fillT t s k v sl) ↔ p = (k, v) ∨ p ∈ pairsT t := by
  rw [mem_pairs, mem_pairs]
  constructor
  · rintro ⟨j, hj, hf, rfl⟩
    rw [fill_full] at hf
    have hk : (fillT t s k v sl).k j = if j = sl then k else t.k j := rfl
    have hv : (fillT t s k v sl).v j = if j = sl then v else t.v j := rfl
    rw [hk, hv]
    by_cases e : j = sl
    · rw [if_pos e, if_pos e]; exact .inl rfl
    · rw [if_neg e] at hf ⊢
      rw [if_neg e]
      exact .inr ⟨j, hj, hf, rfl⟩
  · rintro (rfl | ⟨j, hj, hf, rfl⟩)
    · refine ⟨sl, h.lt, by rw [fill_full, if_pos rfl], ?_⟩
      show _ = ((if sl = sl then k else t.k sl), (if sl = sl then v else t.v sl))
      rw [if_pos rfl, if_pos rfl]
    · have e : j ≠ sl := by rintro rfl; rw [h.notfull] at hf; cases hf
      refine ⟨j, hj, by rw [fill_full, if_neg e]; exact hf, ?_⟩
      show _ = ((if j = sl then k else t.k j), (if j = sl then v else t.v j))
      rw [if_neg e, if_neg e]
theorem scan_some (f : Nat → Bool) : ∀ (l : List Nat) (n x : Nat), x ∈ l → f x = true → ∃ y, scan f n l = some y
  | y :: l, n, x, hx, hf => by
    rw [scan]
    by_cases h : f y = true
    · rw [if_pos h]; exact ⟨_, rfl⟩
    · rw [if_neg h]
      rcases List.mem_cons.1 hx with rfl | hx
      · exact absurd hf h
      · exact scan_some f l (n + 1) x hx hf
theorem mem_cand (t : Tab) (s k : BitVec 64) (j : Nat) : j ∈ (rowT t s k).flatMap (candG t (hash2 (hashOf s k))) ↔ j / 8 ∈ rowT t s k ∧ bt t j = hash2 (hashOf s k) := by
  rw [List.mem_flatMap]
  constructor
  · rintro ⟨g, hg, hj⟩
    unfold candG at hj
    obtain ⟨x, hx, rfl⟩ := List.mem_map.1 hj
    obtain ⟨hx, hb⟩ := (mem_lanes _ _).1 hx
    rw [equalM_bit _ _ _ hx, beq_iff_eq] at hb
    rw [bt_at t g x hx, show (8 * g + x) / 8 = g by omega]
    exact ⟨hg, hb⟩
  · rintro ⟨hg, hb⟩
    refine ⟨j / 8, hg, ?_⟩
    unfold candG
    refine List.mem_map.2 ⟨j % 8, (mem_lanes _ _).2 ⟨by omega, ?_⟩, by omega⟩
    rw [equalM_bit _ _ _ (by omega), beq_iff_eq]; exact hb
theorem found_of {t : Tab} {s k : BitVec 64} {j : Nat} (m : May t s) (hj : j < 16) (hf : fullJ t j = true) (hk : t.k j = k) : ∃ n, foundE t s k = .ok (j, n) := by
  obtain ⟨a, b, c⟩ := m.slot j hj hf
  rw [hk] at a b c
  obtain ⟨y, hy⟩ := scan_some (fun x => t.k x == k) _ 0 j ((mem_cand t s k j).2 ⟨c, a⟩) (by simpa using hk)
  have hy' : foundT t s k = some y := hy
  obtain ⟨h1, h2⟩ := scan_mem _ _ _ _ hy
  obtain ⟨h3, h4⟩ := (mem_cand t s k y.1).1 h1
  have hy16 : y.1 < 16 := foundT_lt hy'
  have : y.1 = j := m.inj _ _ hy16 hj (full_of_h2 h4) hf (by rw [hk]; simpa using h2)
  obtain ⟨y1, y2⟩ := y
  dsimp only at this
  subst this
  exact ⟨y2, foundE_some hy'⟩
theorem found_none {t : Tab} {s k : BitVec 64} (h : ∀ j, j < 16 → fullJ t j = true → t.k j ≠ k) : foundE t s k = .error 4 := by
  apply foundE_none
  apply scan_none
  intro y hy
  obtain ⟨h3, h4⟩ := (mem_cand t s k y).1 hy
  have hy16 : y < 16 := by have := row_bound t s k _ h3; omega
  have := h y hy16 (full_of_h2 h4)
  simpa using this
theorem exists_empty {t : Tab} {s : BitVec 64} (m : May t s) (h : 0 < t.can) : ∃ j, j < 16 ∧ bt t j = 128#8 := by
  apply Classical.byContradiction
  intro hn
  have : nFill t = 16 := by
    unfold nFill
    have h2 : (List.range 16).countP (fillJ t) = (List.range 16).length := List.countP_eq_length.2 fun j hj => by
      rw [fillJ, bne_iff_ne]
      exact fun e => hn ⟨j, by simpa using hj, e⟩
    rw [h2]; rfl
  have h3 := m.can
  omega
theorem findSome_some {α β : Type} (f : α → Option β) : ∀ (l : List α) (g : α), g ∈ l → (f g).isSome = true → ∃ y, l.findSome? f = some y
  | g' :: l, g, hg, hf => by
    rw [List.findSome?_cons]
    cases h : f g' with
    | some y => exact ⟨y, rfl⟩
    | none =>
      rcases List.mem_cons.1 hg with rfl | hg
      · rw [h] at hf; cases hf
      · exact findSome_some f l g hg hf
theorem freeIn_some (t : Tab) (g : Nat) (h : hasE t g = true) : (freeIn t g).isSome = true := by
  obtain ⟨x, hx, hb⟩ := (hasE_iff t g).1 h
  rw [freeIn_eq, Option.isSome_map]
  have : x ∈ lanesOf (freeM (t.c g)) := (mem_lanes _ _).2 ⟨hx, (free_iff t g x hx).2 (.inl hb)⟩
  cases hl : lanesOf (freeM (t.c g)) with
  | nil => rw [hl] at this; cases this
  | cons y l => rfl
theorem place_room {t : Tab} {s k : BitVec 64} (m : May t s) (h : 0 < t.can) (hg : hasT t (hashOf s k) = true) (hk : hasKT t k = false) : ∃ sl, placeT t s k = .ok sl := by
  obtain ⟨j, hj, hb⟩ := exists_empty m h
  have hE : hasE t (j / 8) = true := (hasE_iff t _).2 ⟨j % 8, by omega, by rw [show 8 * (j / 8) + j % 8 = j by omega]; exact hb⟩
  have hex : ∃ g, g ∈ rowT t s k ∧ hasE t g = true := by
    cases hG : hasE t (gOf s k) with
    | true => exact ⟨_, (mem_row t s k _).2 (.inl rfl), hG⟩
    | false =>
      refine ⟨j / 8, (mem_row t s k _).2 (.inr ⟨hG, ?_⟩), hE⟩
      have h1 := gOf_lt s k
      have h2 : j / 8 ≠ gOf s k := by intro e; rw [e, hG] at hE; cases hE
      omega
  obtain ⟨g, hgr, hgE⟩ := hex
  obtain ⟨y, hy⟩ := findSome_some (freeIn t) _ g hgr (freeIn_some t g hgE)
  have hy' : freeAt t (rowT t s k) = some y := hy
  obtain ⟨g', x⟩ := y
  refine ⟨8 * g' + x, ?_⟩
  rw [placeT, if_pos hg, hk, if_neg (by decide), hy']
  dsimp only
  rw [if_pos (by rw [decide_eq_true h, Bool.or_true])]
theorem place_goes_no {t : Tab} {s k : BitVec 64} (h : hasT t (hashOf s k) = false) : placeT t s k = .error 2 := by rw [placeT, h, if_neg (by decide)]
theorem place_has_yes {t : Tab} {s k : BitVec 64} (h : hasT t (hashOf s k) = true) (hk : hasKT t k = true) : placeT t s k = .error 5 := by rw [placeT, if_pos h, if_pos hk]
theorem place_cases (t : Tab) (s k : BitVec 64) : (hasT t (hashOf s k) = false ∧ placeT t s k = .error 2) ∨ (hasT t (hashOf s k) = true ∧ hasKT t k = true ∧ placeT t s k = .error 5) ∨
    (hasT t (hashOf s k) = true ∧ hasKT t k = false ∧ placeT t s k = .error 6) ∨ (hasT t (hashOf s k) = true ∧ hasKT t k = false ∧ ∃ sl, placeT t s k = .ok sl) := by
  cases hg : hasT t (hashOf s k) with
  | false => exact .inl ⟨rfl, place_goes_no hg⟩
  | true =>
    cases hk : hasKT t k with
    | true => exact .inr (.inl ⟨rfl, rfl, place_has_yes hg hk⟩)
    | false =>
      refine .inr (.inr ?_)
      rw [placeT, if_pos hg, hk, if_neg (by decide)]
      cases freeAt t (rowT t s k) with
      | none => exact .inl ⟨rfl, rfl, rfl⟩
      | some y =>
        dsimp only
        split
        · exact .inr ⟨rfl, rfl, _, rfl⟩
        · exact .inl ⟨rfl, rfl, rfl⟩
end Go.Proofs.Hc
namespace Go.Proofs.Hc
open Go.RowKit
attribute [local go_sem] zbs zca zax zbc zbn zba zbm zbo zbu signed64 signed8 zar BitVec.ofInt_add BitVec.ofInt_mul ofInt_sub' zay zaz wide8 eqN neN zbz shr1 shr7 shr56
attribute [local go_sem high] zbb zbt
attribute [local go_sem] zag zbw zah zas zad zbe zaq zal zbl zan zbd zbf
attribute [local go_sem] load26 load73 load23 store26 build73
attribute [local go_sem ↓] lrow26 lrow73 lrow23 srow26 zero26 brow73 zac zaw zbg zaa zab
attribute [local go_sem] zai zav zat zbj zbk zbp zao zau zbq zbi zbh
attribute [local go_sem] nn2 nm2 nn3 nm3 nn4 nm4 nn5 nm5 nn6 nm6 nn7 nm7 nn8 nm8
section
attribute [local go_sem] loadA loadT2 storeA storeT2 zdj zdk zcj zdi zcd zce zct zcl zcy zco zcg zcz zcp zdh zdg
attribute [local go_sem ↓] lrowA lrowT2 srowA srowT2 browA zdf zcx
attribute [local go_sem] Oper.semAt_some zap zby
attribute [local go_sem] box26 zbx cell0 cell1 cell2 cell3 cell4 zci zch
attribute [local go_sem] cell5 cell6
attribute [local go_sem high] zcb laidAt_a
theorem cand_full {t : Tab} {s k : BitVec 64} {j : Nat} (h : j ∈ (rowT t s k).flatMap (candG t (hash2 (hashOf s k)))) : fullM (t.c (j / 8)) &&& laneM (j % 8) ≠ 0#8 := by
  obtain ⟨g, hg, hj⟩ := List.mem_flatMap.1 h
  unfold candG at hj
  obtain ⟨x, hx, rfl⟩ := List.mem_map.1 hj
  obtain ⟨hx, hb⟩ := (mem_lanes _ _).1 hx
  rw [equalM_bit _ _ _ hx] at hb
  have e1 : (8 * g + x) / 8 = g := by omega
  have e2 : (8 * g + x) % 8 = x := by omega
  rw [e1, e2]
  intro h0
  rw [and_lane _ x hx, fullM_bit _ x hx, beq_iff_eq.1 hb] at h0
  have := hash2_lt (hashOf s k)
  simp at h0
  omega
theorem foundE_full {t : Tab} {s k : BitVec 64} {y : Nat × Nat} (h : foundE t s k = .ok y) : fullM (t.c (y.1 / 8)) &&& laneM (y.1 % 8) ≠ 0#8 := by
  rw [foundE_eq] at h
  cases hf : foundT t s k with
  | none => rw [hf] at h; cases h
  | some z => rw [hf] at h; cases h; exact cand_full (scan_mem _ _ _ _ hf).1
theorem ctrlOk_gone {c : BitVec 64} (h : ctrlOk c = true) (x : Nat) (hx : x < 8) : ctrlOk (withB c x (gone c)) = true := by
  rw [ctrlOk_iff] at h ⊢
  intro n hn
  rw [byteAt_withB c x n _ hx hn]
  by_cases he : n = x
  · rw [if_pos he]
    unfold gone
    split
    · first | exact .inr (.inr rfl) | exact .inr (.inl rfl)
    · first | exact .inr (.inl rfl) | exact .inr (.inr rfl)
  · rw [if_neg he]; exact h n hn
theorem enters_drop1 (args : Array Value) (w : World) : (callFunc 136 args).run Tryz.prog w = .ok (.enter 136 args) w := by kernel_rfl
theorem drop1_any (t : Tab) (s k : BitVec 64) (b p : Nat) (w : World) (hok : OkT t 0) (hb : w.heap[b]? = some (.cells (hcells t s) 141 (0, 0))) (hp : w.heap[p]? = some (.cells #[U k] 22 (0, 0))) :
    Calls Tryz.prog 136 #[.pointer (some ⟨b, 0, none⟩), .pointer (some ⟨p, 0, none⟩)] w fun e w' => e = retOr (fun y => .agg (acells y)) (dropE t s k) ∧ Ch [b] w w' := by
  have hpl := (Array.getElem?_eq_some_iff.1 hp).1
  have hbl := (Array.getElem?_eq_some_iff.1 hb).1
  have hb' : (w.alloc (.cells (acells zeroA) 210)).heap[b]? = some (.cells (hcells t s) 141 (0, 0)) := by rw [zac, if_neg (by omega)]; exact hb
  have hpn : ¬ p = w.heap.size := by omega
  have P1 := found_any t s k b _ hok.c0 hok.c1 hb'
  have hlt := Lib.hid (fun y => foundE_lt (t := t) (s := s) (k := k) (y := y))
  have hfl := Lib.hid (fun y => foundE_full (t := t) (s := s) (k := k) (y := y))
  unfold dropE
  generalize foundE t s k = r at *
  have hbne : ¬ b = w.heap.size := by omega
  clear hpl
  cases r with
  | error c =>
    clear hok
    go_enter Tryz.func136, Tryz.ntmps136
    go_wp2_with (go_at_call 132; refine P1.mono ?_; rintro e w1 ⟨rfl, hc1⟩; simp only [retOr])
    exact ⟨rfl, rfl, (((Ch.refl [] w).alloc _).trans hc1).of_nil⟩
  | ok y =>
    obtain ⟨j, m⟩ := y
    have hj := hlt.out (j, m) rfl
    have hfu := hfl.out (j, m) rfl
    dsimp only at hj hfu
    clear hlt hfl
    have hj0 : (0 : Int) ≤ (j : Int) := by omega
    have hj1 : (j : Int) < 16 := by omega
    obtain ⟨g, hg⟩ : ∃ g, j / 8 = g := ⟨_, rfl⟩
    obtain ⟨x, hx⟩ : ∃ x, j % 8 = x := ⟨_, rfl⟩
    have hqg : (j : Int) / 8 = (g : Int) := by omega
    have hrx : (j : Int) % 8 = (x : Int) := by omega
    have hg2 : g < 2 := by omega
    have hx8 : x < 8 := by omega
    have hg0 : (0 : Int) ≤ (g : Int) := by omega
    have hg1 : (g : Int) < 2 := by omega
    rw [hg, hx] at hfu
    have hokg : ctrlOk (t.c g) = true := by
      rcases (show g = 0 ∨ g = 1 by omega) with h | h <;> rw [h]
      · exact hok.c0
      · exact hok.c1
    have hcan := Lib.hid hok.can
    have hlive := Lib.hid hok.live
    clear hok
    have EOK := ctrlOk_gone hokg x hx8
    have E1 := fun w => erase_ok (t.c g) x hx8 hfu hokg w
    have c5 := hcells_ctrl_at t s g hg2
    obtain ⟨c', hc'⟩ : ∃ c', withB (t.c g) x (gone (t.c g)) = c' := ⟨_, rfl⟩
    rw [hc'] at E1 EOK
    have S1 := fun w => stops_ok c' EOK w
    have hdrop := Lib.hid (show dropT t j = { t with c := fun i => if i = g then c' else t.c i, can := if emptyM c' != 0#8 then t.can + 1 else t.can, live := t.live - 1 } by unfold dropT goneC; simp only [hg, hx, hc'])
    clear hfu hokg EOK hc'
    go_enter Tryz.func136, Tryz.ntmps136
    go_wp2_with (first
      | (go_at_call 132; refine P1.mono ?_; rintro e w1 ⟨rfl, hc1⟩; simp only [retOr]; have hA := hkeep hc1 (show (w.alloc (.cells (acells zeroA) 210)).heap[w.heap.size]? = some (.cells (acells zeroA) 210 (0, 0)) by simp [go_sem]); have hB := hkeep hc1 hb')
      | (go_at_call 138; refine (E1 _).mono ?_; rintro e w2 ⟨rfl, hc2⟩; have hA2 := hkeep hc2 hA; have hB2 := hkeep hc2 hB))
    refine (surew_yes c' w2).mono ?_
    rintro e w3 ⟨rfl, hw3⟩
    subst hw3
    clear hA hB hb hb' hp P1 E1
    go_simp
    go_upto_region 4 with (fail)
    obtain ⟨t2, ht2⟩ : ∃ t2 : Tab, { t with c := fun i => if i = g then c' else t.c i } = t2 := ⟨_, rfl⟩
    have B3 : (w2.setCell ⟨b, 5 + g, none⟩ (U c')).heap[b]? = some (.cells (hcells t2 s) 141 (0, 0)) := by rw [zaa, if_pos rfl, hB2, Option.map_some, zad, hset_ctrl t s g hg2, ht2]
    have A3 : (w2.setCell ⟨b, 5 + g, none⟩ (U c')).heap[w.heap.size]? = some (.cells (acells zeroA) 210 (0, 0)) := by rw [zaa, if_neg (Ne.symm hbne)]; exact hA2
    have C3 : Ch [b] w (w2.setCell ⟨b, 5 + g, none⟩ (U c')) := ((((Ch.refl [] w).alloc _).trans hc1).trans hc2).of_nil.setCell (p := ⟨b, 5 + g, none⟩) (.inl (by simp)) _
    have c5' : (hcells t2 s)[5 + g]? = some (U c') := by rw [hcells_ctrl_at t2 s g hg2, ← ht2]; simp
    have can2 : t2.can = t.can := by rw [← ht2]
    have live2 : t2.live = t.live := by rw [← ht2]
    generalize w2.setCell ⟨b, 5 + g, none⟩ (U c') = W3 at *
    have k0 : 0 ≤ t2.can := by rw [can2]; have := hcan.out; omega
    have k1 : t2.can ≤ 14 := by rw [can2]; have := hcan.out; omega
    have l0 : 0 ≤ t2.live := by rw [live2]; have := hlive.out; omega
    have l1 : t2.live ≤ 14 := by rw [live2]; have := hlive.out; omega
    have CAN2 := Lib.hid can2
    have LIVE2 := Lib.hid live2
    have HT2 := Lib.hid ht2
    clear can2 live2 ht2 hA2 hB2 hc1 hc2 c5 hbl hcan hlive
    obtain ⟨st, hst⟩ : ∃ st, (emptyM c' != 0#8) = st := ⟨_, rfl⟩
    rw [hst] at S1 hdrop
    clear hst
    have hfin : ∃ t3 : Tab, ∃ x : Int, (if st then t2.can + 1 else t2.can) = x ∧ { t2 with can := x } = t3 ∧ t3.live = t2.live ∧ Hid (dropT t j = { t3 with live := t3.live - 1 }) :=
      ⟨_, _, rfl, rfl, rfl, Lib.hid (by rw [hdrop.out, ← HT2.out])⟩
    obtain ⟨t3, x3, hx3, ht3, hl3, HD⟩ := hfin
    have L0 : 0 ≤ t3.live := by omega
    have L1 : t3.live ≤ 14 := by omega
    clear hl3 hdrop
    have HX3 := Lib.hid hx3
    clear hx3
    have HT3 := Lib.hid ht3
    clear ht3
    cases st
    · go_upto_region 6 with (go_at_call 139; refine (S1 _).mono ?_; rintro e W4 ⟨rfl, hc4⟩; have A4 := hkeep hc4 A3; have B4 := hkeep hc4 B3)
      have A5 := A4
      have B5 : W4.heap[b]? = some (.cells (hcells t3 s) 141 (0, 0)) := by rw [← HT3.out, ← HX3.out]; exact B4
      have C5 : Ch [b] w W4 := C3.pure hc4
      obtain ⟨W5, hW5⟩ : ∃ W5, W4 = W5 := ⟨_, rfl⟩
      rw [hW5] at A5 B5 C5 ⊢
      clear hW5
      clear A4 B4 hc4 C3 A3 B3
      go_upto_region 7 with (fail)
      have A6 : (W5.setCell ⟨b, 4, none⟩ (I (t3.live - 1))).heap[w.heap.size]? = some (.cells (acells zeroA) 210 (0, 0)) := by rw [zaa, if_neg (Ne.symm hbne)]; exact A5
      have B6 : (W5.setCell ⟨b, 4, none⟩ (I (t3.live - 1))).heap[b]? = some (.cells (hcells (dropT t j) s) 141 (0, 0)) := by rw [zaa, if_pos rfl, B5, Option.map_some, zad, hset_live, ← HD.out]
      have C6 : Ch [b] w (W5.setCell ⟨b, 4, none⟩ (I (t3.live - 1))) := C5.setCell (p := ⟨b, 4, none⟩) (.inl (by simp)) _
      generalize W5.setCell ⟨b, 4, none⟩ (I (t3.live - 1)) = W6 at *
      clear A5 B5 C5 HD HT3 HX3
      obtain ⟨tf, htf⟩ : ∃ tf, dropT t j = tf := ⟨_, rfl⟩
      rw [htf] at B6
      have HTF := Lib.hid htf
      clear htf
      go_wp2
      refine bodyPost_ret (v := .agg (acells ⟨tf, j, 0⟩)) (zcf Tryz.results136 _ _ _ rfl (run_loadVar_row _ _ 210 210 (acells ⟨tf, j, 0⟩) (0, 0) _ ?_ Tryz.underlying210 rfl (by rw [zcd]; kernel_rfl))) rfl ⟨by rw [← HTF.out]; rfl, ?_⟩
      · simp only [zab, if_true, A6, Option.map_some, laidAt_a]
      · exact C6.onObj (.inr (Nat.le_refl _)) _
    · go_upto_region 6 with (go_at_call 139; refine (S1 _).mono ?_; rintro e W4 ⟨rfl, hc4⟩; have A4 := hkeep hc4 A3; have B4 := hkeep hc4 B3)
      have A5 : (W4.setCell ⟨b, 3, none⟩ (I (t2.can + 1))).heap[w.heap.size]? = some (.cells (acells zeroA) 210 (0, 0)) := by rw [zaa, if_neg (Ne.symm hbne)]; exact A4
      have B5 : (W4.setCell ⟨b, 3, none⟩ (I (t2.can + 1))).heap[b]? = some (.cells (hcells t3 s) 141 (0, 0)) := by rw [zaa, if_pos rfl, B4, Option.map_some, zad, hset_can, ← HT3.out, ← HX3.out]; rfl
      have C5 : Ch [b] w (W4.setCell ⟨b, 3, none⟩ (I (t2.can + 1))) := (C3.pure hc4).setCell (p := ⟨b, 3, none⟩) (.inl (by simp)) _
      generalize W4.setCell ⟨b, 3, none⟩ (I (t2.can + 1)) = W5 at *
      clear A4 B4 hc4 C3 A3 B3
      go_upto_region 7 with (fail)
      have A6 : (W5.setCell ⟨b, 4, none⟩ (I (t3.live - 1))).heap[w.heap.size]? = some (.cells (acells zeroA) 210 (0, 0)) := by rw [zaa, if_neg (Ne.symm hbne)]; exact A5
      have B6 : (W5.setCell ⟨b, 4, none⟩ (I (t3.live - 1))).heap[b]? = some (.cells (hcells (dropT t j) s) 141 (0, 0)) := by rw [zaa, if_pos rfl, B5, Option.map_some, zad, hset_live, ← HD.out]
      have C6 : Ch [b] w (W5.setCell ⟨b, 4, none⟩ (I (t3.live - 1))) := C5.setCell (p := ⟨b, 4, none⟩) (.inl (by simp)) _
      generalize W5.setCell ⟨b, 4, none⟩ (I (t3.live - 1)) = W6 at *
      clear A5 B5 C5 HD HT3 HX3
      obtain ⟨tf, htf⟩ : ∃ tf, dropT t j = tf := ⟨_, rfl⟩
      rw [htf] at B6
      have HTF := Lib.hid htf
      clear htf
      go_wp2
      refine bodyPost_ret (v := .agg (acells ⟨tf, j, 0⟩)) (zcf Tryz.results136 _ _ _ rfl (run_loadVar_row _ _ 210 210 (acells ⟨tf, j, 0⟩) (0, 0) _ ?_ Tryz.underlying210 rfl (by rw [zcd]; kernel_rfl))) rfl ⟨by rw [← HTF.out]; rfl, ?_⟩
      · simp only [zab, if_true, A6, Option.map_some, laidAt_a]
      · exact C6.onObj (.inr (Nat.le_refl _)) _
end
section
attribute [local go_sem] loadA loadT2 storeA storeT2 zdj zdk zcj zdi zcd zce zct zcl zcy zco zcg zcz zcp zdh zdg
attribute [local go_sem ↓] lrowA lrowT2 srowA srowT2 browA zdf zcx
attribute [local go_sem] Oper.semAt_some zap zby
attribute [local go_sem] box26 zbx cell0 cell1 cell2 cell3 cell4 zci zch
attribute [local go_sem] cell5 cell6 acells_idx zcg
attribute [local go_sem high] zcb laidAt_a
theorem Drop_any (t : Tab) (s k : BitVec 64) (w : World) :
    Calls Tryz.prog 73 #[U s, .agg (tcells t), U k] w fun e w' => e = .returned (putV (ifMay t s (dropE t s k))) ∧ Ch [] w w' := by
  have T1 : ∀ (w : World) (cap : Array Value), _ → Calls Tryz.prog 130 #[U s, .agg (tcells t), .func (.func 136) #[] cap] w fun e w' => e = .returned (tupOr (fun v => .agg (acells v)) (.agg (acells zeroA)) (ifMay t s (dropE t s k))) ∧ Ch [] w w' := fun w cap hd => tries91_any t s 136 cap (dropE t s k) w enters_drop1 hd
  have D1 := fun b p w hok hb hp => drop1_any t s k b p w hok hb hp
  have hm := fun h => may_okT (t := t) (s := s) h
  generalize ifMay t s (dropE t s k) = R at *
  generalize dropE t s k = r at *
  obtain ⟨W0, hW0⟩ : ∃ W0, ((w.alloc (.cells (tcells t) 26)).alloc (.cells #[U k] 22)).alloc (.cells (tcells zeroT) 26) = W0 := ⟨_, rfl⟩
  have hC0 : Ch [] w W0 := by rw [← hW0]; exact (((Ch.refl [] w).alloc _).alloc _).alloc _
  have b0 : W0.heap[w.heap.size]? = some (.cells (tcells t) 26 (0, 0)) := by rw [← hW0]; simp [go_sem]
  have b1 : W0.heap[w.heap.size + 1]? = some (.cells #[U k] 22 (0, 0)) := by rw [← hW0]; simp [go_sem]
  have b3 : W0.heap[w.heap.size + 1 + 1]? = some (.cells (tcells zeroT) 26 (0, 0)) := by rw [← hW0]; simp [go_sem]
  go_enter Tryz.func73, Tryz.ntmps73
  go_wp2_with fail
  refine (T1 W0 #[.pointer (some ⟨w.heap.size + 1, 0, none⟩)] ?_).mono ?_
  · intro hmt b w1 hb hc hle
    exact D1 b (w.heap.size + 1) w1 (hm hmt) hb (hkeep hc b1)
  · rintro e w1 ⟨rfl, hc1⟩
    have d3 := hkeep hc1 b3
    clear T1 D1 hm b0 b1 b3
    obtain ⟨y, c, htup, hput⟩ := put_cases R
    rw [htup]
    have HPUT := Lib.hid hput
    clear htup hput
    go_wp2
    have hz1 := hc1.size
    have hA : ((World.onObj (w1.alloc (.cells (acells zeroA) 210)) w1.heap.size (laidAt 0 (acells y)))).heap[w1.heap.size]? = some (.cells (acells y) 210 (0, 0)) := by
      simp only [zab, if_true, zac, Option.map_some, laidAt_a]
    have hlt3 := (Array.getElem?_eq_some_iff.1 d3).1
    have hD : ((World.onObj (w1.alloc (.cells (acells zeroA) 210)) w1.heap.size (laidAt 0 (acells y)))).heap[w.heap.size + 1 + 1]? = some (.cells (tcells zeroT) 26 (0, 0)) := by
      rw [zab, if_neg (by omega), zac, if_neg (by omega)]; exact d3
    have hcf : Ch [] w (World.onObj (w1.alloc (.cells (acells zeroA) 210)) w1.heap.size (laidAt 0 (acells y))) := ((hC0.trans hc1).alloc _).onObj (.inr (by have := (hC0.trans hc1).size; exact this)) _
    generalize World.onObj (w1.alloc (.cells (acells zeroA) 210)) w1.heap.size (laidAt 0 (acells y)) = W2 at *
    have hne : ¬ w1.heap.size = w.heap.size + 1 + 1 := by omega
    have hne2 : ¬ w.heap.size + 1 + 1 = w1.heap.size := by omega
    generalize w1.heap.size = X at *
    clear hc1 hC0 hW0 d3 hz1
    refine wp_region_held_drew (S := fun W' => W'.heap[X]? = some (.cells (acells y) 210 (0, 0))) (by kernel_rfl) hA ?_
    intro hS
    simp only [List.size_toArray, List.length_cons, List.length_nil, Nat.reduceAdd]
    refine tn 0 ?_ rfl hS ?_ ?_; rotate_left
    · intro _ _; go_simp; try with_reducible rfl
    try go_frame
    refine tn 1 ?_ rfl hS ?_ ?_; rotate_left
    · intro _ _; go_simp; try with_reducible rfl
    try go_frame
    refine tn 2 ?_ rfl hS ?_ ?_; rotate_left
    · intro _ _; go_simp; try with_reducible rfl
    try go_frame
    refine tn 3 ?_ rfl hS ?_ ?_; rotate_left
    · intro _ _; go_simp; try with_reducible rfl
    try go_frame
    refine tn 4 ?_ rfl hS ?_ ?_; rotate_left
    · intro _ _; go_simp; try with_reducible rfl
    try go_frame
    refine rd (o := ⟨none, .store 26 (.tmp 6) (.tmp 19), 0, _, _, none⟩) 5 rfl (fun K hK => ?_); go_simp
    try simp only [zcb]
    have hS9 : (World.onObj W2 (w.heap.size + 1 + 1) (laidAt 0 (tcells y.t))).heap[X]? = some (.cells (acells y) 210 (0, 0)) := by rw [zab, if_neg (by omega)]; exact hA
    refine hK.out _ _ hS9 (fun hS2 => ?_)
    refine wpAnyH_take (i := 6) (oi := ⟨some 7, .assign (.tmp 21), 3, _, _, none⟩) (v := ?_) rfl (by kernel_rfl) (by kernel_rfl) (by kernel_rfl) (fun _ _ _ h => h) (Or.inl ⟨by rfl, ?_⟩) hS9 ?_
    rotate_left
    · intro wq hSq
      first | (go_simp; done) | (go_simp; with_reducible rfl)
    try simp only [Act.put, List.setIfInBounds_toArray, List.set_cons_zero, List.set_cons_succ]
    refine wpAnyH_take (i := 7) (oi := ⟨some 8, .assign (.tmp 22), 32, _, _, none⟩) (v := ?_) rfl (by kernel_rfl) (by kernel_rfl) (by kernel_rfl) (fun _ _ _ h => h) (Or.inl ⟨by rfl, ?_⟩) hS9 ?_
    rotate_left
    · intro wq hSq
      first | (go_simp; done) | (go_simp; with_reducible rfl)
    try simp only [Act.put, List.setIfInBounds_toArray, List.set_cons_zero, List.set_cons_succ]
    refine wpAnyH_done (by kernel_rfl) ?_ _
    have hD2 : (World.onObj W2.drew (w.heap.size + 1 + 1) (laidAt 0 (tcells y.t))).heap[w.heap.size + 1 + 1]? = some (.cells (tcells y.t) 26 (0, 0)) := by
      rw [zab, if_pos rfl, zaw, hD, Option.map_some, zcb]
    have hC2 : Ch [] w (World.onObj W2.drew (w.heap.size + 1 + 1) (laidAt 0 (tcells y.t))) := (hcf.drew).onObj (.inr (by omega)) _
    generalize World.onObj W2.drew (w.heap.size + 1 + 1) (laidAt 0 (tcells y.t)) = W3 at *
    go_wp2
    refine bodyPost_ret (v := .tuple #[.agg (tcells y.t), I y.slot, I c]) (results_c0tt Tryz.results73 _ _ _ rfl rfl rfl (run_loadVar_row _ _ 26 26 (tcells y.t) (0, 0) _ hD2 Tryz.underlying26 rfl (by rw [zai]; kernel_rfl))) rfl ⟨?_, hC2⟩
    rw [HPUT.out]
end
section
attribute [local go_sem] loadA loadT2 storeA storeT2 zdj zdk zcj zdi zcd zce zct zcl zcy zco zcg zcz zcp zdh zdg
attribute [local go_sem ↓] lrowA lrowT2 srowA srowT2 browA zdf zcx
attribute [local go_sem] Oper.semAt_some zap zby
attribute [local go_sem] box26 zbx cell0 cell1 cell2 cell3 cell4 zci zch
attribute [local go_sem] cell5 cell6
def PairsPost (w : World) (l : List (BitVec 64 × BitVec 64)) (e : Ending) (w' : World) : Prop := ∃ a c, e = .returned (.slice a l.length c) ∧ w'.ownsRow w.heap.size 31 2 (.slice a l.length c) l.length (pcells l) ∧ Ch [] w w'
theorem Pairs_yes (t : Tab) (s : BitVec 64) (w : World) (hm : mayT t s = true) :
    Calls Tryz.prog 99 #[U s, .agg (tcells t)] w (PairsPost w (pairsT t)) := by
  obtain ⟨h0, h1⟩ := may_ok hm
  have T1 := fun (w : World) hd => triesp_any t s 80 #[] (pairsT t).length (pcells (pairsT t)) w enters_pairs hd
  have D1 := fun b w hb => pairs_any t s b w h0 h1 hb
  rw [hm] at T1
  clear hm h0 h1
  generalize pairsT t = l at *
  go_enter Tryz.func99, Tryz.ntmps99
  go_wp2_with fail
  refine (T1 _ ?_).mono ?_
  · intro _ b w1 hb hc hle
    refine (D1 b w1 hb).mono ?_
    rintro e w2 ⟨a, c, rfl, ho, hc2⟩
    exact ⟨a, c, rfl, ho, hc2.of_nil⟩
  · rintro e w1 ⟨a, c, rfl, ho, -, hc1⟩
    have HO := Lib.hid (ho trivial)
    clear ho T1 D1
    simp only [if_true]
    go_wp2
    go_ret
    exact ⟨a, c, rfl, own_mono HO.out (base' := w.heap.size) (by simp), ((Ch.refl [] w).alloc _).trans hc1⟩
end
end Go.Proofs.Hc
