/- Package split: the cells of both halves' words. -/
import Derived.Test.YtcikopeddljgkaaGreatJPp
import Derived.Test.YtcikopeddljgkaaGreatJVc
import Derived.Test.YtcikopeddljgkaaGreatJ0
set_option linter.unusedSimpArgs false
set_option linter.unusedVariables false
set_option maxHeartbeats 1000000
set_option maxRecDepth 100000
namespace Go.Proofs.Hc
open Go.RowKit
attribute [local go_sem] zbu zcc zax zbf zbo zbd zbn zbp zbw signed64 signed8 zap BitVec.ofInt_add BitVec.ofInt_mul ofInt_sub' zbb zbc wide8 eqN neN zca shr1 shr7 shr56
attribute [local go_sem high] zbe zbv
attribute [local go_sem] zaw zby zaj zas zaf zaz zar zak zbm zal zay zba
attribute [local go_sem] load26 load73 load23 store26 build73
attribute [local go_sem ↓] lrow26 lrow73 lrow23 srow26 zero26 brow73 zae zbk zbg zaa zab
attribute [local go_sem] zai zav zat zbj zbl zbr zaq zau zbs zbi zbh
attribute [local go_sem] nn2 nm2 nn3 nm3 nn4 nm4 nn5 nm5 nn6 nm6 nn7 nm7 nn8 nm8
def lcells (f : Nat → BitVec 64) : Array Value := Array.ofFn (n := 80) fun i => U (f i.1)
theorem lcells_size (f : Nat → BitVec 64) : (lcells f).size = 80 := by simp [lcells]
theorem lcells_get (f : Nat → BitVec 64) (i : Nat) : (lcells f)[i]? = if i < 80 then some (U (f i)) else none := by
  simp [lcells, Array.getElem?_ofFn]
theorem lcells_one (f : Nat → BitVec 64) : allOne (lcells f) = true := by
  unfold allOne
  rw [Array.all_eq_true]
  intro i hi
  have h1 : (lcells f)[i]? = some (lcells f)[i] := Array.getElem?_eq_getElem hi
  rw [lcells_get, if_pos (by rw [lcells_size] at hi; exact hi)] at h1
  have h2 := Option.some.inj h1
  rw [← h2]; rfl
theorem lcells_all (f : Nat → BitVec 64) : (lcells f).extract 0 80 = lcells f := by
  have := Array.extract_size (xs := lcells f); rwa [lcells_size] at this
theorem zeroL (w : World) : (zeroValue 49).run Tryz.prog w = .ok (.agg (lcells fun _ => 0#64)) w := by kernel_rfl
theorem loadL (g o : Nat) (w : World) : (loadRow 49 ⟨g, o, none⟩).run Tryz.prog w = rowRes Tryz.prog 49 g o w ((w.heap[g]?).bind (rowAt o 80)) :=
  run_row Tryz.underlying49 rfl (by kernel_rfl) g o w
theorem storeL (g o : Nat) (vs : Array Value) (w : World) : (storeRow 49 ⟨g, o, none⟩ (.agg vs)).run Tryz.prog w = layRes Tryz.prog 49 g o vs w (((w.heap[g]?).map (canLay o 80 vs)).getD false) :=
  run_lay (by kernel_rfl) g o vs w
theorem lrowL (a : Addr) : loadVar 49 a = loadRow 49 a := rfl
theorem srowL (a : Addr) (v : Value) : storeVar 49 a v = storeRow 49 a v := rfl
theorem partC_ws (p : PartT) (f : Nat → BitVec 64) (T : TypeId) (fr : Nat × Nat) : laidAt 43 (lcells f) (.cells (partC p) T fr) = .cells (partC { p with ws := f }) T fr := by
  rw [zak]
  refine congrArg (fun c => Obj.cells c T fr) ?_
  have h0 : (partC p).extract (43 + (lcells f).size) (partC p).size = #[] := by apply Array.eq_empty_of_size_eq_zero; simp [lcells_size, zbt]
  rw [h0, Array.append_empty]
  apply Array.ext_getElem?; intro i
  rw [Array.getElem?_append, Array.size_extract, zbt, zdl]
  by_cases h : i < 43
  · rw [if_pos (by omega), if_pos (by omega), Array.getElem?_extract, zbt, if_pos (by omega), zdl, if_pos (by omega), Nat.zero_add]
    match i, h with
    | 0, _ => rfl
    | 1, _ => rfl
    | 2, _ => rfl
    | 3, _ => rfl
    | 4, _ => rfl
    | 5, _ => rfl
    | 6, _ => rfl
    | 7, _ => rfl
    | i + 8, h =>
      simp only [PartT.cell]
      by_cases a : i < 2
      · simp [a]
      · by_cases b : i < 18
        · simp [a, b]
        · by_cases c : i < 34
          · simp [a, b, c]
          · simp [a, b, c, show i = 34 by omega]
  · rw [if_neg (by omega), lcells_get]
    by_cases h2 : i < 123
    · rw [if_pos h2, if_pos (by omega)]
      obtain ⟨j, rfl⟩ : ∃ j, i = 43 + j := ⟨i - 43, by omega⟩
      have e1 : 43 + j - min 43 123 = j := by omega
      have := part_gw { p with ws := f } j (by omega)
      rw [zdl, if_pos h2] at this
      rw [show 43 + j - (min 43 123 - 0) = j by omega]
      exact this.symm
    · rw [if_neg h2, if_neg (by omega)]
theorem partC_same (p : PartT) (f h : Nat → BitVec 64) (e : ∀ i, i < 80 → f i = h i) : partC { p with ws := f } = partC { p with ws := h } := by
  apply Array.ext_getElem?; intro i
  by_cases h2 : i < 123
  · by_cases h3 : i < 43
    · rw [zdl, zdl, if_pos h2, if_pos h2]
      match i, h3 with
      | 0, _ => rfl
      | 1, _ => rfl
      | 2, _ => rfl
      | 3, _ => rfl
      | 4, _ => rfl
      | 5, _ => rfl
      | 6, _ => rfl
      | 7, _ => rfl
      | i + 8, h =>
        simp only [PartT.cell]
        by_cases a : i < 2
        · simp [a]
        · by_cases b : i < 18
          · simp [a, b]
          · by_cases c : i < 34
            · simp [a, b, c]
            · simp [a, b, c, show i = 34 by omega]
    · obtain ⟨j, rfl⟩ : ∃ j, i = 43 + j := ⟨i - 43, by omega⟩
      rw [part_gw { p with ws := f } j (by omega), part_gw { p with ws := h } j (by omega)]
      show some (U (f j)) = some (U (h j))
      rw [e j (by omega)]
  · rw [zdl, zdl, if_neg h2, if_neg h2]
def putF (f : Nat → BitVec 64) (k : Nat) (X : Tab) : Nat → BitVec 64 := fun i => if 40 * k ≤ i ∧ i < 40 * k + 40 then tword X (i - 40 * k) else f i
theorem lcells_put (f : Nat → BitVec 64) (k : Nat) (hk : k < 2) (X : Tab) : ((lcells f).toList.take (40 * k) ++ ((twords X).map fun x => U x) ++ (lcells f).toList.drop (40 * k + 40)).toArray = lcells (putF f k X) := by
  apply Array.ext_getElem?; intro i
  have hl : ((lcells f).toList.take (40 * k)).length = 40 * k := by rw [List.length_take, Array.length_toList, lcells_size]; omega
  have hm : ((twords X).map fun x => U x).length = 40 := by rw [List.length_map, twords_len]
  rw [List.getElem?_toArray, List.append_assoc, lcells_get]
  by_cases h1 : i < 40 * k
  · rw [List.getElem?_append_left (by omega), List.getElem?_take, if_pos h1, Array.getElem?_toList, lcells_get, if_pos (by omega), if_pos (by omega)]
    unfold putF
    rw [if_neg (by omega)]
  · rw [List.getElem?_append_right (by omega), hl]
    by_cases h2 : i - 40 * k < 40
    · rw [List.getElem?_append_left (by omega), List.getElem?_map, twords_get X _ h2, if_pos (by omega)]
      unfold putF
      rw [if_pos (by omega)]; rfl
    · rw [List.getElem?_append_right (by omega), hm, List.getElem?_drop, Array.getElem?_toList, lcells_get, show 40 * k + 40 + (i - 40 * k - 40) = i by omega]
      by_cases h3 : i < 80
      · rw [if_pos h3, if_pos h3]
        unfold putF
        rw [if_neg (by omega)]
      · rw [if_neg h3, if_neg h3]
theorem setRow_ch22 (w : World) (O : Nat) (c : Array Value) : Ch [O] w (w.setRow O c) := ⟨rfl, rfl, rfl, by simp [World.setRow], fun k _ hk => setRow_other _ _ _ _ (by simpa using hk)⟩
theorem copy_l (f : Nat → BitVec 64) (L k R : Nat) (hk : k < 2) (cur : Array Value) (X : Tab) (w : World) (hL : w.heap[L]? = some (.cells (lcells f) 49 (0, 0))) (hR : w.heap[R]? = some (.cells cur 22 (0, 0))) (hcur : WordsAt cur (twords X)) (c1 c2 : Nat) :
    ∃ w', (Builtin.copy_ #[44, 44] 3 #[.slice (some ⟨L, 40 * k, none⟩) 40 c1, .slice (some ⟨R, 0, none⟩) 40 c2]).run Tryz.prog w = .ok (goInt 40) w' ∧ w'.heap[L]? = some (.cells (lcells (putF f k X)) 49 (0, 0)) ∧ Ch [L] w w' := by
  have hlm : ((twords X).map fun x => U x).length = 40 := by rw [List.length_map, twords_len]
  have hcp := run_copy_row (P := Tryz.prog) w 44 44 3 22 L (40 * k) 40 c1 ⟨R, 0, none⟩ 40 c2 (lcells f) 49 ((twords X).map fun x => U x) Tryz.underlying44 (by kernel_rfl) hL (by rw [hlm]; rfl) (by
    intro j v hj
    rw [List.getElem?_map] at hj
    obtain ⟨x, hx, rfl⟩ := Option.map_eq_some_iff.1 hj
    rw [Addr.add_lit, zaw, hR, Option.bind_some, zaj, Nat.zero_add]
    exact hcur j x hx) (by rw [hlm, lcells_size]; omega) (words_one _)
  rw [hlm, lcells_put f k hk X] at hcp
  exact ⟨_, hcp, setRow_heap w L _ _ 49 (0, 0) hL, setRow_ch22 w L _⟩
def halvedS (p : PartT) : Option (Nat → BitVec 64) → PartT
  | some ws => { p with ws := ws }
  | none => p
theorem flat_zeroT : flatT zeroT = true := by decide +kernel
theorem halfS_prog (p : PartT) (i : Nat) : halfS p i = match newE (deepS p + 1) (2#64 * preS p + BitVec.ofNat 64 i) with
  | .error e => .error e
  | .ok t => laidT p.seed t (gathL p i (toldS (gotS p) 0 16)) := by
  unfold halfS
  generalize newE (deepS p + 1) (2#64 * preS p + BitVec.ofNat 64 i) = r
  cases r with
  | error e => rfl
  | ok t =>
    dsimp only
    rw [pairs_told]
    unfold gathL
    congr 2
    funext x
    show (firstS p (hashOf p.seed x.1) == (i == 0)) = (firstS p (hashOf p.seed x.1) == ((i : Int) == 0))
    congr 1
    rw [Bool.eq_iff_iff, beq_iff_eq, beq_iff_eq]; omega
theorem newE_may {d : Int} {p s : BitVec 64} {t : Tab} (h : newE d p = .ok t) : May t s := by
  rw [newE_flat] at h
  cases hf : flatT (bareT 0#64 d p) with
  | true => rw [hf, if_pos rfl] at h; cases h; exact bare_may s hf
  | false => rw [hf, if_neg (by decide)] at h; cases h
theorem place_ne22 {t : Tab} {s k : BitVec 64} {c : Int} (hP : placeT t s k = .error c) : (c != 0) = true := by
  rcases place_cases t s k with ⟨_, h⟩ | ⟨_, _, h⟩ | ⟨_, _, h⟩ | ⟨_, _, sl, h⟩
  all_goals
    rw [hP] at h
    first | (cases h; done) | (cases h; decide)
theorem laid_ne {s : BitVec 64} : ∀ (l : List (BitVec 64 × BitVec 64)) (t : Tab) (c : Int), laidT s t l = .error c → (c != 0) = true
  | [], t, c, h => by rw [laidT_nil] at h; cases h
  | p :: l, t, c, h => by
    cases hp : placeT t s p.1 with
    | error e => rw [laidT_err hp] at h; cases h; exact place_ne22 hp
    | ok sl => rw [laidT_ok hp] at h; exact laid_ne l _ c h
theorem newE_ne {d : Int} {p : BitVec 64} {e : Int} (h : newE d p = .error e) : (e != 0) = true := by
  rw [newE_flat] at h
  cases hf : flatT (bareT 0#64 d p) with
  | true => rw [hf, if_pos rfl] at h; cases h
  | false => rw [hf, if_neg (by decide)] at h; cases h; rfl
theorem tup22 (r : Except Int Tab) (h : ∀ e, r = .error e → (e != 0) = true) : ∃ (y : Tab) (c : Int), tupOr (fun v => Value.agg (tcells v)) (.agg (tcells zeroT)) r = .tuple #[.agg (tcells y), I c] ∧ (((c != 0) = true ∧ y = zeroT ∧ ∃ e, r = .error e) ∨ c = 0 ∧ r = .ok y) := by
  cases r with
  | error c => exact ⟨zeroT, c, rfl, .inl ⟨h c rfl, rfl, c, rfl⟩⟩
  | ok y => exact ⟨y, 0, rfl, .inr ⟨rfl, rfl⟩⟩
theorem tab_block22 (W : World) (a b : Tab) : (World.onObj (W.alloc (.cells (tcells a) 26)) W.heap.size (laidAt 0 (tcells b))).heap[W.heap.size]? = some (.cells (tcells b) 26 (0, 0)) := by
  rw [zab, if_pos rfl, zae, if_pos rfl, Option.map_some, zco]
theorem tab_ch22 (W : World) (a b : Tab) : Ch [] W (World.onObj (W.alloc (.cells (tcells a) 26)) W.heap.size (laidAt 0 (tcells b))) := ((Ch.refl [] W).alloc _).onObj (.inr (Nat.le_refl _)) _
section
attribute [local go_sem] box26 zcb cell0 cell1 cell2 cell3 cell4
attribute [local go_sem] Oper.semAt_some zao
theorem run_append_fits_zeros2 {P : Program} (w : World) (t tn ty e : TypeId) (i : TypeInfo) (z : Value) (kq kn : IntKind) (ht : P.underlying t = some (.slice e)) (htn : P.underlying tn = some (.int kn)) (hi : P.info? e = some i) (hz : i.zero = some z)
    (hs1 : i.size = 1) (hzc : z.cells = #[z]) (hz1 : z.oneCell' = true) (q n cap k : Nat) (cur : Array Value) (T : TypeId) (hq : w.heap[q]? = some (.cells cur T (0, 0))) (hcur : cur.size = cap) (h0 : 0 < k) (hfit : n + k ≤ cap) (h63 : k * i.bytes ≤ 281474976710656) (hk : k ≤ 1000) :
    ∃ w', (Builtin.append_ #[t, tn] ty #[.slice (some ⟨q, 0, none⟩) n cap, .int kq k]).run P w = .ok (.slice (some ⟨q, 0, none⟩) (n + k) cap) w' ∧ w'.heap[q]? = some (.cells (List.take n cur.toList ++ List.replicate k z ++ List.drop (n + k) cur.toList).toArray T (0, 0)) ∧ Ch [q] w w' := by
  have hkn : k ≠ 0 := by omega
  have hw : IntKind.i64.wrap (k : Int) = k := by rw [IntKind.wrap_i64]; omega
  have hneg : ¬ ((k : Int) < 0) := by omega
  have h48i : ¬ (281474976710656 < (k : Int) * (i.bytes : Int)) := by
    rw [← Int.natCast_mul]
    omega
  have hst := run_storeCells_at (P := P) q n T (List.replicate k z) 0 cur w hq (by simp; omega) (fun v hv => by rw [(List.mem_replicate.1 hv).2]; exact hz1)
  have hadd : (⟨q, 0, none⟩ : Addr).add n = ⟨q, n, none⟩ := by unfold Addr.add; split <;> simp_all
  rw [Nat.add_zero, List.length_replicate] at hst
  have hh := setRow_heap w q cur (List.take n cur.toList ++ List.replicate k z ++ List.drop (n + k) cur.toList).toArray T (0, 0) hq
  refine ⟨w.setRow q (List.take n cur.toList ++ List.replicate k z ++ List.drop (n + k) cur.toList).toArray, ?_, hh, ?_⟩
  · generalize w.setRow q (List.take n cur.toList ++ List.replicate k z ++ List.drop (n + k) cur.toList).toArray = w' at *
    have hst' : (storeCells ⟨q, n, none⟩ (List.replicate k z)).run P w = .ok () w' := hst
    simp [Builtin.append_, run_underlying ht, run_underlying htn, sizeOf, typeInfo, zeroValue, hi, hz, hs1, asInt, asIntOf, hw, hkn, hneg, h48i, hfit, hzc, zeroCells_one, hadd, hst']
  · refine ⟨rfl, rfl, rfl, by simp [World.setRow], fun j hj hn => ?_⟩
    simp only [World.setRow, Array.getElem?_modify]
    rw [if_neg (fun e => hn (by simp [e]))]
theorem padded38_row2 (base : Nat) (v : Value) (xs : List Value) (w : World) (hbw : base ≤ w.heap.size) (hown : w.ownsRow base 22 1 v 38 xs) :
    Calls Tryz.prog 140 #[v] w fun e w' => ∃ R c cur, e = .returned (.slice (some ⟨R, 0, none⟩) 40 c) ∧ base ≤ R ∧ w'.heap[R]? = some (.cells cur 22 (0, 0)) ∧ (∀ (j : Nat) (u : Value), (xs ++ [U 0#64, U 0#64])[j]? = some u → cur[j]? = some u) ∧ 40 ≤ c ∧ Ch v.ownBlock.toList w w' := by
  obtain ⟨hlen, h⟩ := hown
  rcases h with ⟨_, h⟩ | ⟨q, cap, cur, rfl, hq, hb, h38, hcm, hsz, hx⟩
  · cases h
  obtain ⟨i0, hi, hz0, hz1, hz2⟩ := info_parts infoU
  have hsz' : cur.size = cap := by omega
  have hx' : List.take 38 cur.toList = xs := hx
  rcases Nat.lt_or_ge cap 40 with hlt | hge
  · go_enter Tryz.func140, Tryz.ntmps140
    go_wp2_with (at_builtin; refine Lib.wpList_append_run _ rfl _ _ 44 3 rfl _ _ rfl rfl _ _ (Lib.run_append_grow_zeros _ 44 3 _ 22 i0 (U 0#64) .i64 .i64 Tryz.underlying44 Tryz.underlying3 hi hz0 (some ⟨q, 0, none⟩) 38 cap (cur.toList.take 38) ?hold 2 (by omega) (by omega) (by omega) (by omega) (by omega) ?hfit) ?_)
    case hold =>
      have := run_firstCells_some (P := Tryz.prog) w.drew i0.size 38 ⟨q, 0, none⟩ 38 cap (cur.toList.take 38) (by simp; omega) (fun j u hj => by
        rw [Addr.add_lit, zaw, zbk, hb, Option.bind_some, zaj, Nat.zero_add]
        rw [List.getElem?_take] at hj
        split at hj
        · simpa using hj
        · cases hj)
      exact this
    case hfit =>
      have : cap = 38 ∨ cap = 39 := by omega
      rw [hz2]
      rcases this with rfl | rfl <;> decide
    go_ret
    refine ⟨_, _, _, rfl, hbw, by rw [zbk, zae, if_pos rfl], fun j u hj => ?_, ?hcap, (((Ch.refl [] w).drew).alloc _).of_nil⟩
    case hcap => exact grownCap_ge _ _ _ _
    rw [Array.getElem?_append]
    have hl : xs.length = 38 := hlen
    by_cases hj38 : j < 38
    · rw [List.getElem?_append_left (by omega)] at hj
      rw [if_pos (by simp; omega)]
      simpa using hj
    · rw [List.getElem?_append_right (by omega), hl] at hj
      rw [if_neg (by simp; omega)]
      have h2 : j - 38 < 2 := by have := (List.getElem?_eq_some_iff.1 hj).1; simpa using this
      rw [Array.getElem?_append, if_pos (by show j - xs.toArray.size < (Builtin.zeroCells #[U 0#64] 2).size; rw [zeroCells_one]; simp; omega)]
      show (Builtin.zeroCells #[U 0#64] 2)[j - xs.toArray.size]? = some u
      rw [zeroCells_one]
      rcases (show j = 38 ∨ j = 39 by omega) with rfl | rfl
      · simpa [hl] using hj
      · simpa [hl] using hj
  · obtain ⟨w2, hr2, hw2, hc2⟩ := run_append_fits_zeros2 (P := Tryz.prog) w 44 3 44 22 i0 (U 0#64) .i64 .i64 Tryz.underlying44 Tryz.underlying3 hi hz0 hz1 rfl rfl q 38 cap 2 cur 22 hb hsz' (by omega) (by omega) (by omega) (by omega)
    have HW2 := Lib.hid hw2
    clear hw2
    go_enter Tryz.func140, Tryz.ntmps140
    go_wp2_with (at_builtin; refine Lib.wpList_append_run _ rfl _ _ 44 3 rfl _ _ rfl rfl _ _ hr2 ?_)
    go_ret
    refine ⟨_, _, _, rfl, hq, HW2.out, fun j u hj => ?_, hge, hc2⟩
    rw [hx', List.getElem?_toArray, List.getElem?_append_left (by
      have h1 := (List.getElem?_eq_some_iff.1 hj).1
      have hl : xs.length = 38 := hlen
      simp at h1 ⊢; omega)]
    exact hj
theorem twords_cells (t : Tab) : ((#[U t.count, U (wd1 t), U (BitVec.ofInt 64 t.can), U (BitVec.ofInt 64 t.live)] : Array Value).extract 0 (0 + 4)).toList ++ ((tcells t).extract 5 (5 + 2)).toList ++ ((tcells t).extract 7 (7 + 16)).toList ++ ((tcells t).extract 23 (23 + 16)).toList ++ [U 0#64, U 0#64] = (twords t).map fun x => U x := by kernel_rfl
theorem words_row2 (t : Tab) (hf : flatT t = true) (w : World) : Calls Tryz.prog 74 #[.agg (tcells t)] w fun e w' => ∃ R c cur, e = .returned (.tuple #[.slice (some ⟨R, 0, none⟩) 40 c, I 0]) ∧ w.heap.size ≤ R ∧ WordsAt cur (twords t) ∧ 40 ≤ c ∧ w'.heap[R]? = some (.cells cur 22 (0, 0)) ∧ Ch [] w w' := by
  have F1 := fun w => flat_any t w
  rw [hf] at F1
  clear hf
  have HT := Lib.hid (twords_cells t)
  go_enter Tryz.func74, Tryz.ntmps74
  go_wp2_with (go_at_call 109; refine (F1 _).mono ?_; rintro e w1 ⟨rfl, hc1⟩; have hb1 : w1.heap[w.heap.size]? = some (.cells (tcells t) 26 (0, 0)) := (hc1.block _ (by simp) (by simp)).trans (by simp [go_sem]))
  obtain ⟨x0, hx0⟩ : ∃ x, N (BitVec.ofInt 64 t.depth ||| t.pre * 256#64) = x := ⟨_, rfl⟩
  obtain ⟨x1, hx1⟩ : ∃ x, N (BitVec.ofInt 64 t.can) = x := ⟨_, rfl⟩
  obtain ⟨x2, hx2⟩ : ∃ x, N (BitVec.ofInt 64 t.live) = x := ⟨_, rfl⟩
  rw [hx0, hx1, hx2]
  have HT : Hid (((#[U t.count, .int .u64 x0, .int .u64 x1, .int .u64 x2] : Array Value).extract 0 (0 + 4)).toList ++ ((tcells t).extract 5 (5 + 2)).toList ++ ((tcells t).extract 7 (7 + 16)).toList ++ ((tcells t).extract 23 (23 + 16)).toList ++ [U 0#64, U 0#64] = (twords t).map fun x => U x) := by
    rw [← hx0, ← hx1, ← hx2]
    exact HT
  clear hx0 hx1 hx2
  obtain ⟨W0, hW0⟩ : ∃ W0, w1.alloc (.cells #[U t.count, .int .u64 x0, .int .u64 x1, .int .u64 x2] 22) = W0 := ⟨_, rfl⟩
  have hsz := hc1.size
  simp only [World.size_alloc] at hsz
  have hC0 : Ch [] w W0 := by rw [← hW0]; exact (((Ch.refl [] w).alloc _).trans hc1).alloc _
  have b0 : W0.heap[w.heap.size]? = some (.cells (tcells t) 26 (0, 0)) := by rw [← hW0, zae, if_neg (by omega)]; exact hb1
  have b1 : W0.heap[w1.heap.size]? = some (.cells #[U t.count, .int .u64 x0, .int .u64 x1, .int .u64 x2] 22 (0, 0)) := by rw [← hW0]; simp [go_sem]
  have hn : w.heap.size < W0.heap.size ∧ w1.heap.size < W0.heap.size := by rw [← hW0]; simp; omega
  rw [hW0]
  clear hW0 hb1 hc1
  refine zdb 7 (by kernel_rfl) (by kernel_rfl) ?_
  simp only [List.take_succ_cons, List.take_zero, List.drop_succ_cons, List.drop_zero]
  repeat (go_big_quiet_step (fail))
  refine wpQuiet_nil ?_
  rintro w2 ⟨g1, hw1⟩
  have hc1 : Ch [] W0 w2 := by rw [hw1]; exact g1.2
  clear hw1 g1
  have hz2 := hc1.size
  have d0 := (hc1.block _ hn.1 (by simp)).trans b0
  have d1 := (hc1.block _ hn.2 (by simp)).trans b1
  clear b0 b1
  go_wp2_with fail
  refine (concat4 w2.heap.size 4 2 16 16 w1.heap.size w.heap.size w.heap.size w.heap.size 0 5 7 23 ((#[U t.count, .int .u64 x0, .int .u64 x1, .int .u64 x2] : Array Value).extract 0 (0 + 4)).toList ((tcells t).extract 5 (5 + 2)).toList ((tcells t).extract 7 (7 + 16)).toList ((tcells t).extract 23 (23 + 16)).toList _ (by rw [zae, if_pos rfl])
         (part_len _ _ _ (by simp)) (part_len _ _ _ (by rw [zai]; omega)) (part_len _ _ _ (by rw [zai]; omega)) (part_len _ _ _ (by rw [zai]; omega))
         ((rowAt_part d1 (by simp [allOne, Value.oneCell'])).ch ((Ch.refl [] w2).alloc _)) ((rowAt_part d0 (zbl t)).ch ((Ch.refl [] w2).alloc _)) ((rowAt_part d0 (zbl t)).ch ((Ch.refl [] w2).alloc _)) ((rowAt_part d0 (zbl t)).ch ((Ch.refl [] w2).alloc _))).mono ?_
  rintro e w3 ⟨v, rfl, hown, hc3⟩
  have hob := own_block hown
  obtain ⟨xs, hxs⟩ : ∃ xs, ((#[U t.count, .int .u64 x0, .int .u64 x1, .int .u64 x2] : Array Value).extract 0 (0 + 4)).toList ++ ((tcells t).extract 5 (5 + 2)).toList ++ ((tcells t).extract 7 (7 + 16)).toList ++ ((tcells t).extract 23 (23 + 16)).toList = xs := ⟨_, rfl⟩
  rw [hxs] at hown
  have HT2 : xs ++ [U 0#64, U 0#64] = (twords t).map fun x => U x := by rw [← hxs]; exact HT.out
  have P1 := padded38_row2 _ v _ w3 hc3.size hown
  have HT3 := Lib.hid HT2
  clear hown HT HT2
  go_wp2_with (go_at_call 140; refine P1.mono ?_; rintro e w4 ⟨R, c, cur, rfl, hR, hW, hel, hcap, hc4⟩; have HP := Lib.hid hcap; clear hcap; have HE := Lib.hid hel; clear hel)
  go_ret2
  have hC3 : Ch [] w w3 := ((hC0.trans hc1).alloc _).trans hc3
  simp only [World.size_alloc] at hob hR
  refine ⟨R, c, cur, rfl, by omega, fun j x hj => HE.out j _ (by rw [HT3.out, List.getElem?_map, hj]; rfl), HP.out, hW, ?_⟩
  exact hC3.trans2 hc4 (fun s hs => .inr (by have := hob s (by simpa using hs); omega))
end
section
attribute [local go_sem] box26 zcb cell0 cell1 cell2 cell3 cell4 zcn zcm
def cells22 (t : Tab) : List (BitVec 64) := List.replicate 16 0#64 ++ (twords t ++ List.replicate 80 0#64)
theorem cells22_len (t : Tab) : (cells22 t).length = 136 := by unfold cells22; rw [List.length_append, List.length_append, List.length_replicate, List.length_replicate, twords_len]
theorem cells22_get (t : Tab) (i : Nat) (h : i < 40) : (cells22 t)[16 + i]? = some (tword t i) := by
  unfold cells22
  rw [List.getElem?_append_right (by rw [List.length_replicate]; omega), List.length_replicate, show 16 + i - 16 = i by omega, List.getElem?_append_left (by rw [twords_len]; omega), twords_get t i h]
theorem zeros_cells22 (n : Nat) : madeCells #[.int .u64 0] n = wcells (List.replicate n 0#64) := by
  apply Array.ext_getElem?
  intro i
  unfold wcells
  simp only [List.map_replicate, List.getElem?_toArray, List.getElem?_replicate]
  by_cases h : i < n
  · simp [madeCells, h, Nat.mod_one, U, N]
  · rw [Array.getElem?_eq_none (by rw [size_madeCells]; omega)]; simp [h]
theorem cells22_row (t : Tab) : ((wcells (List.replicate 136 0#64)).toList.take 16 ++ ((twords t).map fun x => U x) ++ (wcells (List.replicate 136 0#64)).toList.drop (16 + 40)).toArray = wcells (cells22 t) := by
  rw [wcells_list]
  unfold wcells cells22
  rw [← List.map_take, ← List.map_drop, List.take_replicate, List.drop_replicate, List.map_append, List.map_append, List.append_assoc]
  rfl
attribute [local irreducible] tcells
theorem cells22_ok (t : Tab) (hf : flatT t = true) (w : World) : Calls Tryz.prog 42 #[.agg (tcells t)] w fun e w' => ∃ R, e = .returned (.slice (some ⟨R, 0, none⟩) 136 136) ∧ w.heap.size ≤ R ∧ w'.heap[R]? = some (.cells (wcells (cells22 t)) 22 (0, 0)) ∧ Ch [] w w' := by
  have W1 := fun w => words_row2 t hf w
  have hm : ∀ w, (Instr.makeSlice 44 (.int .i64 136) (.int .i64 136)).run Tryz.prog w = .ok (.slice (some ⟨w.heap.size, 0, none⟩) 136 136) (w.alloc (.cells (madeCells #[.int .u64 0] 136) 22)) := fun w => run_make_row' (P := Tryz.prog) 44 22 (.int .u64 0) 8 Tryz.underlying44 infoU rfl .i64 .i64 136 (by omega) (by omega) w
  simp only [zeros_cells22] at hm
  have htl : ((twords t).map (fun x => U x)).length = 40 := by rw [List.length_map, twords_len]
  have C0 : Ch [] w (w.alloc (.cells (tcells t) 26)) := (Ch.refl [] w).alloc _
  have HROW := Lib.hid (cells22_row t)
  obtain ⟨xs, hxs⟩ : ∃ xs, twords t = xs := ⟨_, rfl⟩
  rw [hxs] at W1 htl HROW
  obtain ⟨cc, hcc⟩ : ∃ ys, wcells (cells22 t) = ys := ⟨_, rfl⟩
  rw [hcc] at HROW ⊢
  obtain ⟨zc, hzc⟩ : ∃ ys, wcells (List.replicate 136 0#64) = ys := ⟨_, rfl⟩
  have hzs : zc.size = 136 := by rw [← hzc, wcells_size, List.length_replicate]
  rw [hzc] at HROW
  simp only [hzc] at hm
  clear hf hxs hcc hzc
  go_enter Tryz.func42, Tryz.ntmps42
  go_wp2_with fail
  refine (W1 _).mono ?_
  rintro e w1 ⟨R, c, cur, rfl, hRw, hcur, hc40, hR, hc1⟩
  have C1 := C0.trans hc1
  have HC := Lib.hid hcur
  have hRn := nsz hR
  have hsz : w.heap.size ≤ w1.heap.size := C1.size
  have hm1 := hm w1
  have hR1 : (w1.alloc (.cells zc 22)).heap[R]? = some (.cells cur 22 (0, 0)) := by rw [zae, if_neg hRn]; exact hR
  have hz1 : (w1.alloc (.cells zc 22)).heap[w1.heap.size]? = some (.cells zc 22 (0, 0)) := by rw [zae, if_pos rfl]
  have C2 : Ch [] w (w1.alloc (.cells zc 22)) := C1.alloc _
  clear hc1 C0 W1 hcur hR hm hRn
  obtain ⟨D, hD⟩ : ∃ D, w1.heap.size = D := ⟨_, rfl⟩
  obtain ⟨w2, hw2⟩ : ∃ W, w1.alloc (.cells zc 22) = W := ⟨_, rfl⟩
  rw [hw2] at hm1 hR1 hz1 C2
  rw [hD] at hm1 hz1 hsz
  have hcp := run_copy_row (P := Tryz.prog) w2 44 44 3 22 D 16 120 120 ⟨R, 0, none⟩ 40 c zc 22 (xs.map fun x => U x) Tryz.underlying44 (by kernel_rfl) hz1 (by rw [htl]; rfl) (by
    intro j u hj
    rw [List.getElem?_map] at hj
    obtain ⟨y, hy, rfl⟩ := Option.map_eq_some_iff.1 hj
    rw [Addr.add_lit, zaw, hR1, Option.bind_some, zaj, Nat.zero_add]
    exact HC.out j y hy) (by rw [htl, hzs]; omega) (words_one xs)
  rw [htl, HROW.out] at hcp
  have hh := setRow_heap w2 D zc cc 22 (0, 0) hz1
  have hC : Ch [] w (w2.setRow D cc) := C2.trans2 (setRow_ch22 w2 D cc) (by intro s hs; right; simp at hs; omega)
  obtain ⟨w3, hw3⟩ : ∃ W, w2.setRow D cc = W := ⟨_, rfl⟩
  rw [hw3] at hcp hh hC
  clear hR1 hz1 C2 C1 HC hD hw3
  go_wp2
  go_ret
  exact ⟨D, rfl, hsz, hh, hC⟩
end
end Go.Proofs.Hc
