/- Package table: the pairs of full slots. -/
import Derived.Test.YtcikopeddljgkaaGreatJHxo
set_option linter.unusedSimpArgs false
set_option linter.unusedVariables false
set_option maxHeartbeats 2000000
set_option maxRecDepth 100000
namespace Go.Proofs.Hc
open Go.RowKit
attribute [local go_sem] zbu zcc zax zbf zbo zbd zbn zbp zbw signed64 signed8 zap BitVec.ofInt_add BitVec.ofInt_mul ofInt_sub' zbb zbc wide8 eqN neN zca shr1 shr7 shr56
attribute [local go_sem high] zbe zbv
attribute [local go_sem] zaw zby zaj zas zaf zaz zar zak zbm zal zay zba
attribute [local go_sem] load26 load73 load23 store26 build73
attribute [local go_sem ↓] lrow26 lrow73 lrow23 srow26 zero26 brow73 zae zbk zbg zaa zab
attribute [local go_sem] zai zav zat zbj zbl zbr zaq zau zbs zbi zbh
attribute [local go_sem] nn2 nm2 nn3 nm3 nn4 nm4 nn5 nm5 nn6 nm6 nn7 nm7 nn8 nm8
section
attribute [local go_sem] Oper.semAt_some zao
attribute [local go_sem] box26 zcb cell0 cell1 cell2 cell3 cell4 zcn zcm
attribute [local go_sem] cell5 cell6
def pairsT (t : Tab) : List (BitVec 64 × BitVec 64) := (slotsT t).map fun x => (t.k x.1, t.v x.1)
def pcells (l : List (BitVec 64 × BitVec 64)) : List Value := l.flatMap fun p => [U p.1, U p.2]
theorem pcells_snoc (l : List (BitVec 64 × BitVec 64)) (p : BitVec 64 × BitVec 64) : pcells (l ++ [p]) = pcells l ++ [U p.1, U p.2] := by
  simp [pcells]
theorem infoP : (Tryz.prog.info? 31).map (fun i => (i.zero, i.size, i.bytes)) = some (some (.agg #[.int .u64 0, .int .u64 0]), 2, 16) := by kernel_rfl
theorem build_pair (x y : BitVec 64) (w : World) : (Instr.build 31 #[(0, U x), (1, U y)]).run Tryz.prog w = .ok (.agg #[U x, U y]) w := by kernel_rfl
theorem build_slice1 (x y : BitVec 64) (w : World) : (Instr.buildSlice 27 1 #[(0, .agg #[U x, U y])]).run Tryz.prog w = .ok (.slice (some ⟨w.heap.size, 0, none⟩) 1 1) (w.alloc (.cells #[U x, U y] 31)) := by kernel_rfl
attribute [local go_sem] build_pair build_slice1
theorem own_lt {W : World} {base n size : Nat} {e : TypeId} {v : Value} {xs : List Value} (h : W.ownsRow base e size v n xs) {k : Nat} (hk : v.ownBlock = some k) : k < W.heap.size := by
  rcases h.2 with ⟨rfl, _⟩ | ⟨g, cap, cur, rfl, _, hW, _⟩
  · cases hk
  · cases hk; exact (Array.getElem?_eq_some_iff.1 hW).1
theorem cell_two_new (w : World) (x y : Value) (t : TypeId) : ∀ j u, [x, y][j]? = some u → (w.alloc (.cells #[x, y] t)).cell? ((⟨w.heap.size, 0, none⟩ : Addr).add j) = some u := by
  intro j u hj
  have hadd : (⟨w.heap.size, 0, none⟩ : Addr).add j = ⟨w.heap.size, 0 + j, none⟩ := by unfold Addr.add; split <;> simp_all
  rw [hadd, zaw, zae, if_pos rfl]
  show (#[x, y] : Array Value)[0 + j]? = some u
  rw [Nat.zero_add]; simpa using hj
end
end Go.Proofs.Hc
namespace Go.Proofs.Hc
open Go.RowKit
def bt (t : Tab) (j : Nat) : BitVec 8 := byteAt (t.c (j / 8)) (j % 8)
def fullJ (t : Tab) (j : Nat) : Bool := decide ((bt t j).toNat < 128)
def fillJ (t : Tab) (j : Nat) : Bool := bt t j != 128#8
@[irreducible] def nFull (t : Tab) : Nat := (List.range 16).countP (fullJ t)
@[irreducible] def nFill (t : Tab) : Nat := (List.range 16).countP (fillJ t)
theorem bt_at (t : Tab) (g x : Nat) (hx : x < 8) : bt t (8 * g + x) = byteAt (t.c g) x := by
  unfold bt
  rw [show (8 * g + x) / 8 = g by omega, show (8 * g + x) % 8 = x by omega]
theorem range16 : List.range 16 = (List.range 8).map (fun x => 8 * 0 + x) ++ (List.range 8).map (fun x => 8 * 1 + x) := by decide
theorem slotsOf_eq (t : Tab) (g : Nat) : slotsOf t g = (((List.range 8).map fun x => 8 * g + x).filter (fullJ t)).map fun j => (j, j / 8) := by
  unfold slotsOf lanesOf
  rw [List.filter_map, List.map_map]
  have h : (List.range 8).filter (fun i => (fullM (t.c g)).getLsbD i) = (List.range 8).filter (fullJ t ∘ fun x => 8 * g + x) := by
    apply List.filter_congr
    intro x hx
    have hx8 : x < 8 := by simpa using hx
    rw [fullM_bit _ _ hx8, Function.comp_apply, fullJ, bt_at t g x hx8]
  rw [h]
  apply List.map_congr_left
  intro x hx
  have hx8 : x < 8 := by simpa using (List.mem_filter.1 hx).1
  show (8 * g + x, g) = (8 * g + x, (8 * g + x) / 8)
  rw [show (8 * g + x) / 8 = g by omega]
theorem slotsT_eq (t : Tab) : slotsT t = ((List.range 16).filter (fullJ t)).map fun j => (j, j / 8) := by
  unfold slotsT
  rw [slotsOf_eq, slotsOf_eq, range16, List.filter_append, List.map_append]
theorem slotsT_len (t : Tab) : (slotsT t).length = nFull t := by
  rw [slotsT_eq, List.length_map, nFull, List.countP_eq_length_filter]
theorem mem_slotsT (t : Tab) (x : Nat × Nat) : x ∈ slotsT t ↔ x.1 < 16 ∧ fullJ t x.1 = true ∧ x.2 = x.1 / 8 := by
  rw [slotsT_eq, List.mem_map]
  constructor
  · rintro ⟨j, hj, rfl⟩
    obtain ⟨h1, h2⟩ := List.mem_filter.1 hj
    exact ⟨by simpa using h1, h2, rfl⟩
  · rintro ⟨h1, h2, h3⟩
    exact ⟨x.1, List.mem_filter.2 ⟨by simpa using h1, h2⟩, by rw [← h3]⟩
theorem ok_iff (t : Tab) : (ctrlOk (t.c 0) && ctrlOk (t.c 1)) = true ↔ ∀ j, j < 16 → (bt t j).toNat < 128 ∨ bt t j = 128#8 ∨ bt t j = 254#8 := by
  rw [Bool.and_eq_true, ctrlOk_iff, ctrlOk_iff]
  constructor
  · rintro ⟨h0, h1⟩ j hj
    unfold bt
    rcases Nat.lt_or_ge j 8 with h | h
    · rw [show j / 8 = 0 by omega]; exact h0 _ (by omega)
    · rw [show j / 8 = 1 by omega]; exact h1 _ (by omega)
  · intro h
    constructor
    · intro n hn; have := h (8 * 0 + n) (by omega); rwa [bt_at t 0 n hn] at this
    · intro n hn; have := h (8 * 1 + n) (by omega); rwa [bt_at t 1 n hn] at this
theorem filledL_eq (t : Tab) (g : Nat) (h : ctrlOk (t.c g) = true) : filledL (t.c g) = ((List.range 8).map fun x => 8 * g + x).countP (fillJ t) := by
  unfold filledL lanesOf
  rw [List.countP_map, List.countP_eq_length_filter]
  congr 1
  apply List.filter_congr
  intro x hx
  have hx8 : x < 8 := by simpa using hx
  rw [BitVec.getLsbD_or, fullM_bit _ _ hx8, delM_bit _ _ hx8, Function.comp_apply, fillJ, bt_at t g x hx8]
  rcases (ctrlOk_iff _).1 h x hx8 with h1 | h1 | h1
  · rw [decide_eq_true h1, Bool.true_or]
    have : byteAt (t.c g) x ≠ 128#8 := by intro e; rw [e] at h1; exact absurd h1 (by decide)
    simp [this]
  · rw [h1]; decide
  · rw [h1]; decide
theorem filled_eq (t : Tab) (h : (ctrlOk (t.c 0) && ctrlOk (t.c 1)) = true) : filledL (t.c 0) + filledL (t.c 1) = nFill t := by
  rw [Bool.and_eq_true] at h
  rw [filledL_eq t 0 h.1, filledL_eq t 1 h.2, nFill, range16, List.countP_append]
theorem slotOk_iff (t : Tab) (s : BitVec 64) (x : Nat × Nat) (hx : x.2 = x.1 / 8) : slotOk t s x = true ↔
    bt t x.1 = hash2 (hashOf s (t.k x.1)) ∧ hasT t (hashOf s (t.k x.1)) = true ∧ x.1 / 8 ∈ rowT t s (t.k x.1) := by
  unfold slotOk bt
  rw [Bool.and_eq_true, Bool.and_eq_true, beq_iff_eq, decide_eq_true_iff, hx]
theorem goodAll_iff (t : Tab) (s : BitVec 64) : ∀ (l : List (Nat × Nat)) (seen : List (BitVec 64)), goodAll t s seen l = true ↔
    (∀ x ∈ l, slotOk t s x = true) ∧ (∀ x ∈ l, t.k x.1 ∉ seen) ∧ (l.map fun x => t.k x.1).Nodup
  | [], seen => by simp [goodAll]
  | x :: l, seen => by
    rw [goodAll, Bool.and_eq_true, Bool.and_eq_true, goodAll_iff t s l, List.map_cons, List.nodup_cons]
    simp only [Bool.not_eq_true', List.mem_cons, forall_eq_or_imp, List.contains_eq_mem, decide_eq_false_iff_not, not_or, List.mem_map, not_exists, not_and]
    constructor
    · rintro ⟨⟨h1, h2⟩, h3, h4, h5⟩
      exact ⟨⟨h2, h3⟩, ⟨h1, fun y hy => (h4 y hy).2⟩, fun y hy => (h4 y hy).1, h5⟩
    · rintro ⟨⟨h2, h3⟩, ⟨h1, h4⟩, h6, h5⟩
      exact ⟨⟨h1, h2⟩, h3, fun y hy => ⟨h6 y hy, h4 y hy⟩, h5⟩
structure May (t : Tab) (s : BitVec 64) : Prop where
  flat : flatT t = true
  ok : ∀ j, j < 16 → (bt t j).toNat < 128 ∨ bt t j = 128#8 ∨ bt t j = 254#8
  slot : ∀ j, j < 16 → fullJ t j = true → bt t j = hash2 (hashOf s (t.k j)) ∧ hasT t (hashOf s (t.k j)) = true ∧ j / 8 ∈ rowT t s (t.k j)
  inj : ∀ i j, i < 16 → j < 16 → fullJ t i = true → fullJ t j = true → t.k i = t.k j → i = j
  live : t.live = (nFull t : Int)
  can : t.can = 14 - (nFill t : Int)
theorem nodup_filter_map {α : Type} [DecidableEq α] (p : Nat → Bool) (f : Nat → α) (n : Nat) : ((((List.range n).filter p).map f).Nodup) ↔ ∀ i j, i < n → j < n → p i = true → p j = true → f i = f j → i = j := by
  rw [List.Nodup, List.pairwise_map]
  constructor
  · intro h i j hi hj hpi hpj he
    have h2 : ((List.range n).filter p).Pairwise (fun a b => a ≠ b → f a ≠ f b) := List.Pairwise.imp (S := fun a b => a ≠ b → f a ≠ f b) (fun hab _ => hab) h
    have h3 : ((List.range n).filter p).Pairwise (flip fun a b => a ≠ b → f a ≠ f b) := List.Pairwise.imp (S := flip fun a b => a ≠ b → f a ≠ f b) (fun hab _ e => hab e.symm) h
    have hmi : i ∈ (List.range n).filter p := List.mem_filter.2 ⟨by simpa using hi, hpi⟩
    have hmj : j ∈ (List.range n).filter p := List.mem_filter.2 ⟨by simpa using hj, hpj⟩
    rcases Nat.lt_trichotomy i j with hlt | he | hlt
    · exact absurd he (List.Pairwise.forall_of_forall_of_flip (R := fun a b => a ≠ b → f a ≠ f b) (fun x _ h => absurd rfl h) h2 h3 hmi hmj (by omega))
    · exact he
    · exact absurd he (List.Pairwise.forall_of_forall_of_flip (R := fun a b => a ≠ b → f a ≠ f b) (fun x _ h => absurd rfl h) h2 h3 hmi hmj (by omega))
  · intro h
    refine List.Pairwise.imp_of_mem (R := fun a b => a < b) (fun {a b} ha hb hab he => ?_) ((List.pairwise_lt_range (n := n)).filter _)
    have h1 := List.mem_filter.1 ha
    have h2 := List.mem_filter.1 hb
    have := h a b (by simpa using h1.1) (by simpa using h2.1) h1.2 h2.2 he
    omega
theorem may_iff (t : Tab) (s : BitVec 64) : mayT t s = true ↔ May t s := by
  have hok := ok_iff t
  have hfl := filled_eq t
  rw [mayT]
  generalize (ctrlOk (t.c 0) && ctrlOk (t.c 1)) = co at *
  simp only [Bool.and_eq_true, beq_iff_eq]
  rw [goodAll_iff, slotsT_len]
  have hnd : ((slotsT t).map fun x => t.k x.1).Nodup ↔ ∀ i j, i < 16 → j < 16 → fullJ t i = true → fullJ t j = true → t.k i = t.k j → i = j := by
    rw [slotsT_eq, List.map_map]
    exact nodup_filter_map (fullJ t) t.k 16
  rw [hnd]
  constructor
  · rintro ⟨⟨⟨⟨h1, h2⟩, h3, -, h4⟩, h5⟩, h6⟩
    refine ⟨h1, hok.1 h2, fun j hj hf => ?_, h4, h5, ?_⟩
    · exact (slotOk_iff t s (j, j / 8) rfl).1 (h3 (j, j / 8) ((mem_slotsT t _).2 ⟨hj, hf, rfl⟩))
    · rw [← hfl h2]; exact h6
  · rintro ⟨h1, h2, h3, h4, h5, h6⟩
    have h2' := hok.2 h2
    refine ⟨⟨⟨⟨h1, h2'⟩, fun x hx => ?_, fun x _ => by simp, h4⟩, h5⟩, ?_⟩
    · obtain ⟨a, b, c⟩ := (mem_slotsT t x).1 hx
      exact (slotOk_iff t s x c).2 (h3 x.1 a b)
    · rw [hfl h2']; exact h6
def hasE (t : Tab) (g : Nat) : Bool := emptyM (t.c g) != 0#8
theorem mask_ne (m : BitVec 8) : (m != 0#8) = true ↔ ∃ x, x < 8 ∧ m.getLsbD x = true := by
  rw [bne_iff_ne]
  constructor
  · intro h
    apply Classical.byContradiction
    intro hn
    apply h
    apply BitVec.eq_of_getLsbD_eq
    intro i hi
    rw [BitVec.getLsbD_zero]
    cases hb : m.getLsbD i with
    | false => rfl
    | true => exact absurd ⟨i, hi, hb⟩ hn
  · rintro ⟨x, _, hx⟩ rfl
    rw [BitVec.getLsbD_zero] at hx; cases hx
theorem hasE_iff (t : Tab) (g : Nat) : hasE t g = true ↔ ∃ x, x < 8 ∧ bt t (8 * g + x) = 128#8 := by
  rw [hasE, mask_ne]
  constructor
  · rintro ⟨x, hx, h⟩; rw [emptyM_bit _ _ hx, beq_iff_eq] at h; exact ⟨x, hx, by rw [bt_at t g x hx]; exact h⟩
  · rintro ⟨x, hx, h⟩; rw [bt_at t g x hx] at h; exact ⟨x, hx, by rw [emptyM_bit _ _ hx, beq_iff_eq]; exact h⟩
theorem gOf_lt (s k : BitVec 64) : gOf s k < 2 := g0_lt _
theorem mem_row (t : Tab) (s k : BitVec 64) (g : Nat) : g ∈ rowT t s k ↔ g = gOf s k ∨ (hasE t (gOf s k) = false ∧ g = 1 - gOf s k) := by
  rw [rowT, ← hasE]
  cases hasE t (gOf s k) <;> simp
theorem row_mono {t t' : Tab} {s k : BitVec 64} {g : Nat} (h : ∀ i, i < 2 → hasE t' i = true → hasE t i = true) (hg : g ∈ rowT t s k) : g ∈ rowT t' s k := by
  rw [mem_row] at hg ⊢
  rcases hg with h1 | ⟨h1, h2⟩
  · exact .inl h1
  · refine .inr ⟨?_, h2⟩
    cases h3 : hasE t' (gOf s k) with
    | false => rfl
    | true => rw [h _ (gOf_lt s k) h3] at h1; cases h1
theorem hasKT_iff (t : Tab) (k : BitVec 64) : hasKT t k = true ↔ ∃ j, j < 16 ∧ fullJ t j = true ∧ t.k j = k := by
  rw [hasKT, List.any_eq_true]
  constructor
  · rintro ⟨x, hx, h⟩
    obtain ⟨a, b, c⟩ := (mem_slotsT t x).1 hx
    exact ⟨x.1, a, b, by simpa using h⟩
  · rintro ⟨j, hj, hf, h⟩
    exact ⟨(j, j / 8), (mem_slotsT t _).2 ⟨hj, hf, rfl⟩, by simpa using h⟩
theorem mem_pairs (t : Tab) (p : BitVec 64 × BitVec 64) : p ∈ pairsT t ↔ ∃ j, j < 16 ∧ fullJ t j = true ∧ p = (t.k j, t.v j) := by
  rw [pairsT, List.mem_map]
  constructor
  · rintro ⟨x, hx, rfl⟩
    obtain ⟨a, b, c⟩ := (mem_slotsT t x).1 hx
    exact ⟨x.1, a, b, rfl⟩
  · rintro ⟨j, hj, hf, rfl⟩
    exact ⟨(j, j / 8), (mem_slotsT t _).2 ⟨hj, hf, rfl⟩, rfl⟩
theorem pairs_len (t : Tab) : (pairsT t).length = nFull t := by rw [pairsT, List.length_map, slotsT_len]
theorem May.len {t : Tab} {s : BitVec 64} (h : May t s) : ((pairsT t).length : Int) = t.live := by rw [pairs_len, h.live]
theorem May.keys {t : Tab} {s : BitVec 64} (h : May t s) : ((pairsT t).map (·.1)).Nodup := by
  rw [pairsT, slotsT_eq, List.map_map, List.map_map]
  exact (nodup_filter_map (fullJ t) t.k 16).2 h.inj
theorem full_lt {t : Tab} {j : Nat} (h : fullJ t j = true) : (bt t j).toNat < 128 := by simpa [fullJ] using h
theorem full_fill {t : Tab} {j : Nat} (h : fullJ t j = true) : fillJ t j = true := by
  have := full_lt h
  rw [fillJ, bne_iff_ne]
  intro e
  rw [e] at this
  exact absurd this (by decide)
theorem nFull_le (t : Tab) : nFull t ≤ nFill t := by
  unfold nFull nFill
  exact List.countP_mono_left fun _ _ h => full_fill h
theorem countP_upd (p q : Nat → Bool) (sl : Nat) : ∀ n, (∀ j, j ≠ sl → q j = p j) → (List.range n).countP q + (if sl < n ∧ p sl = true then 1 else 0) = (List.range n).countP p + (if sl < n ∧ q sl = true then 1 else 0)
  | 0, _ => by simp
  | n + 1, h => by
    have ih := countP_upd p q sl n h
    rw [List.range_succ, List.countP_append, List.countP_append, List.countP_singleton, List.countP_singleton]
    by_cases hn : sl = n
    · subst hn
      simp only [Nat.lt_irrefl, false_and, if_false] at ih
      simp only [Nat.lt_succ_self, true_and]
      omega
    · rw [h n (fun e => hn e.symm)]
      have e : sl < n + 1 ↔ sl < n := by omega
      simp only [e]
      omega
end Go.Proofs.Hc
namespace Go.Proofs.Hc
open Go.RowKit
attribute [local go_sem] zbu zcc zax zbf zbo zbd zbn zbp zbw signed64 signed8 zap BitVec.ofInt_add BitVec.ofInt_mul ofInt_sub' zbb zbc wide8 eqN neN zca shr1 shr7 shr56
attribute [local go_sem high] zbe zbv
attribute [local go_sem] zaw zby zaj zas zaf zaz zar zak zbm zal zay zba
attribute [local go_sem] load26 load73 load23 store26 build73
attribute [local go_sem ↓] lrow26 lrow73 lrow23 srow26 zero26 brow73 zae zbk zbg zaa zab
attribute [local go_sem] zai zav zat zbj zbl zbr zaq zau zbs zbi zbh
attribute [local go_sem] nn2 nm2 nn3 nm3 nn4 nm4 nn5 nm5 nn6 nm6 nn7 nm7 nn8 nm8
section
attribute [local go_sem] loadA loadT2 storeA storeT2 buildA_ts buildA_sm zdd make_func zda zcd acells_get zcz acells_one t2cells_one zcy acells_all t2cells_all t2cells_l t2cells_r
attribute [local go_sem ↓] lrowA lrowT2 srowA srowT2 browA zeroA_run zeroT2_run
attribute [local go_sem] Oper.semAt_some zao zbq
attribute [local go_sem] box26 zcb cell0 cell1 cell2 cell3 cell4 zcn zcm
attribute [local go_sem] cell5 cell6
attribute [local go_sem high] zco
def newE (d : Int) (p : BitVec 64) : Except Int Tab := if decide (d < 0) || decide (5 < d) || (p >>> d.toNat != 0#64) then .error 2 else .ok (bareT 0#64 d p)
theorem shr_ge (d : Nat) (_hd : d ≤ 5) (p : BitVec 64) : (p >>> d != 0#64) = decide (2 ^ d ≤ N p) := by
  rw [Bool.eq_iff_iff, bne_iff_ne, decide_eq_true_iff, ne_eq]
  have h2 : ((2 : Int) ^ d) = ((2 ^ d : Nat) : Int) := by simp
  have hpos : 0 < 2 ^ d := Nat.two_pow_pos d
  rw [h2]
  unfold N
  rw [Int.ofNat_le]
  have e : (p >>> d).toNat = p.toNat / 2 ^ d := by rw [BitVec.toNat_ushiftRight, Nat.shiftRight_eq_div_pow]
  constructor
  · intro h
    rcases Nat.lt_or_ge p.toNat (2 ^ d) with h1 | h1
    · exact absurd (BitVec.eq_of_toNat_eq (by rw [e, Nat.div_eq_of_lt h1]; rfl)) h
    · exact h1
  · intro h hz
    have : (p >>> d).toNat = 0 := by rw [hz]; rfl
    rw [e] at this
    have := (Nat.div_eq_zero_iff).1 this
    omega
theorem build_zero (w : World) : (buildRow 26 #[]).run Tryz.prog w = .ok (.agg (tcells zeroT)) w := by kernel_rfl
attribute [local go_sem] build_zero
attribute [local go_sem ↓] brow26
theorem new_bad (d : Int) (p : BitVec 64) (w : World) (h : d < 0 ∨ 5 < d) :
    Calls Tryz.prog 75 #[I d, U p] w fun e w' => e = .returned (.tuple #[.agg (tcells zeroT), I 2]) ∧ Ch [] w w' := by
  rcases h with h | h
  all_goals
    first | (have h' : ¬ d < 0 := by omega) | skip
    go_enter Tryz.func75, Tryz.ntmps75
    go_wp2
    refine bodyPost_ret (v := .tuple #[.agg (tcells zeroT), I 2]) (results_c0t Tryz.results75 _ _ _ rfl rfl (run_loadVar_row _ _ 26 26 (tcells zeroT) (0, 0) _ ?_ Tryz.underlying26 rfl (by rw [zai]; kernel_rfl))) rfl ⟨rfl, ?_⟩
    · simp [go_sem]
    · exact ((Ch.refl [] w).alloc _).onObj (.inr (Nat.le_refl _)) _
theorem new_at (d : Int) (p : BitVec 64) (w : World) (h : d = 0 ∨ d = 1 ∨ d = 2 ∨ d = 3 ∨ d = 4 ∨ d = 5) :
    Calls Tryz.prog 75 #[I d, U p] w fun e w' => e = .returned (tupOr (fun v => .agg (tcells v)) (.agg (tcells zeroT)) (if decide (2 ^ d.toNat ≤ N p) then .error 2 else .ok (bareT 0#64 d p))) ∧ Ch [] w w' := by
  have B1 := fun w => bare_any 0#64 d p w
  generalize bareT 0#64 d p = bt at *
  obtain ⟨W0, hW0⟩ : ∃ W0, w.alloc (.cells (tcells zeroT) 26) = W0 := ⟨_, rfl⟩
  have hC0 : Ch [] w W0 := by rw [← hW0]; exact (Ch.refl [] w).alloc _
  have b0 : W0.heap[w.heap.size]? = some (.cells (tcells zeroT) 26 (0, 0)) := by rw [← hW0]; simp [go_sem]
  obtain ⟨R, hR⟩ : ∃ R : Except Int Tab, (if decide (2 ^ d.toNat ≤ N p) = true then Except.error 2 else Except.ok bt) = R := ⟨_, rfl⟩
  rw [hR]
  have HR := Lib.hid hR
  clear hR
  rcases h with rfl | rfl | rfl | rfl | rfl | rfl
  all_goals
    go_enter Tryz.func75, Tryz.ntmps75
    go_wp2_with fail
    · have e8 := ‹N _ ≤ N p›
      have e : R = .error 2 := by rw [← HR.out]; exact if_pos (decide_eq_true (Int.le_trans (by decide) e8))
      rw [e]
      refine bodyPost_ret (v := .tuple #[.agg (tcells zeroT), I 2]) (results_c0t Tryz.results75 _ _ _ rfl rfl (run_loadVar_row _ _ 26 26 (tcells zeroT) (0, 0) _ ?_ Tryz.underlying26 rfl (by rw [zai]; kernel_rfl))) rfl ⟨rfl, ?_⟩
      · simp only [zab, if_true, b0, Option.map_some, zco]
      · exact hC0.onObj (.inr (Nat.le_refl _)) _
    · refine (B1 _).mono ?_
      rintro e w1 ⟨rfl, hc1⟩
      have b1 := hkeep hc1 b0
      have e8 := ‹N p < N _›
      have e : R = .ok bt := by rw [← HR.out]; exact if_neg (by rw [decide_eq_true_iff]; exact Int.not_le.2 (Int.lt_of_lt_of_le e8 (by decide)))
      have HE := Lib.hid e
      clear e
      go_wp2
      refine bodyPost_ret (v := .tuple #[.agg (tcells bt), I 0]) (results_c0t Tryz.results75 _ _ _ rfl rfl (run_loadVar_row _ _ 26 26 (tcells bt) (0, 0) _ ?_ Tryz.underlying26 rfl (by rw [zai]; kernel_rfl))) rfl ⟨by rw [HE.out]; rfl, ?_⟩
      · simp only [zab, if_true, b1, Option.map_some, zco]
      · exact (hC0.trans hc1).onObj (.inr (Nat.le_refl _)) _
theorem New_any (d : Int) (p : BitVec 64) (w : World) :
    Calls Tryz.prog 75 #[I d, U p] w fun e w' => e = .returned (tupOr (fun v => .agg (tcells v)) (.agg (tcells zeroT)) (newE d p)) ∧ Ch [] w w' := by
  by_cases h : d < 0 ∨ 5 < d
  · refine (new_bad d p w h).mono ?_
    rintro e w' ⟨rfl, hc⟩
    refine ⟨?_, hc⟩
    rw [newE, if_pos]
    · rfl
    · rcases h with h | h
      · rw [decide_eq_true h]; rfl
      · rw [decide_eq_true h, Bool.or_true]; rfl
  · refine (new_at d p w (by omega)).mono ?_
    rintro e w' ⟨rfl, hc⟩
    refine ⟨?_, hc⟩
    rw [newE, shr_ge d.toNat (by omega) p, decide_eq_false (show ¬ d < 0 by omega), decide_eq_false (show ¬ 5 < d by omega), Bool.false_or, Bool.false_or]
end
section
attribute [local go_sem] loadA loadT2 storeA storeT2 buildA_ts buildA_sm zdd make_func zda zcd acells_get zcz acells_one t2cells_one zcy acells_all t2cells_all t2cells_l t2cells_r
attribute [local go_sem ↓] lrowA lrowT2 srowA srowT2 browA zeroA_run zeroT2_run
attribute [local go_sem] box26 zcb cell0 cell1 cell2 cell3 cell4 cell5 cell6
attribute [local go_sem] zap build_zero
attribute [local go_sem high] zco
attribute [local go_sem ↓] brow26
theorem tset {t t' : Tab} {j : Nat} {x : Value} (hj : j < 39) (hx : t'.cell j = x) (ho : ∀ i, i < 39 → i ≠ j → t'.cell i = t.cell i) : (tcells t).setIfInBounds j x = tcells t' := by
  apply Array.ext_getElem?; intro i
  rw [Array.getElem?_setIfInBounds, zat, zat, zai]
  by_cases h : j = i
  · subst h; simp [hj, hx]
  · rw [if_neg h]
    by_cases h2 : i < 39
    · simp only [h2, if_true]
      rw [ho i h2 (fun e => h e.symm)]
    · simp [h2]
theorem tset_can (t : Tab) (x : Int) : (tcells t).setIfInBounds 3 (I x) = tcells { t with can := x } :=
  tset (by omega) rfl (fun i _ h => by unfold Tab.cell; split <;> first | rfl | omega)
theorem tset_live (t : Tab) (x : Int) : (tcells t).setIfInBounds 4 (I x) = tcells { t with live := x } :=
  tset (by omega) rfl (fun i _ h => by unfold Tab.cell; split <;> first | rfl | omega)
theorem tset_key (t : Tab) (j : Nat) (hj : j < 16) (x : BitVec 64) : (tcells t).setIfInBounds (7 + j) (U x) = tcells { t with k := fun i => if i = j then x else t.k i } := by
  refine tset (by omega) ?_ (fun i hi h => ?_)
  · rw [Nat.add_comm]; simp [Tab.cell, hj]
  · unfold Tab.cell
    split <;> first | rfl | skip
    rename_i i
    by_cases h2 : i < 16
    · simp [h2, show i ≠ j by omega]
    · simp [h2]
theorem tset_val (t : Tab) (j : Nat) (hj : j < 16) (x : BitVec 64) : (tcells t).setIfInBounds (23 + j) (U x) = tcells { t with v := fun i => if i = j then x else t.v i } := by
  refine tset (by omega) ?_ (fun i hi h => ?_)
  · rw [show 23 + j = (16 + j) + 7 by omega]; simp [Tab.cell, show ¬ 16 + j < 16 by omega]
  · unfold Tab.cell
    split <;> first | rfl | skip
    rename_i i
    by_cases h2 : i < 16
    · simp [h2]
    · simp [h2, show i - 16 ≠ j by omega]
attribute [local irreducible] tcells
end
end Go.Proofs.Hc
