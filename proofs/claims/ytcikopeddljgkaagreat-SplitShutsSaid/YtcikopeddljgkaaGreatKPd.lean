/- Package table: the exported functions that look at a table. -/
import Derived.Test.YtcikopeddljgkaaGreatKHcz
import Derived.Test.YtcikopeddljgkaaGreatKPc
set_option linter.unusedSimpArgs false
set_option linter.unusedVariables false
set_option maxHeartbeats 2000000
set_option maxRecDepth 100000
namespace Go.Proofs.Hc
open Go.RowKit
attribute [local go_sem] zbr zby zau zba zbl zay zbk zbm zbu signed64 signed8 zas BitVec.ofInt_add BitVec.ofInt_mul ofInt_sub' zaw zax wide8 eqN neN zbx shr1 shr7 shr56
attribute [local go_sem high] zaz zbt
attribute [local go_sem] zan zbv zae zal zad zbd zao zag zbj zaj zbc zbe
attribute [local go_sem] load26 load73 load23 store26 build73
attribute [local go_sem ↓] lrow26 lrow73 lrow23 srow26 zero26 brow73 zab zav zbb zaa zac
attribute [local go_sem] zah zaq zat zbf zbg zbp zam zar zbq zbi zbh
attribute [local go_sem] nn2 nm2 nn3 nm3 nn4 nm4 nn5 nm5 nn6 nm6 nn7 nm7 nn8 nm8
section
attribute [local go_sem] loadA loadT2 storeA storeT2 buildA_ts buildA_sm zdl make_func zda zco acells_get t2cells_get acells_one t2cells_one acells_table acells_all t2cells_all t2cells_l t2cells_r
attribute [local go_sem ↓] lrowA lrowT2 srowA srowT2 browA zeroA_run zeroT2_run
attribute [local go_sem] Oper.semAt_some zak zbo
attribute [local go_sem] box26 zbz cell0 cell1 cell2 cell3 cell4 zcb zca
attribute [local go_sem] cell5 cell6
theorem may_ok {t : Tab} {s : BitVec 64} (h : mayT t s = true) : ctrlOk (t.c 0) = true ∧ ctrlOk (t.c 1) = true := by
  rw [mayT] at h
  simp only [Bool.and_eq_true] at h
  exact h.1.1.1.2
end
section
attribute [local go_sem] loadA loadT2 storeA storeT2 buildA_ts buildA_sm zdl make_func zda zco acells_get t2cells_get acells_one t2cells_one acells_table acells_all t2cells_all t2cells_l t2cells_r
attribute [local go_sem ↓] lrowA lrowT2 srowA srowT2 browA zeroA_run zeroT2_run
attribute [local go_sem] Oper.semAt_some zak zbo
attribute [local go_sem] box26 zbz cell0 cell1 cell2 cell3 cell4 zcb zca
attribute [local go_sem] cell5 cell6 acells_idx
attribute [local go_sem high] laidAt_t
theorem laidAt_a (a b : At) (T : TypeId) (fr : Nat × Nat) : laidAt 0 (acells b) (.cells (acells a) T fr) = .cells (acells b) T fr := by
  rw [zag, zdf _ _ (by rw [zda, zda])]
attribute [local go_sem high] laidAt_a
theorem may_okT {t : Tab} {s : BitVec 64} (h : mayT t s = true) : OkT t 0 := by
  obtain ⟨h0, h1⟩ := may_ok h
  rw [mayT] at h
  simp only [Bool.and_eq_true, beq_iff_eq] at h
  obtain ⟨⟨⟨⟨hf, _⟩, _⟩, hl⟩, hc⟩ := h
  have := slots_len t
  refine ⟨h0, h1, ?_, ?_⟩ <;> (rw [flatT] at hf; simp only [Bool.and_eq_true, decide_eq_true_eq] at hf; omega)
end
section
attribute [local go_sem] loadA loadT2 storeA storeT2 buildA_ts buildA_sm zdl make_func zda zco acells_get t2cells_get acells_one t2cells_one acells_table acells_all t2cells_all t2cells_l t2cells_r
attribute [local go_sem ↓] lrowA lrowT2 srowA srowT2 browA zeroA_run zeroT2_run
attribute [local go_sem] Oper.semAt_some zak zbo
attribute [local go_sem] box26 zbz cell0 cell1 cell2 cell3 cell4 zcb zca
attribute [local go_sem] cell5 cell6
attribute [local go_sem high] laidAt_t
theorem enters_puts1 (args : Array Value) (w : World) : (callFunc 85 args).run Tryz.prog w = .ok (.enter 85 args) w := by kernel_rfl
theorem puts1_any (t : Tab) (s : BitVec 64) (l : List (BitVec 64 × BitVec 64)) (a : Option Addr) (c : Nat) (cur : Array Value) (b p : Nat) (w : World) (hok : OkT t 0) (hn : l.length ≤ 900)
    (hb : w.heap[b]? = some (.cells (hcells t s) 141 (0, 0))) (hp : w.heap[p]? = some (.cells #[.slice a l.length c] 27 (0, 0)))
    (hpa : PairsAt cur l) (ha : 0 < l.length → ∃ r, a = some ⟨r, 0, none⟩) (hr : ∀ r, a = some ⟨r, 0, none⟩ → w.heap[r]? = some (.cells cur 31 (0, 0))) :
    Calls Tryz.prog 85 #[.pointer (some ⟨b, 0, none⟩), .pointer (some ⟨p, 0, none⟩)] w fun e w' => e = retOr (fun y => .agg (tcells y)) (laidT s t l) ∧ Ch [] w w' := by
  have hbl := (Array.getElem?_eq_some_iff.1 hb).1
  have hpl := (Array.getElem?_eq_some_iff.1 hp).1
  obtain ⟨W0, hW0⟩ : ∃ W0, w.alloc (.cells (tcells zeroT) 26) = W0 := ⟨_, rfl⟩
  have hC0 : Ch [] w W0 := by rw [← hW0]; exact (Ch.refl [] w).alloc _
  have b0 : W0.heap[w.heap.size]? = some (.cells (tcells zeroT) 26 (0, 0)) := by rw [← hW0]; simp [go_sem]
  have bb := hkeep hC0 hb
  have bp := hkeep hC0 hp
  have hgb : ∀ q : Gar W0, (q.1).heap[b]? = some (.cells (hcells t s) 141 (0, 0)) := fun q => hkeep q.2 bb
  have hgp : ∀ q : Gar W0, (q.1).heap[p]? = some (.cells #[.slice a l.length c] 27 (0, 0)) := fun q => hkeep q.2 bp
  have L1 : ∀ (W : World), Ch [] w W → W.heap[b]? = some (.cells (hcells t s) 141 (0, 0)) → Calls Tryz.prog 78 #[.pointer (some ⟨b, 0, none⟩), .agg (tcells t), .slice a l.length c] W fun e w' => e = retOr (fun x => .agg (tcells x)) (laidT s t l) ∧ Ch [] W w' :=
    fun W hc hb => laid_walk t t s l 0 a c cur b W hok (by omega) hb hpa ha (fun r hra => hkeep hc (hr r hra))
  generalize laidT s t l = r at *
  generalize l.length = n at *
  clear hr ha hpa hb hp hn hok hbl hpl bb bp
  go_enter Tryz.func85, Tryz.ntmps85
  go_wp2
  refine zcn 6 (by kernel_rfl) (by kernel_rfl) ?_
  simp only [List.take_succ_cons, List.take_zero, List.drop_succ_cons, List.drop_zero]
  repeat (go_big_quiet_step (fail))
  refine wpQuiet_nil ?_
  rintro W6 ⟨g6, hw6⟩
  have hc6 : Ch [] W0 W6 := by rw [hw6]; exact g6.2
  have e0 := hkeep hc6 b0
  have eb : W6.heap[b]? = some (.cells (hcells t s) 141 (0, 0)) := by rw [hw6]; exact hgb g6
  clear hw6 g6 hgb hgp b0
  have hCw : Ch [] w W6 := hC0.trans hc6
  cases r with
  | error e =>
    go_wp2_with (go_at_call 78; refine (L1 _ hCw eb).mono ?_; rintro e w1 ⟨rfl, hc1⟩; simp only [retOr])
    exact ⟨rfl, rfl, hCw.trans hc1⟩
  | ok y =>
    go_wp2_with (go_at_call 78; refine (L1 _ hCw eb).mono ?_; rintro e w1 ⟨rfl, hc1⟩; simp only [retOr]; have f0 := hkeep hc1 e0)
    refine bodyPost_ret (v := .agg (tcells y)) (zcl Tryz.results85 _ _ _ rfl (run_loadVar_row _ _ 26 26 (tcells y) (0, 0) _ ?_ Tryz.underlying26 rfl (by rw [zah]; kernel_rfl))) rfl ⟨rfl, ?_⟩
    · simp only [zac, if_true, f0, Option.map_some, laidAt_t]
    · exact (hCw.trans hc1).onObj (.inr (Nat.le_refl _)) _
theorem Puts_any (t : Tab) (s : BitVec 64) (l : List (BitVec 64 × BitVec 64)) (a : Option Addr) (c : Nat) (cur : Array Value) (w : World) (hn : l.length ≤ 900)
    (hpa : PairsAt cur l) (ha : 0 < l.length → ∃ r, a = some ⟨r, 0, none⟩) (hr : ∀ r, a = some ⟨r, 0, none⟩ → w.heap[r]? = some (.cells cur 31 (0, 0))) :
    Calls Tryz.prog 17 #[U s, .agg (tcells t), .slice a l.length c] w fun e w' => e = .returned (tupOr (fun v => .agg (tcells v)) (.agg (tcells zeroT)) (ifMay t s (laidT s t l))) ∧ Ch [] w w' := by
  have T1 : ∀ (w : World) (cap : Array Value), _ → Calls Tryz.prog 76 #[U s, .agg (tcells t), .func (.func 85) #[] cap] w fun e w' => e = .returned (tupOr (fun v => .agg (tcells v)) (.agg (tcells zeroT)) (ifMay t s (laidT s t l))) ∧ Ch [] w w' := fun w cap hd => tries26_any t s 85 cap (laidT s t l) w enters_puts1 hd
  have D1 := fun b p w hok hb hp hr => puts1_any t s l a c cur b p w hok hn hb hp hpa ha hr
  have hm := fun h => may_okT (t := t) (s := s) h
  generalize ifMay t s (laidT s t l) = R at *
  generalize laidT s t l = r at *
  generalize l.length = n at *
  obtain ⟨y, e0, htup⟩ := tup26 R
  rw [htup]
  have HR := Lib.hid hr
  clear hr ha hpa hn
  obtain ⟨W0, hW0⟩ : ∃ W0, ((w.alloc (.cells (tcells t) 26)).alloc (.cells #[.slice a n c] 27)).alloc (.cells (tcells zeroT) 26) = W0 := ⟨_, rfl⟩
  have hC0 : Ch [] w W0 := by rw [← hW0]; exact (((Ch.refl [] w).alloc _).alloc _).alloc _
  have b0 : W0.heap[w.heap.size]? = some (.cells (tcells t) 26 (0, 0)) := by rw [← hW0]; simp [go_sem]
  have b1 : W0.heap[w.heap.size + 1]? = some (.cells #[.slice a n c] 27 (0, 0)) := by rw [← hW0]; simp [go_sem]
  have b2 : W0.heap[w.heap.size + 1 + 1]? = some (.cells (tcells zeroT) 26 (0, 0)) := by rw [← hW0]; simp [go_sem]
  go_enter Tryz.func17, Tryz.ntmps17
  go_wp2_with fail
  refine (T1 W0 #[.pointer (some ⟨w.heap.size + 1, 0, none⟩)] ?_).mono ?_
  · intro hmt b w1 hb hc hle
    refine (D1 b (w.heap.size + 1) w1 (hm hmt) hb (hkeep hc b1) (fun r hra => hkeep (hC0.trans hc) (HR.out r hra))).mono ?_
    rintro e w2 ⟨rfl, hc2⟩
    exact ⟨rfl, hc2.of_nil⟩
  · rintro e w1 ⟨rfl, hc1⟩
    have d2 := hkeep hc1 b2
    clear T1 D1 hm b0 b1 b2
    rw [htup]
    clear htup
    go_wp2
    refine bodyPost_ret (v := .tuple #[.agg (tcells y), I e0]) (results_c0t Tryz.results17 _ _ _ rfl rfl (run_loadVar_row _ _ 26 26 (tcells y) (0, 0) _ ?_ Tryz.underlying26 rfl (by rw [zah]; kernel_rfl))) rfl ⟨rfl, ?_⟩
    · simp only [zac, if_true, d2, Option.map_some, laidAt_t]
    · exact (hC0.trans hc1).onObj (.inr (by omega)) _
end
section
attribute [local go_sem] loadA loadT2 storeA storeT2 buildA_ts buildA_sm zdl make_func zda zco acells_get t2cells_get acells_one t2cells_one acells_table acells_all t2cells_all t2cells_l t2cells_r
attribute [local go_sem ↓] lrowA lrowT2 srowA srowT2 browA zeroA_run zeroT2_run
attribute [local go_sem] Oper.semAt_some zak zbo
attribute [local go_sem] box26 zbz cell0 cell1 cell2 cell3 cell4 zcb zca
attribute [local go_sem] cell5 cell6
attribute [local go_sem] loadP storeP allOne_pair
attribute [local go_sem ↓] lrowP srowP zeroP
attribute [local go_sem high] laidAt_t laidAt_p
def halfB (t : Tab) (i : Nat) : Tab := bareT 0#64 (t.depth + 1) (2#64 * t.pre + BitVec.ofNat 64 i)
def goesH (t : Tab) (s : BitVec 64) (i : Nat) (p : BitVec 64 × BitVec 64) : Bool := hasT (halfB t i) (hashOf s p.1)
def halfL (t : Tab) (s : BitVec 64) (i : Nat) : List (BitVec 64 × BitVec 64) := (pairsT t).filter (goesH t s i)
theorem laidAt_t2 (a b : T2) (T : TypeId) (fr : Nat × Nat) : laidAt 0 (t2cells b) (.cells (t2cells a) T fr) = .cells (t2cells b) T fr := by
  rw [zag, zdf _ _ (by rw [zco, zco])]
attribute [local go_sem high] laidAt_t2
end
end Go.Proofs.Hc
namespace Go.Proofs.Hc
open Go.RowKit
def Clean (t : Tab) : Prop := ∀ j, j < 16 → bt t j ≠ 254#8
theorem clean_nFill {t : Tab} {s : BitVec 64} (m : May t s) (h : Clean t) : nFill t = nFull t := by
  unfold nFill nFull
  apply List.countP_congr
  intro j hj
  have hj16 : j < 16 := by simpa using hj
  rw [fillJ, fullJ, bne_iff_ne, decide_eq_true_iff]
  rcases m.ok j hj16 with e | e | e
  · exact ⟨fun _ => e, fun _ h => by rw [h] at e; exact absurd e (by decide)⟩
  · rw [e]; exact ⟨fun h => absurd rfl h, fun h => absurd h (by decide)⟩
  · exact absurd e (h j hj16)
theorem clean_can {t : Tab} {s : BitVec 64} (m : May t s) (h : Clean t) : t.can = 14 - t.live := by rw [m.can, m.live, clean_nFill m h]
theorem Clean.fill {t : Tab} (h : Clean t) (s k v : BitVec 64) (sl : Nat) : Clean (fillT t s k v sl) := by
  intro j hj
  rw [bt_fill]
  split
  · intro e
    have := hash2_lt (hashOf s k)
    rw [e] at this; exact absurd this (by decide)
  · exact h j hj
theorem bt_bare (c : BitVec 64) (d : Int) (p : BitVec 64) (j : Nat) : bt (bareT c d p) j = 128#8 := byteAt_tops _ (by omega)
theorem clean_bare (c : BitVec 64) (d : Int) (p : BitVec 64) : Clean (bareT c d p) := fun j _ => by rw [bt_bare]; decide
theorem bare_full (c : BitVec 64) (d : Int) (p : BitVec 64) (j : Nat) : fullJ (bareT c d p) j = false := by rw [fullJ, bt_bare]; decide
theorem bare_pairs (c : BitVec 64) (d : Int) (p : BitVec 64) (q : BitVec 64 × BitVec 64) : ¬ q ∈ pairsT (bareT c d p) := by
  rw [mem_pairs]
  rintro ⟨j, _, hf, _⟩
  rw [bare_full] at hf; cases hf
theorem bare_flat {c : BitVec 64} {d : Int} {p : BitVec 64} (h0 : 0 ≤ d) (h5 : d ≤ 5) (hp : N (p >>> d.toNat) = 0) : flatT (bareT c d p) = true :=
  (flatT_iff _).2 ⟨h0, h5, hp, by show (0 : Int) ≤ 14; omega, by show (14 : Int) ≤ 14; omega, by show (0 : Int) ≤ 0; omega, by show (0 : Int) ≤ 14; omega⟩
theorem bare_may {c : BitVec 64} {d : Int} {p : BitVec 64} (s : BitVec 64) (h : flatT (bareT c d p) = true) : May (bareT c d p) s := by
  have h1 : nFull (bareT c d p) = 0 := by
    unfold nFull
    rw [List.countP_eq_zero]
    intro j _
    rw [bare_full]; simp
  have h2 : nFill (bareT c d p) = 0 := by
    unfold nFill
    rw [List.countP_eq_zero]
    intro j _
    rw [fillJ, bt_bare]; decide
  refine ⟨h, fun j _ => .inr (.inl (bt_bare c d p j)), fun j _ hf => ?_, fun i j _ _ hf => ?_, ?_, ?_⟩
  · rw [bare_full] at hf; cases hf
  · rw [bare_full] at hf; cases hf
  · rw [h1]; rfl
  · rw [h2]; rfl
theorem has_fill {t : Tab} {s k v : BitVec 64} {sl : Nat} (m : May (fillT t s k v sl) s) {h : BitVec 64} (hh : hasT t h = true) : hasT (fillT t s k v sl) h = true :=
  hasT_of hh m.flat (fill_depth ..) (fill_pre ..)
structure Laid (s : BitVec 64) (t0 : Tab) (l : List (BitVec 64 × BitVec 64)) (x : Tab) : Prop where
  eq : laidT s t0 l = .ok x
  may : May x s
  clean : Clean x
  mem : ∀ q, q ∈ pairsT x ↔ q ∈ l ∨ q ∈ pairsT t0
  live : x.live = t0.live + l.length
  depth : x.depth = t0.depth
  pre : x.pre = t0.pre
  count : x.count = t0.count
theorem laid_ok {s : BitVec 64} : ∀ (l : List (BitVec 64 × BitVec 64)) (t0 : Tab), May t0 s → Clean t0 → (∀ p ∈ l, hasT t0 (hashOf s p.1) = true) → ((l.map (·.1)).Nodup) → (∀ p ∈ l, ∀ q ∈ pairsT t0, q.1 ≠ p.1) → t0.live + l.length ≤ 14 → ∃ x, Laid s t0 l x
  | [], t0, m, hc, _, _, _, _ => ⟨t0, rfl, m, hc, fun q => by simp, by simp, rfl, rfl, rfl⟩
  | p :: l, t0, m, hc, hg, hn, hd, hl => by
    have hcan := clean_can m hc
    rw [List.length_cons] at hl
    rw [List.map_cons, List.nodup_cons] at hn
    have hno : hasKT t0 p.1 = false := by
      cases h : hasKT t0 p.1 with
      | false => rfl
      | true =>
        obtain ⟨j, hj, hf, hk⟩ := (hasKT_iff t0 p.1).1 h
        exact absurd hk (hd p (by simp) (t0.k j, t0.v j) ((mem_pairs t0 _).2 ⟨j, hj, hf, rfl⟩))
    obtain ⟨sl, hsl⟩ := place_room m (by omega) (hg p (by simp)) hno
    have hsp := place_spot hsl
    have m' := m.fill p.2 hsp
    have hp' := fill_pairs p.2 hsp
    obtain ⟨x, hx⟩ := laid_ok l (fillT t0 s p.1 p.2 sl) m' (hc.fill _ _ _ _) (fun q hq => has_fill m' (hg q (by simp [hq]))) hn.2 (fun q hq r hr => by
      rcases (hp' r).1 hr with rfl | hr
      · intro e; exact hn.1 (List.mem_map.2 ⟨q, hq, e.symm⟩)
      · exact hd q (by simp [hq]) r hr) (by show t0.live + 1 + _ ≤ 14; omega)
    refine ⟨x, ?_, hx.may, hx.clean, fun q => ?_, ?_, hx.depth.trans (fill_depth ..), hx.pre.trans (fill_pre ..), hx.count.trans (fill_count ..)⟩
    · rw [laidT_ok hsl]; exact hx.eq
    · rw [hx.mem q, hp' q, List.mem_cons]
      constructor
      · rintro (h | h | h)
        · exact .inl (.inr h)
        · exact .inl (.inl h)
        · exact .inr h
      · rintro ((h | h) | h)
        · exact .inr (.inl h)
        · exact .inl h
        · exact .inr (.inr h)
    · rw [hx.live]; show t0.live + 1 + (l.length : Int) = _; rw [List.length_cons]; omega
theorem topT_nat (h : BitVec 64) (d : Int) (h0 : 0 ≤ d) (h5 : d ≤ 63) : (topT h d).toNat = h.toNat / 2 ^ (64 - d.toNat) := by
  unfold topT
  rw [BitVec.toNat_ushiftRight, BitVec.toNat_ushiftRight, Nat.shiftRight_eq_div_pow, Nat.shiftRight_eq_div_pow, Nat.div_div_eq_div_mul, ← Nat.pow_add, show 1 + (63 - d).toNat = 64 - d.toNat by omega]
theorem top_half (h : BitVec 64) (d : Int) (h0 : 0 ≤ d) (h5 : d < 5) : (topT h d).toNat = (topT h (d + 1)).toNat / 2 := by
  rw [topT_nat h d h0 (by omega), topT_nat h (d + 1) (by omega) (by omega), Nat.div_div_eq_div_mul, show 64 - d.toNat = (64 - (d + 1).toNat) + 1 by omega, Nat.pow_succ]
theorem pre_lt {t : Tab} (h : flatT t = true) : t.pre.toNat < 2 ^ t.depth.toNat := by
  obtain ⟨_, _, hp, _⟩ := (flatT_iff t).1 h
  unfold N at hp
  rw [BitVec.toNat_ushiftRight, Nat.shiftRight_eq_div_pow] at hp
  have h2 := (Nat.div_eq_zero_iff).1 (show t.pre.toNat / 2 ^ t.depth.toNat = 0 by omega)
  have := Nat.two_pow_pos t.depth.toNat
  omega
theorem half_pre {t : Tab} (h : flatT t = true) (hd : t.depth < 5) (i : Nat) (hi : i < 2) : (2#64 * t.pre + BitVec.ofNat 64 i).toNat = 2 * t.pre.toNat + i := by
  have h1 := pre_lt h
  have h2 : 2 ^ t.depth.toNat ≤ 2 ^ 5 := Nat.pow_le_pow_right (by omega) (by omega)
  rw [BitVec.toNat_add, BitVec.toNat_mul, BitVec.toNat_ofNat, BitVec.toNat_ofNat]
  omega
theorem half_flat {t : Tab} (h : flatT t = true) (hd : t.depth < 5) (i : Nat) (hi : i < 2) : flatT (halfB t i) = true := by
  obtain ⟨h0, _⟩ := (flatT_iff t).1 h
  refine bare_flat (by omega) (by omega) ?_
  unfold N
  rw [BitVec.toNat_ushiftRight, Nat.shiftRight_eq_div_pow, half_pre h hd i hi]
  have h1 := pre_lt h
  have h2 : 2 ^ (t.depth + 1).toNat = 2 ^ t.depth.toNat * 2 := by rw [show (t.depth + 1).toNat = t.depth.toNat + 1 by omega, Nat.pow_succ]
  rw [h2, Nat.div_eq_of_lt (by omega)]; rfl
theorem goesH_iff {t : Tab} {s : BitVec 64} (h : flatT t = true) (hd : t.depth < 5) (i : Nat) (hi : i < 2) (p : BitVec 64 × BitVec 64) : goesH t s i p = true ↔ (topT (hashOf s p.1) (t.depth + 1)).toNat = 2 * t.pre.toNat + i := by
  rw [goesH, hasT_iff, ← half_pre h hd i hi]
  constructor
  · rintro ⟨_, h2⟩; exact congrArg BitVec.toNat h2
  · intro h2; exact ⟨half_flat h hd i hi, BitVec.eq_of_toNat_eq h2⟩
theorem goes_one {t : Tab} {s : BitVec 64} (m : May t s) (hd : t.depth < 5) {p : BitVec 64 × BitVec 64} (hp : p ∈ pairsT t) : goesH t s 1 p = !goesH t s 0 p := by
  obtain ⟨j, hj, hf, rfl⟩ := (mem_pairs t p).1 hp
  obtain ⟨_, hh, _⟩ := m.slot j hj hf
  obtain ⟨h0, _⟩ := (flatT_iff t).1 m.flat
  have h1 := congrArg BitVec.toNat ((hasT_iff _ _).1 hh).2
  rw [top_half _ _ h0 hd] at h1
  have e0 := goesH_iff (s := s) m.flat hd 0 (by omega) (t.k j, t.v j)
  have e1 := goesH_iff (s := s) m.flat hd 1 (by omega) (t.k j, t.v j)
  dsimp only at e0 e1
  cases h2 : goesH t s 0 (t.k j, t.v j) with
  | true =>
    have := e0.1 h2
    cases h3 : goesH t s 1 (t.k j, t.v j) with
    | true => have := e1.1 h3; omega
    | false => rfl
  | false =>
    cases h3 : goesH t s 1 (t.k j, t.v j) with
    | true => rfl
    | false =>
      exfalso
      have a0 : ¬ (topT (hashOf s (t.k j)) (t.depth + 1)).toNat = 2 * t.pre.toNat + 0 := fun e => by rw [e0.2 e] at h2; cases h2
      have a1 : ¬ (topT (hashOf s (t.k j)) (t.depth + 1)).toNat = 2 * t.pre.toNat + 1 := fun e => by rw [e1.2 e] at h3; cases h3
      omega
theorem live_le {t : Tab} {s : BitVec 64} (m : May t s) : ((pairsT t).length : Int) ≤ 14 := by
  rw [m.len]; exact ((flatT_iff t).1 m.flat).2.2.2.2.2.2
theorem half_ok {t : Tab} {s : BitVec 64} (m : May t s) (hd : t.depth < 5) (i : Nat) (hi : i < 2) : ∃ x, Laid s (halfB t i) (halfL t s i) x := by
  have hfl := half_flat m.flat hd i hi
  refine laid_ok _ _ (bare_may s hfl) (clean_bare _ _ _) (fun p hp => (List.mem_filter.1 hp).2) ?_ (fun p _ q hq => absurd hq (bare_pairs _ _ _ q)) ?_
  · exact (List.Sublist.map _ List.filter_sublist).nodup m.keys
  · show (0 : Int) + _ ≤ 14
    have := live_le m
    have h2 : (halfL t s i).length ≤ (pairsT t).length := List.length_filter_le _ _
    omega
end Go.Proofs.Hc
namespace Go.Proofs.Hc
open Go.RowKit
attribute [local go_sem] zbr zby zau zba zbl zay zbk zbm zbu signed64 signed8 zas BitVec.ofInt_add BitVec.ofInt_mul ofInt_sub' zaw zax wide8 eqN neN zbx shr1 shr7 shr56
attribute [local go_sem high] zaz zbt
attribute [local go_sem] zan zbv zae zal zad zbd zao zag zbj zaj zbc zbe
attribute [local go_sem] load26 load73 load23 store26 build73
attribute [local go_sem ↓] lrow26 lrow73 lrow23 srow26 zero26 brow73 zab zav zbb zaa zac
attribute [local go_sem] zah zaq zat zbf zbg zbp zam zar zbq zbi zbh
attribute [local go_sem] nn2 nm2 nn3 nm3 nn4 nm4 nn5 nm5 nn6 nm6 nn7 nm7 nn8 nm8
section
attribute [local go_sem] loadA loadT2 storeA storeT2 buildA_ts buildA_sm zdl make_func zda zco acells_get t2cells_get acells_one t2cells_one acells_table acells_all t2cells_all t2cells_l t2cells_r
attribute [local go_sem ↓] lrowA lrowT2 srowA srowT2 browA zeroA_run zeroT2_run
attribute [local go_sem] Oper.semAt_some zak zbo
attribute [local go_sem] box26 zbz cell0 cell1 cell2 cell3 cell4 zcb zca
attribute [local go_sem] cell5 cell6 acells_idx acells_table
attribute [local go_sem high] laidAt_t laidAt_a laidAt_t2
def okOr : Except Int Tab → Tab
  | .ok x => x
  | .error _ => zeroT
theorem okOr_ok (x : Tab) : okOr (.ok x) = x := rfl
def halfX (t : Tab) (s : BitVec 64) (i : Nat) : Tab := okOr (laidT s (halfB t i) (halfL t s i))
theorem halfX_def (t : Tab) (s : BitVec 64) (i : Nat) : halfX t s i = okOr (laidT s (halfB t i) (halfL t s i)) := by rw [halfX]
theorem halfX_laid {t : Tab} {s : BitVec 64} (m : May t s) (hd : t.depth < 5) (i : Nat) (hi : i < 2) : Laid s (halfB t i) (halfL t s i) (halfX t s i) := by
  obtain ⟨x, hx⟩ := half_ok m hd i hi
  have e : halfX t s i = x := by rw [halfX_def, hx.eq, okOr_ok]
  rw [e]; exact hx
theorem halfX_eq {t : Tab} {s : BitVec 64} (hm : mayT t s = true) (hd : t.depth < 5) (i : Nat) (hi : i < 2) : laidT s (halfB t i) (halfL t s i) = .ok (halfX t s i) := (halfX_laid ((may_iff t s).1 hm) hd i hi).eq
end
section
attribute [local go_sem] zas zbo
attribute [local go_sem] Oper.semAt_some zak
attribute [local go_sem] zch pacell0 pacell1 pacell2 pacell3 pacell4 pacell5 pacell6 pacell7 pacell42
attribute [local go_sem] zcv zdi zde zcz zcy zdd zdh zdc zcc zcp zdj zdg zck zbn zcg zci boxPart loadPart storePart zcd zcs buildPart0 buildPart4
attribute [local go_sem ↓] lrowPart srowPart browPart zcj zbw
attribute [local go_sem high] zap
attribute [local irreducible] partC
theorem slabs_cases (a b c : Int) : (slabsS a b c = false ∧ (a < 0 ∨ 0 ≤ a ∧ (128 ≤ a ∨ a < 128 ∧ (b < 0 ∨ 0 ≤ b ∧ (128 ≤ b ∨ b < 128 ∧ ((a == b) = true ∨ (a == b) = false ∧ (c < 0 ∨ 0 ≤ c ∧ (128 ≤ c ∨ c < 128 ∧ ((b == c) = true ∨ (b == c) = false ∧ (a == c) = true))))))))) ∨
    slabsS a b c = true ∧ (0 ≤ a ∧ a < 128) ∧ (0 ≤ b ∧ b < 128) ∧ (0 ≤ c ∧ c < 128) ∧ (a == b) = false ∧ (b == c) = false ∧ (a == c) = false := by
  cases h : slabsS a b c with
  | true =>
    have := (slabsS_iff a b c).1 h
    right
    refine ⟨rfl, this.1, this.2.1, this.2.2.1, ?_, ?_, ?_⟩ <;> simp <;> omega
  | false =>
    left
    refine ⟨rfl, ?_⟩
    have hn : ¬ ((0 ≤ a ∧ a < 128) ∧ (0 ≤ b ∧ b < 128) ∧ (0 ≤ c ∧ c < 128) ∧ a ≠ b ∧ a ≠ c ∧ b ≠ c) := fun hh => by rw [(slabsS_iff a b c).2 hh] at h; cases h
    simp only [beq_iff_eq, beq_eq_false_iff_ne]
    omega
theorem pSlabs_any (a b c : Int) (r c3 : Nat) (w : World) (hr : w.heap[r]? = some (.cells #[I a, I b, I c] 3 (0, 0))) : Calls Tryz.prog 113 #[.slice (some ⟨r, 0, none⟩) 3 c3] w fun e w' => e = .returned (.bool (slabsS a b c)) ∧ w = w' := by
  obtain ⟨z, hz⟩ : ∃ z, slabsS a b c = z := ⟨_, rfl⟩
  have hcs := slabs_cases a b c
  rw [hz] at hcs ⊢
  clear hz
  rcases hcs with ⟨rfl, h | ⟨h0, h | ⟨h1, h | ⟨h2, h | ⟨h3, h | ⟨h4, h | ⟨h5, h | ⟨h6, h | ⟨h7, h8⟩⟩⟩⟩⟩⟩⟩⟩⟩ | ⟨rfl, ⟨h0, h1⟩, ⟨h2, h3⟩, ⟨h4, h5⟩, h6, h7, h8⟩
  all_goals
    go_enter Tryz.func113, Tryz.ntmps113
    go_wp2
    refine wp_loop_rounds 4 ?_
    rw [rounds_succ]
    go_wp2
    try (rw [rounds_succ]; go_wp2)
    try (rw [rounds_succ]; go_wp2)
    try (rw [rounds_succ]; go_wp2)
    go_ret
    exact ⟨rfl, rfl⟩
end
end Go.Proofs.Hc
