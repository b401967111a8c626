/- A table's words are read as it; even and odd. Plain law, no program in sight. -/
import Derived.Test.YtcikopeddljgkaaGreatKPt2
set_option linter.unusedSimpArgs false
set_option linter.unusedVariables false
set_option maxHeartbeats 1000000
set_option maxRecDepth 100000
namespace Go.Proofs.Hc
open Go.RowKit
def normT (t : Tab) : Tab := { t with c := fun i => if i < 2 then t.c i else 0#64, k := fun i => if i < 16 then t.k i else 0#64, v := fun i => if i < 16 then t.v i else 0#64 }
theorem cells_same {t t' : Tab} (h : ∀ i, i < 39 → t.cell i = t'.cell i) : tcells t = tcells t' := by
  apply Array.ext_getElem?; intro i
  rw [zaf, zaf]
  by_cases hi : i < 39
  · rw [if_pos hi, if_pos hi, h i hi]
  · rw [if_neg hi, if_neg hi]
theorem normT_cells (t : Tab) : tcells (normT t) = tcells t := by
  refine cells_same fun i hi => ?_
  match i, hi with
  | 0, _ => rfl
  | 1, _ => rfl
  | 2, _ => rfl
  | 3, _ => rfl
  | 4, _ => rfl
  | 5, _ => rfl
  | 6, _ => rfl
  | i + 7, hi =>
    show (if i < 16 then U ((normT t).k i) else U ((normT t).v (i - 16))) = if i < 16 then U (t.k i) else U (t.v (i - 16))
    by_cases h : i < 16
    · rw [if_pos h, if_pos h]
      show U (if i < 16 then t.k i else 0#64) = _
      rw [if_pos h]
    · rw [if_neg h, if_neg h]
      show U (if i - 16 < 16 then t.v (i - 16) else 0#64) = _
      rw [if_pos (by omega)]
theorem of_int_small (d : Int) (h0 : 0 ≤ d) (h1 : d ≤ 200) : (BitVec.ofInt 64 d).toNat = d.toNat := by
  rw [BitVec.toNat_ofInt]; omega
theorem pre_small {t : Tab} (hf : flatT t = true) : t.pre.toNat < 32 := by
  obtain ⟨h0, h5, hp, _⟩ := (flatT_iff t).1 hf
  have h : (t.pre >>> t.depth.toNat).toNat = 0 := by
    have : N (t.pre >>> t.depth.toNat) = ((t.pre >>> t.depth.toNat).toNat : Int) := rfl
    omega
  rw [BitVec.toNat_ushiftRight, Nat.shiftRight_eq_div_pow] at h
  have hd : t.depth.toNat ≤ 5 := by omega
  have h2 : t.pre.toNat < 2 ^ t.depth.toNat := by
    rcases Nat.lt_or_ge t.pre.toNat (2 ^ t.depth.toNat) with h1 | h1
    · exact h1
    · have := Nat.div_pos h1 (Nat.two_pow_pos _)
      omega
  exact Nat.lt_of_lt_of_le h2 (Nat.pow_le_pow_right (by omega) hd)
theorem wd1_depth {t : Tab} (hf : flatT t = true) : wd1 t &&& 255#64 = BitVec.ofInt 64 t.depth := by
  have hp := pre_small hf
  obtain ⟨h0, h5, _⟩ := (flatT_iff t).1 hf
  have hd : t.depth = 0 ∨ t.depth = 1 ∨ t.depth = 2 ∨ t.depth = 3 ∨ t.depth = 4 ∨ t.depth = 5 := by omega
  have hpp : t.pre = BitVec.ofNat 64 t.pre.toNat := by simp
  unfold wd1
  generalize t.pre.toNat = n at hp hpp
  rw [hpp]
  have : ∀ n : Nat, n < 32 → ∀ d : Nat, d < 6 → (BitVec.ofInt 64 (d : Int) ||| BitVec.ofNat 64 n * 256#64) &&& 255#64 = BitVec.ofInt 64 (d : Int) := by decide +kernel
  rcases hd with h | h | h | h | h | h <;> rw [h]
  · exact this n hp 0 (by omega)
  · exact this n hp 1 (by omega)
  · exact this n hp 2 (by omega)
  · exact this n hp 3 (by omega)
  · exact this n hp 4 (by omega)
  · exact this n hp 5 (by omega)
theorem wd1_pre {t : Tab} (hf : flatT t = true) : wd1 t >>> 8 = t.pre := by
  have hp := pre_small hf
  obtain ⟨h0, h5, _⟩ := (flatT_iff t).1 hf
  have hd : t.depth = 0 ∨ t.depth = 1 ∨ t.depth = 2 ∨ t.depth = 3 ∨ t.depth = 4 ∨ t.depth = 5 := by omega
  have hpp : t.pre = BitVec.ofNat 64 t.pre.toNat := by simp
  unfold wd1
  generalize t.pre.toNat = n at hp hpp
  rw [hpp]
  have : ∀ n : Nat, n < 32 → ∀ d : Nat, d < 6 → (BitVec.ofInt 64 (d : Int) ||| BitVec.ofNat 64 n * 256#64) >>> 8 = BitVec.ofNat 64 n := by decide +kernel
  rcases hd with h | h | h | h | h | h <;> rw [h]
  · exact this n hp 0 (by omega)
  · exact this n hp 1 (by omega)
  · exact this n hp 2 (by omega)
  · exact this n hp 3 (by omega)
  · exact this n hp 4 (by omega)
  · exact this n hp 5 (by omega)
theorem read_eq {t : Tab} (hf : flatT t = true) : readTab (tword t) = normT t := by
  obtain ⟨h0, h5, _, c0, c1, l0, l1⟩ := (flatT_iff t).1 hf
  have e1 : ((tword t 1 &&& 255#64).toNat : Int) = t.depth := by
    show ((wd1 t &&& 255#64).toNat : Int) = _
    rw [wd1_depth hf, of_int_small _ h0 (by omega)]; omega
  have e2 : tword t 1 >>> 8 = t.pre := wd1_pre hf
  have e3 : ((tword t 2).toNat : Int) = t.can := by
    show ((BitVec.ofInt 64 t.can).toNat : Int) = _
    rw [of_int_small _ c0 (by omega)]; omega
  have e4 : ((tword t 3).toNat : Int) = t.live := by
    show ((BitVec.ofInt 64 t.live).toNat : Int) = _
    rw [of_int_small _ l0 (by omega)]; omega
  have e5 : (fun g => if g < 2 then tword t (4 + g) else 0#64) = fun i => if i < 2 then t.c i else 0#64 := by
    funext g
    by_cases h : g < 2
    · rw [if_pos h, if_pos h, tw_c t g h]
    · rw [if_neg h, if_neg h]
  have e6 : (fun j => if j < 16 then tword t (6 + j) else 0#64) = fun i => if i < 16 then t.k i else 0#64 := by
    funext g
    by_cases h : g < 16
    · rw [if_pos h, if_pos h, tw_k t g h]
    · rw [if_neg h, if_neg h]
  have e7 : (fun j => if j < 16 then tword t (22 + j) else 0#64) = fun i => if i < 16 then t.v i else 0#64 := by
    funext g
    by_cases h : g < 16
    · rw [if_pos h, if_pos h, tw_v t g h]
    · rw [if_neg h, if_neg h]
  unfold readTab normT
  rw [e1, e2, e3, e4, e5, e6, e7]
  rfl
theorem normT_flat (t : Tab) : flatT (normT t) = flatT t := rfl
theorem read_ok {t : Tab} (hf : flatT t = true) : readOk (tword t) = true := by
  obtain ⟨h0, h5, _, c0, c1, l0, l1⟩ := (flatT_iff t).1 hf
  unfold readOk
  rw [read_eq hf, normT_flat, hf]
  have e3 : (tword t 2).toNat = t.can.toNat := of_int_small _ c0 (by omega)
  have e4 : (tword t 3).toNat = t.live.toNat := of_int_small _ l0 (by omega)
  have e5 : tword t 38 = 0#64 := rfl
  have e6 : tword t 39 = 0#64 := rfl
  rw [e3, e4, e5, e6]
  simp
  omega
end Go.Proofs.Hc
namespace Go.Proofs.Hc
open Go.RowKit
attribute [local go_sem] zbr zcd zat zaz zbn zax zbm zbo zbw signed64 signed8 zar BitVec.ofInt_add BitVec.ofInt_mul ofInt_sub' zav zaw wide8 eqN neN zcc shr1 shr7 shr56
attribute [local go_sem high] zay zbv
attribute [local go_sem] zau zbx zai zal zac zbd zan zah zbk zaj zbc zbe
attribute [local go_sem] load26 load73 load23 store26 build73
attribute [local go_sem ↓] lrow26 lrow73 lrow23 srow26 zero26 brow73 zab zba zbb zaa zae
attribute [local go_sem] zag zap zaf zbf zbi zbp zam zaq zbq zbh zbg
attribute [local go_sem] nn2 nm2 nn3 nm3 nn4 nm4 nn5 nm5 nn6 nm6 nn7 nm7 nn8 nm8
section
attribute [local go_sem] zar zbj
attribute [local go_sem] Oper.semAt_some zak
attribute [local go_sem] zci pacell0 pacell1 pacell2 pacell3 pacell4 pacell5 pacell6 pacell7 pacell42
attribute [local go_sem] zcv zdi zdc zcy zcx zdb zdh zda zcf zct part_s6 zdg zco zbl zch zcj boxPart loadPart storePart zce zcq buildPart0 buildPart4
attribute [local go_sem ↓] lrowPart srowPart browPart zck zbs
attribute [local go_sem high] zas
attribute [local irreducible] partC
attribute [local go_sem high] tmod2_64w bit64w bit64zw
def lookS (p : PartT) (x : BitVec 64) : PartT := if oddB x then { p with ph := 8 } else { p with ph := 1, count := x }
theorem s22look_any (p : PartT) (g : Nat) (x : BitVec 64) (w : World) (hg : w.heap[g]? = some (.cells (partC p) 179 (0, 0))) :
    Calls Tryz.prog 173 #[.pointer (some ⟨g, 0, none⟩), U x] w fun e w' => e = .returned (.tuple #[]) ∧ w'.heap[g]? = some (.cells (partC (lookS p x)) 179 (0, 0)) ∧ Ch [g] w w' := by
  unfold lookS
  cases ho : oddB x with
  | true =>
    rw [if_pos rfl]
    go_enter Tryz.func173, Tryz.ntmps173
    go_wp2
    go_end0
    exact ⟨rfl, by simp [go_sem, hg], (Ch.refl [g] w).setCell (p := ⟨g, 0, none⟩) (.inl (by simp)) _⟩
  | false =>
    rw [if_neg (by decide)]
    go_enter Tryz.func173, Tryz.ntmps173
    go_wp2
    go_end0
    exact ⟨rfl, by simp [go_sem, hg], (((Ch.refl [g] w).setCell (p := ⟨g, 0, none⟩) (.inl (by simp)) _).setCell (p := ⟨g, 0, none⟩) (.inl (by simp)) _).setCell (p := ⟨g, 6, none⟩) (.inl (by simp)) _⟩
theorem s22shut_any (p : PartT) (g : Nat) (x : BitVec 64) (w : World) (hg : w.heap[g]? = some (.cells (partC p) 179 (0, 0))) :
    Calls Tryz.prog 178 #[.pointer (some ⟨g, 0, none⟩), U x] w fun e w' => e = .returned (.tuple #[]) ∧ w'.heap[g]? = some (.cells (partC { p with at_ := 0, ph := 6 }) 179 (0, 0)) ∧ Ch [g] w w' := by
  go_enter Tryz.func178, Tryz.ntmps178
  go_wp2
  go_end0
  exact ⟨rfl, by simp [go_sem, hg], ((Ch.refl [g] w).setCell (p := ⟨g, 42, none⟩) (.inl (by simp)) _).setCell (p := ⟨g, 0, none⟩) (.inl (by simp)) _⟩
theorem s22lay_any (p : PartT) (g : Nat) (x : BitVec 64) (a0 : 0 ≤ p.at_) (a1 : p.at_ < 80) (hp : p.ph = 6) (w : World) (hg : w.heap[g]? = some (.cells (partC p) 179 (0, 0))) :
    Calls Tryz.prog 179 #[.pointer (some ⟨g, 0, none⟩), U x] w fun e w' => e = .returned (.tuple #[]) ∧ w'.heap[g]? = some (.cells (partC { p with at_ := p.at_ + 1, ph := if p.at_ = 79 then 7 else 6 }) 179 (0, 0)) ∧ Ch [g] w w' := by
  obtain ⟨ph, who, sl, t0, t1, seed, cn, hd, c, k, v, at_, ws⟩ := p
  dsimp only at a0 a1 hp ⊢
  subst hp
  have hw1 : IntKind.i64.wrap (at_ + 1) = at_ + 1 := by rw [IntKind.wrap_i64]; omega
  by_cases h : at_ = 79
  · subst h
    rw [if_pos rfl]
    go_enter Tryz.func179, Tryz.ntmps179
    go_wp2
    go_end0
    exact ⟨rfl, by simp [go_sem, hg], ((Ch.refl [g] w).setCell (p := ⟨g, 42, none⟩) (.inl (by simp)) _).setCell (p := ⟨g, 0, none⟩) (.inl (by simp)) _⟩
  · rw [if_neg h]
    have hne : (at_ + 1 == 80) = false := by simp; omega
    go_enter Tryz.func179, Tryz.ntmps179
    go_wp2
    go_end0
    exact ⟨rfl, by simp [go_sem, hg], (Ch.refl [g] w).setCell (p := ⟨g, 42, none⟩) (.inl (by simp)) _⟩
end
section
attribute [local go_sem] zar zbj
attribute [local go_sem] Oper.semAt_some zak
attribute [local go_sem] zci pacell0 pacell1 pacell2 pacell3 pacell4 pacell5 pacell6 pacell7 pacell42
attribute [local go_sem] zcv zdi zdc zcy zcx zdb zdh zda zcf zct part_s6 zdg zco zbl zch zcj boxPart loadPart storePart zce zcq buildPart0 buildPart4
attribute [local go_sem ↓] lrowPart srowPart browPart zck zbs
attribute [local go_sem high] zas
attribute [local irreducible] partC
theorem s22head_any (p : PartT) (g : Nat) (x : BitVec 64) (w : World) (hg : w.heap[g]? = some (.cells (partC p) 179 (0, 0))) :
    Calls Tryz.prog 174 #[.pointer (some ⟨g, 0, none⟩), U x] w fun e w' => e = .returned (.tuple #[]) ∧ w'.heap[g]? = some (.cells (partC (headS p x)) 179 (0, 0)) ∧ Ch [g] w w' := by
  obtain ⟨d, hd⟩ : ∃ d : Nat, (x &&& 255#64).toNat = d := ⟨_, rfl⟩
  have P1 := fun w hg => s22parts_any { p with head := x, at_ := 0, ph := 2 } g w hg
  dsimp only at P1
  rw [show N (x &&& 255#64) = (d : Int) by unfold N; rw [hd]] at P1
  unfold headS
  rw [hd]
  clear hd
  obtain ⟨q, hq⟩ : ∃ q : PartT, { p with head := x, at_ := 0, ph := 2 } = q := ⟨_, rfl⟩
  have hq9 : { p with head := x, at_ := 0, ph := 9 } = { q with ph := 9 } := by rw [← hq]
  have HC : ((((partC p).setIfInBounds 7 (U x)).setIfInBounds 42 (I 0)).setIfInBounds 0 (I 2)) = partC q := by rw [zdg, zco, zct, ← hq]
  rw [hq9, hq]
  rw [hq] at P1
  clear hq9 hq
  have g1 : (((w.setCell ⟨g, 7, none⟩ (U x)).setCell ⟨g, 42, none⟩ (I 0)).setCell ⟨g, 0, none⟩ (I 2)).heap[g]? = some (.cells (partC q) 179 (0, 0)) := by
    rw [zaa, if_pos rfl, zaa, if_pos rfl, zaa, if_pos rfl, hg, Option.map_some, Option.map_some, Option.map_some, zac, zac, zac, HC]
  have C1 : Ch [g] w (((w.setCell ⟨g, 7, none⟩ (U x)).setCell ⟨g, 42, none⟩ (I 0)).setCell ⟨g, 0, none⟩ (I 2)) := (((Ch.refl [g] w).setCell (p := ⟨g, 7, none⟩) (.inl (by simp)) _).setCell (p := ⟨g, 42, none⟩) (.inl (by simp)) _).setCell (p := ⟨g, 0, none⟩) (.inl (by simp)) _
  have e7 : ∃ y, (partC p)[7]? = some y := ⟨_, zda p⟩
  clear HC
  have hc : (5 : Int) ≤ d ∧ decide (5 ≤ d) = true ∨ ¬ (5 : Int) ≤ d ∧ decide (5 ≤ d) = false ∧ ((x >>> 8 >>> d != 0#64) = true ∨ (x >>> 8 >>> d != 0#64) = false) := by
    by_cases h : 5 ≤ d
    · left; exact ⟨by omega, by simp [h]⟩
    · right; exact ⟨by omega, by simp; omega, by cases (x >>> 8 >>> d != 0#64) <;> simp⟩
  obtain ⟨y8, hy8⟩ : ∃ y, x >>> 8 = y := ⟨_, rfl⟩
  rw [hy8] at P1 hc ⊢
  clear hy8
  obtain ⟨dd, hdd⟩ : ∃ z, (if (decide (5 ≤ d) || (y8 >>> d != 0#64)) = true then { q with ph := 9 } else q) = z := ⟨_, rfl⟩
  rw [hdd]
  have hc' : (5 : Int) ≤ d ∧ dd = { q with ph := 9 } ∨ ¬ (5 : Int) ≤ d ∧ ((y8 >>> d != 0#64) = true ∧ dd = { q with ph := 9 } ∨ (y8 >>> d != 0#64) = false ∧ dd = q) := by
    rcases hc with ⟨h5, hb⟩ | ⟨h5, hb, h0 | h0⟩
    · left; exact ⟨h5, by rw [← hdd, hb, Bool.true_or, if_pos rfl]⟩
    · right; exact ⟨h5, .inl ⟨h0, by rw [← hdd, h0, Bool.or_true, if_pos rfl]⟩⟩
    · right; exact ⟨h5, .inr ⟨h0, by rw [← hdd, h0, hb, if_neg (by decide)]⟩⟩
  clear hdd hc
  have hd0 : (0 : Int) ≤ d := by omega
  go_enter Tryz.func174, Tryz.ntmps174
  go_upto_region 1 with (fail)
  obtain ⟨w1, hw1⟩ : ∃ W, ((w.setCell ⟨g, 7, none⟩ (U x)).setCell ⟨g, 42, none⟩ (I 0)).setCell ⟨g, 0, none⟩ (I 2) = W := ⟨_, rfl⟩
  rw [hw1] at g1 C1 ⊢
  clear hw1 hg e7
  go_wp2_with fail
  refine (P1 _ g1).mono ?_
  rintro e w2 ⟨rfl, hc2⟩
  have g2 := hkeep hc2 g1
  have C2 := C1.trans hc2.of_nil
  clear g1 C1 hc2 P1
  have e0 : (N (y8 >>> d) != 0) = (y8 >>> d != 0#64) := neN (y8 >>> d) 0#64
  rw [← e0] at hc'
  clear e0
  rcases hc' with ⟨h5, rfl⟩ | ⟨h5, ⟨h0, rfl⟩ | ⟨h0, rfl⟩⟩
  · go_wp2
    go_end0
    exact ⟨rfl, by rw [zaa, if_pos rfl, g2, Option.map_some, zac, zct], C2.setCell (p := ⟨g, 0, none⟩) (.inl (by simp)) _⟩
  · go_wp2
    go_end0
    exact ⟨rfl, by rw [zaa, if_pos rfl, g2, Option.map_some, zac, zct], C2.setCell (p := ⟨g, 0, none⟩) (.inl (by simp)) _⟩
  · go_wp2
    go_end0
    exact ⟨rfl, g2, C2⟩
end
section
attribute [local go_sem] zar zbj
attribute [local go_sem] Oper.semAt_some zak
attribute [local go_sem] zci pacell0 pacell1 pacell2 pacell3 pacell4 pacell5 pacell6 pacell7 pacell42
attribute [local go_sem] zcv zdi zdc zcy zcx zdb zdh zda zcf zct part_s6 zdg zco zbl zch zcj boxPart loadPart storePart zce zcq buildPart0 buildPart4
attribute [local go_sem ↓] lrowPart srowPart browPart zck zbs
attribute [local go_sem high] zas
attribute [local irreducible] partC
def take22V : Array Value := #[.func (.func 173) #[] #[], .func (.func 174) #[] #[], .func (.func 175) #[] #[], .func (.func 176) #[] #[], .func (.func 177) #[] #[], .func (.func 178) #[] #[], .func (.func 179) #[] #[]]
def take22Z : Array Value := Array.replicate 7 (.nilFunc)
theorem take22V_size : take22V.size = 7 := rfl
theorem take22Z_size : take22Z.size = 7 := rfl
theorem take22V_one : allOne take22V = true := by unfold allOne take22V; simp [Value.oneCell']
theorem brow_take22 (ps : Array (Nat × Value)) : Instr.build 259 ps = buildRow 259 ps := rfl
theorem build_take22 (w : World) : (buildRow 259 #[(0, .func (.func 173) #[] #[]), (1, .func (.func 174) #[] #[]), (2, .func (.func 175) #[] #[]), (3, .func (.func 176) #[] #[]), (4, .func (.func 177) #[] #[]), (5, .func (.func 178) #[] #[]), (6, .func (.func 179) #[] #[])]).run Tryz.prog w = .ok (.agg take22V) w := by kernel_rfl
theorem zero_take22 (w : World) : (zeroValue 259).run Tryz.prog w = .ok (.agg take22Z) w := by kernel_rfl
theorem store_take22 (g o : Nat) (vs : Array Value) (w : World) : (storeRow 259 ⟨g, o, none⟩ (.agg vs)).run Tryz.prog w = layRes Tryz.prog 259 g o vs w (((w.heap[g]?).map (canLay o 7 vs)).getD false) :=
  run_lay (by kernel_rfl) g o vs w
theorem srow_take22 (a : Addr) (v : Value) : storeVar 259 a v = storeRow 259 a v := rfl
theorem laidAt_take22 (t : TypeId) (fr : Nat × Nat) : laidAt 0 take22V (.cells take22Z t fr) = .cells take22V t fr := by
  rw [zah, laid_whole _ _ (by rw [take22Z_size, take22V_size])]
attribute [local go_sem] build_take22 store_take22 take22V_one take22V_size take22Z_size
attribute [local go_sem ↓] brow_take22 zero_take22 srow_take22
attribute [local go_sem high] laidAt_take22
attribute [local irreducible] take22V take22Z
theorem s22take_core (p q : PartT) (n k g : Nat) (x : BitVec 64) (hp : p.ph = (n : Int)) (hn : n < 7) (hk : take22V[n]? = some (.func (.func k) #[] #[])) (hdf : ∀ args w, (callFunc k args).run Tryz.prog w = .ok (.enter k args) w)
    (X1 : ∀ (w : World), w.heap[g]? = some (.cells (partC p) 179 (0, 0)) → Calls Tryz.prog k #[.pointer (some ⟨g, 0, none⟩), U x] w fun e w' => e = .returned (.tuple #[]) ∧ w'.heap[g]? = some (.cells (partC q) 179 (0, 0)) ∧ Ch [g] w w') (w : World) (hg : w.heap[g]? = some (.cells (partC p) 179 (0, 0))) :
    Calls Tryz.prog 115 #[.pointer (some ⟨g, 0, none⟩), U x] w fun e w' => e = .returned (.tuple #[]) ∧ w'.heap[g]? = some (.cells (partC q) 179 (0, 0)) ∧ Ch [g] w w' := by
  have e0 : (partC p)[0]? = some (I (n : Int)) := by rw [zcv, hp]
  have hnI : (n : Int) < 7 := by omega
  have hn0 : (0 : Int) ≤ n := by omega
  have C0 : Ch [] w (World.onObj (w.alloc (.cells take22Z 259)) w.heap.size (laidAt 0 take22V)) := ((Ch.refl [] w).alloc _).onObj (.inr (Nat.le_refl _)) _
  have z0 : (World.onObj (w.alloc (.cells take22Z 259)) w.heap.size (laidAt 0 take22V)).heap[w.heap.size]? = some (.cells take22V 259 (0, 0)) := by rw [zae, if_pos rfl, zab, if_pos rfl, Option.map_some, laidAt_take22]
  have g0 := hkeep C0 hg
  have hgB := (Array.getElem?_eq_some_iff.1 hg).1
  obtain ⟨pc, hpc⟩ : ∃ c, partC p = c := ⟨_, rfl⟩
  rw [hpc] at g0 X1 e0
  clear hg hpc hp
  go_enter Tryz.func115, Tryz.ntmps115
  go_upto_region 1 with (fail)
  obtain ⟨w0, hw0⟩ : ∃ W, World.onObj (w.alloc (.cells take22Z 259)) w.heap.size (laidAt 0 take22V) = W := ⟨_, rfl⟩
  rw [hw0] at C0 z0 g0 ⊢
  clear hw0
  obtain ⟨B, hB⟩ : ∃ B, w.heap.size = B := ⟨_, rfl⟩
  rw [hB] at z0 hgB ⊢
  clear hB
  go_wp2_with fail
  refine (X1 _ g0).mono ?_
  rintro e w1 ⟨rfl, g1, hc1⟩
  go_wp2
  go_end0
  exact ⟨rfl, g1, C0.of_nil.trans hc1⟩
theorem s22take_any (p : PartT) (hr : rightS p = true) (h6 : p.ph ≤ 6) (g : Nat) (x : BitVec 64) (w : World) (hg : w.heap[g]? = some (.cells (partC p) 179 (0, 0))) :
    Calls Tryz.prog 115 #[.pointer (some ⟨g, 0, none⟩), U x] w fun e w' => e = .returned (.tuple #[]) ∧ w'.heap[g]? = some (.cells (partC (takeS p x)) 179 (0, 0)) ∧ Ch [g] w w' := by
  have R := (rightS_iff p).1 hr
  have h0 := R.ph0
  have a2 := R.at2
  have a3 := R.at3
  have a6 := R.at6
  rcases (show p.ph = 0 ∨ p.ph = 1 ∨ p.ph = 2 ∨ p.ph = 3 ∨ p.ph = 4 ∨ p.ph = 5 ∨ p.ph = 6 by omega) with h | h | h | h | h | h | h
  · have e : takeS p x = if oddB x then { p with ph := 8 } else { p with ph := 1, count := x } := by unfold takeS; rw [if_pos h]
    rw [e]
    exact s22take_core p _ 0 173 g x h (by omega) (by kernel_rfl) Tryz.call173 (fun w hg => s22look_any p g x w hg) w hg
  · have e : takeS p x = headS p x := by unfold takeS; rw [if_neg (by omega), if_pos h]
    rw [e]
    exact s22take_core p _ 1 174 g x h (by omega) (by kernel_rfl) Tryz.call174 (fun w hg => s22head_any p g x w hg) w hg
  · have := a2 h
    have e : takeS p x = if p.at_ = 1 then onS { p with c := updW p.c 1 x, at_ := 2 } 0 else { p with c := updW p.c 0 x, at_ := 1 } := by unfold takeS; rw [if_neg (by omega), if_neg (by omega), if_pos h]
    rw [e]
    exact s22take_core p _ 2 175 g x h (by omega) (by kernel_rfl) Tryz.call175 (fun w hg => s22ctrl_any p g x this.1 this.2 w hg) w hg
  · have := a3 (.inl h)
    have e : takeS p x = { p with k := updW p.k p.at_.toNat x, ph := 4 } := by unfold takeS; rw [if_neg (by omega), if_neg (by omega), if_neg (by omega), if_pos h]
    rw [e]
    exact s22take_core p _ 3 176 g x h (by omega) (by kernel_rfl) Tryz.call176 (fun w hg => s22key_any p g p.at_.toNat x (by omega) (by omega) w hg) w hg
  · have := a3 (.inr h)
    have e : takeS p x = onS { p with v := updW p.v p.at_.toNat x } (p.at_.toNat + 1) := by unfold takeS; rw [if_neg (by omega), if_neg (by omega), if_neg (by omega), if_neg (by omega), if_pos h]
    rw [e]
    exact s22take_core p _ 4 177 g x h (by omega) (by kernel_rfl) Tryz.call177 (fun w hg => s22value_any p g p.at_.toNat x (by omega) (by omega) w hg) w hg
  · have e : takeS p x = { p with at_ := 0, ph := 6 } := by unfold takeS; rw [if_neg (by omega), if_neg (by omega), if_neg (by omega), if_neg (by omega), if_neg (by omega), if_pos h]
    rw [e]
    exact s22take_core p _ 5 178 g x h (by omega) (by kernel_rfl) Tryz.call178 (fun w hg => s22shut_any p g x w hg) w hg
  · have := a6 h
    have e : takeS p x = { p with at_ := p.at_ + 1, ph := if p.at_ = 79 then 7 else 6 } := by unfold takeS; rw [if_neg (by omega), if_neg (by omega), if_neg (by omega), if_neg (by omega), if_neg (by omega), if_neg (by omega)]
    rw [e]
    exact s22take_core p _ 6 179 g x h (by omega) (by kernel_rfl) Tryz.call179 (fun w hg => s22lay_any p g x this.1 this.2 h w hg) w hg
end
end Go.Proofs.Hc
