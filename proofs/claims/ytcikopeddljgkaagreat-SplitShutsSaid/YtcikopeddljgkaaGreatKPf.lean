/- Package layout: Cell; package write: Check. -/
import Derived.Test.YtcikopeddljgkaaGreatKPt2
set_option linter.unusedSimpArgs false
set_option linter.unusedVariables false
set_option maxHeartbeats 1000000
set_option maxRecDepth 100000
namespace Go.Proofs.Hc
open Go.RowKit
attribute [local go_sem] zbr zby zau zba zbl zay zbk zbm zbu signed64 signed8 zas BitVec.ofInt_add BitVec.ofInt_mul ofInt_sub' zaw zax wide8 eqN neN zbx shr1 shr7 shr56
attribute [local go_sem high] zaz zbt
attribute [local go_sem] zan zbv zae zal zad zbd zao zag zbj zaj zbc zbe
attribute [local go_sem] load26 load73 load23 store26 build73
attribute [local go_sem ↓] lrow26 lrow73 lrow23 srow26 zero26 brow73 zab zav zbb zaa zac
attribute [local go_sem] zah zaq zat zbf zbg zbp zam zar zbq zbi zbh
attribute [local go_sem] nn2 nm2 nn3 nm3 nn4 nm4 nn5 nm5 nn6 nm6 nn7 nm7 nn8 nm8
section
attribute [local go_sem] zas zbo
attribute [local go_sem] Oper.semAt_some zak
attribute [local go_sem] pen_g0 pen_g1 pen_g2 pen_g3 pen_g4 pen_g5 pen_g6 pen_g7 pen_g8 pen_g9 pen_g10 pen_g11 pen_g12 pen_g13 pen_g14 pen_g15 pen_g16 pen_g17 penC_size penC_one penC_all
attribute [local irreducible] penC
theorem tmod2_64w (x : BitVec 64) : (N x).tmod 2 = N (x &&& 1#64) := by
  rw [Int.tmod_eq_emod_of_nonneg (N_nonneg x)]
  unfold N
  rw [BitVec.toNat_and]
  show ((x.toNat : Int) % 2) = ((x.toNat &&& (2 ^ 1 - 1) : Nat) : Int)
  rw [Nat.and_two_pow_sub_one_eq_mod]; rfl
theorem bit64w (x : BitVec 64) : (N (x &&& 1#64) == 1) = oddB x := by
  have h : (N (x &&& 1#64) == N (1#64)) = ((x &&& 1#64) == 1#64) := eqN _ _
  exact h
theorem bit64zw (x : BitVec 64) : (N (x &&& 1#64) == 0) = !oddB x := by
  rw [← bit64w]
  have h : N (x &&& 1#64) = 0 ∨ N (x &&& 1#64) = 1 := by rw [← tmod2_64w, Int.tmod_eq_emod_of_nonneg (N_nonneg x)]; omega
  rcases h with h | h <;> rw [h] <;> rfl
attribute [local go_sem high] tmod2_64w bit64w bit64zw
theorem brow170 (ps : Array (Nat × Value)) : Instr.build 281 ps = buildRow 281 ps := rfl
theorem build170 (p : PenT) (w : World) : (buildRow 281 #[(0, .agg (penC p))]).run Tryz.prog w = .ok (.agg (penC p)) w := by kernel_rfl
theorem box170 (p : PenT) (w : World) : (Instr.box 281 (.agg (penC p))).run Tryz.prog w = .ok (.pointer (some ⟨w.heap.size, 0, none⟩)) (w.alloc (.cells (penC p) 281)) := rfl
attribute [local go_sem] build170 box170 boxPen loadPen storePen
attribute [local go_sem ↓] brow170 lrowPen srowPen
theorem cell_ok (n k : Int) (h0 : 0 ≤ n) (h1 : n < 128) (h2 : 0 ≤ k) (h3 : k < 40) (w : World) : Calls Tryz.prog 44 #[I n, I k] w fun e w' => e = .returned (.tuple #[I (16 + 40 * n + k), I 0]) ∧ w = w' := by
  go_enter Tryz.func44, Tryz.ntmps44
  go_wp2
  go_ret2
  exact ⟨by rw [show 16 + 40 * n + k = 16 + n * 40 + k by omega]; rfl, rfl⟩
end
section
attribute [local go_sem] zas zbo
attribute [local go_sem] Oper.semAt_some zak
attribute [local go_sem] zch pacell0 pacell1 pacell2 pacell3 pacell4 pacell5 pacell6 pacell7 pacell42
attribute [local go_sem] zcv zdi zde zcz zcy zdd zdh zdc zcc zcp zdj zdg zck zbn zcg zci boxPart loadPart storePart zcd zcs buildPart0 buildPart4
attribute [local go_sem ↓] lrowPart srowPart browPart zcj zbw
attribute [local go_sem high] zap
attribute [local irreducible] partC
attribute [local go_sem high] tmod2_64w bit64w bit64zw
def lookS (p : PartT) (x : BitVec 64) : PartT := if oddB x then { p with ph := 8 } else { p with ph := 1, count := x }
theorem s22look_any (p : PartT) (g : Nat) (x : BitVec 64) (w : World) (hg : w.heap[g]? = some (.cells (partC p) 179 (0, 0))) :
    Calls Tryz.prog 173 #[.pointer (some ⟨g, 0, none⟩), U x] w fun e w' => e = .returned (.tuple #[]) ∧ w'.heap[g]? = some (.cells (partC (lookS p x)) 179 (0, 0)) ∧ Ch [g] w w' := by
  unfold lookS
  cases ho : oddB x with
  | true =>
    rw [if_pos rfl]
    go_enter Tryz.func173, Tryz.ntmps173
    go_wp2
    go_end0
    exact ⟨rfl, by simp [go_sem, hg], (Ch.refl [g] w).setCell (p := ⟨g, 0, none⟩) (.inl (by simp)) _⟩
  | false =>
    rw [if_neg (by decide)]
    go_enter Tryz.func173, Tryz.ntmps173
    go_wp2
    go_end0
    exact ⟨rfl, by simp [go_sem, hg], (((Ch.refl [g] w).setCell (p := ⟨g, 0, none⟩) (.inl (by simp)) _).setCell (p := ⟨g, 0, none⟩) (.inl (by simp)) _).setCell (p := ⟨g, 6, none⟩) (.inl (by simp)) _⟩
theorem s22shut_any (p : PartT) (g : Nat) (x : BitVec 64) (w : World) (hg : w.heap[g]? = some (.cells (partC p) 179 (0, 0))) :
    Calls Tryz.prog 178 #[.pointer (some ⟨g, 0, none⟩), U x] w fun e w' => e = .returned (.tuple #[]) ∧ w'.heap[g]? = some (.cells (partC { p with at_ := 0, ph := 6 }) 179 (0, 0)) ∧ Ch [g] w w' := by
  go_enter Tryz.func178, Tryz.ntmps178
  go_wp2
  go_end0
  exact ⟨rfl, by simp [go_sem, hg], ((Ch.refl [g] w).setCell (p := ⟨g, 42, none⟩) (.inl (by simp)) _).setCell (p := ⟨g, 0, none⟩) (.inl (by simp)) _⟩
theorem s22lay_any (p : PartT) (g : Nat) (x : BitVec 64) (a0 : 0 ≤ p.at_) (a1 : p.at_ < 80) (hp : p.ph = 6) (w : World) (hg : w.heap[g]? = some (.cells (partC p) 179 (0, 0))) :
    Calls Tryz.prog 179 #[.pointer (some ⟨g, 0, none⟩), U x] w fun e w' => e = .returned (.tuple #[]) ∧ w'.heap[g]? = some (.cells (partC { p with at_ := p.at_ + 1, ph := if p.at_ = 79 then 7 else 6 }) 179 (0, 0)) ∧ Ch [g] w w' := by
  obtain ⟨ph, who, sl, t0, t1, seed, cn, hd, c, k, v, at_, ws⟩ := p
  dsimp only at a0 a1 hp ⊢
  subst hp
  have hw1 : IntKind.i64.wrap (at_ + 1) = at_ + 1 := by rw [IntKind.wrap_i64]; omega
  by_cases h : at_ = 79
  · subst h
    rw [if_pos rfl]
    go_enter Tryz.func179, Tryz.ntmps179
    go_wp2
    go_end0
    exact ⟨rfl, by simp [go_sem, hg], ((Ch.refl [g] w).setCell (p := ⟨g, 42, none⟩) (.inl (by simp)) _).setCell (p := ⟨g, 0, none⟩) (.inl (by simp)) _⟩
  · rw [if_neg h]
    have hne : (at_ + 1 == 80) = false := by simp; omega
    go_enter Tryz.func179, Tryz.ntmps179
    go_wp2
    go_end0
    exact ⟨rfl, by simp [go_sem, hg], (Ch.refl [g] w).setCell (p := ⟨g, 42, none⟩) (.inl (by simp)) _⟩
end
section
attribute [local go_sem] zas zbo
attribute [local go_sem] Oper.semAt_some zak
attribute [local go_sem] zch pacell0 pacell1 pacell2 pacell3 pacell4 pacell5 pacell6 pacell7 pacell42
attribute [local go_sem] zcv zdi zde zcz zcy zdd zdh zdc zcc zcp zdj zdg zck zbn zcg zci boxPart loadPart storePart zcd zcs buildPart0 buildPart4
attribute [local go_sem ↓] lrowPart srowPart browPart zcj zbw
attribute [local go_sem high] zap
attribute [local irreducible] partC
theorem s22head_any (p : PartT) (g : Nat) (x : BitVec 64) (w : World) (hg : w.heap[g]? = some (.cells (partC p) 179 (0, 0))) :
    Calls Tryz.prog 174 #[.pointer (some ⟨g, 0, none⟩), U x] w fun e w' => e = .returned (.tuple #[]) ∧ w'.heap[g]? = some (.cells (partC (headS p x)) 179 (0, 0)) ∧ Ch [g] w w' := by
  obtain ⟨d, hd⟩ : ∃ d : Nat, (x &&& 255#64).toNat = d := ⟨_, rfl⟩
  have P1 := fun w hg => s22parts_any { p with head := x, at_ := 0, ph := 2 } g w hg
  dsimp only at P1
  rw [show N (x &&& 255#64) = (d : Int) by unfold N; rw [hd]] at P1
  unfold headS
  rw [hd]
  clear hd
  obtain ⟨q, hq⟩ : ∃ q : PartT, { p with head := x, at_ := 0, ph := 2 } = q := ⟨_, rfl⟩
  have hq9 : { p with head := x, at_ := 0, ph := 9 } = { q with ph := 9 } := by rw [← hq]
  have HC : ((((partC p).setIfInBounds 7 (U x)).setIfInBounds 42 (I 0)).setIfInBounds 0 (I 2)) = partC q := by rw [zdg, zck, zcp, ← hq]
  rw [hq9, hq]
  rw [hq] at P1
  clear hq9 hq
  have g1 : (((w.setCell ⟨g, 7, none⟩ (U x)).setCell ⟨g, 42, none⟩ (I 0)).setCell ⟨g, 0, none⟩ (I 2)).heap[g]? = some (.cells (partC q) 179 (0, 0)) := by
    rw [zaa, if_pos rfl, zaa, if_pos rfl, zaa, if_pos rfl, hg, Option.map_some, Option.map_some, Option.map_some, zad, zad, zad, HC]
  have C1 : Ch [g] w (((w.setCell ⟨g, 7, none⟩ (U x)).setCell ⟨g, 42, none⟩ (I 0)).setCell ⟨g, 0, none⟩ (I 2)) := (((Ch.refl [g] w).setCell (p := ⟨g, 7, none⟩) (.inl (by simp)) _).setCell (p := ⟨g, 42, none⟩) (.inl (by simp)) _).setCell (p := ⟨g, 0, none⟩) (.inl (by simp)) _
  have e7 : ∃ y, (partC p)[7]? = some y := ⟨_, zdc p⟩
  clear HC
  have hc : (5 : Int) ≤ d ∧ decide (5 ≤ d) = true ∨ ¬ (5 : Int) ≤ d ∧ decide (5 ≤ d) = false ∧ ((x >>> 8 >>> d != 0#64) = true ∨ (x >>> 8 >>> d != 0#64) = false) := by
    by_cases h : 5 ≤ d
    · left; exact ⟨by omega, by simp [h]⟩
    · right; exact ⟨by omega, by simp; omega, by cases (x >>> 8 >>> d != 0#64) <;> simp⟩
  obtain ⟨y8, hy8⟩ : ∃ y, x >>> 8 = y := ⟨_, rfl⟩
  rw [hy8] at P1 hc ⊢
  clear hy8
  obtain ⟨dd, hdd⟩ : ∃ z, (if (decide (5 ≤ d) || (y8 >>> d != 0#64)) = true then { q with ph := 9 } else q) = z := ⟨_, rfl⟩
  rw [hdd]
  have hc' : (5 : Int) ≤ d ∧ dd = { q with ph := 9 } ∨ ¬ (5 : Int) ≤ d ∧ ((y8 >>> d != 0#64) = true ∧ dd = { q with ph := 9 } ∨ (y8 >>> d != 0#64) = false ∧ dd = q) := by
    rcases hc with ⟨h5, hb⟩ | ⟨h5, hb, h0 | h0⟩
    · left; exact ⟨h5, by rw [← hdd, hb, Bool.true_or, if_pos rfl]⟩
    · right; exact ⟨h5, .inl ⟨h0, by rw [← hdd, h0, Bool.or_true, if_pos rfl]⟩⟩
    · right; exact ⟨h5, .inr ⟨h0, by rw [← hdd, h0, hb, if_neg (by decide)]⟩⟩
  clear hdd hc
  have hd0 : (0 : Int) ≤ d := by omega
  go_enter Tryz.func174, Tryz.ntmps174
  go_upto_region 1 with (fail)
  obtain ⟨w1, hw1⟩ : ∃ W, ((w.setCell ⟨g, 7, none⟩ (U x)).setCell ⟨g, 42, none⟩ (I 0)).setCell ⟨g, 0, none⟩ (I 2) = W := ⟨_, rfl⟩
  rw [hw1] at g1 C1 ⊢
  clear hw1 hg e7
  go_wp2_with fail
  refine (P1 _ g1).mono ?_
  rintro e w2 ⟨rfl, hc2⟩
  have g2 := hkeep hc2 g1
  have C2 := C1.trans hc2.of_nil
  clear g1 C1 hc2 P1
  have e0 : (N (y8 >>> d) != 0) = (y8 >>> d != 0#64) := neN (y8 >>> d) 0#64
  rw [← e0] at hc'
  clear e0
  rcases hc' with ⟨h5, rfl⟩ | ⟨h5, ⟨h0, rfl⟩ | ⟨h0, rfl⟩⟩
  · go_wp2
    go_end0
    exact ⟨rfl, by rw [zaa, if_pos rfl, g2, Option.map_some, zad, zcp], C2.setCell (p := ⟨g, 0, none⟩) (.inl (by simp)) _⟩
  · go_wp2
    go_end0
    exact ⟨rfl, by rw [zaa, if_pos rfl, g2, Option.map_some, zad, zcp], C2.setCell (p := ⟨g, 0, none⟩) (.inl (by simp)) _⟩
  · go_wp2
    go_end0
    exact ⟨rfl, g2, C2⟩
end
section
attribute [local go_sem] zas zbo
attribute [local go_sem] Oper.semAt_some zak
attribute [local go_sem] zch pacell0 pacell1 pacell2 pacell3 pacell4 pacell5 pacell6 pacell7 pacell42
attribute [local go_sem] zcv zdi zde zcz zcy zdd zdh zdc zcc zcp zdj zdg zck zbn zcg zci boxPart loadPart storePart zcd zcs buildPart0 buildPart4
attribute [local go_sem ↓] lrowPart srowPart browPart zcj zbw
attribute [local go_sem high] zap
attribute [local irreducible] partC
def take22V : Array Value := #[.func (.func 173) #[] #[], .func (.func 174) #[] #[], .func (.func 175) #[] #[], .func (.func 176) #[] #[], .func (.func 177) #[] #[], .func (.func 178) #[] #[], .func (.func 179) #[] #[]]
def take22Z : Array Value := Array.replicate 7 (.nilFunc)
theorem take22V_size : take22V.size = 7 := rfl
theorem take22Z_size : take22Z.size = 7 := rfl
theorem take22V_one : allOne take22V = true := by unfold allOne take22V; simp [Value.oneCell']
theorem brow_take22 (ps : Array (Nat × Value)) : Instr.build 259 ps = buildRow 259 ps := rfl
theorem build_take22 (w : World) : (buildRow 259 #[(0, .func (.func 173) #[] #[]), (1, .func (.func 174) #[] #[]), (2, .func (.func 175) #[] #[]), (3, .func (.func 176) #[] #[]), (4, .func (.func 177) #[] #[]), (5, .func (.func 178) #[] #[]), (6, .func (.func 179) #[] #[])]).run Tryz.prog w = .ok (.agg take22V) w := by kernel_rfl
theorem zero_take22 (w : World) : (zeroValue 259).run Tryz.prog w = .ok (.agg take22Z) w := by kernel_rfl
theorem store_take22 (g o : Nat) (vs : Array Value) (w : World) : (storeRow 259 ⟨g, o, none⟩ (.agg vs)).run Tryz.prog w = layRes Tryz.prog 259 g o vs w (((w.heap[g]?).map (canLay o 7 vs)).getD false) :=
  run_lay (by kernel_rfl) g o vs w
theorem srow_take22 (a : Addr) (v : Value) : storeVar 259 a v = storeRow 259 a v := rfl
theorem laidAt_take22 (t : TypeId) (fr : Nat × Nat) : laidAt 0 take22V (.cells take22Z t fr) = .cells take22V t fr := by
  rw [zag, zdf _ _ (by rw [take22Z_size, take22V_size])]
attribute [local go_sem] build_take22 store_take22 take22V_one take22V_size take22Z_size
attribute [local go_sem ↓] brow_take22 zero_take22 srow_take22
attribute [local go_sem high] laidAt_take22
attribute [local irreducible] take22V take22Z
theorem s22take_core (p q : PartT) (n k g : Nat) (x : BitVec 64) (hp : p.ph = (n : Int)) (hn : n < 7) (hk : take22V[n]? = some (.func (.func k) #[] #[])) (hdf : ∀ args w, (callFunc k args).run Tryz.prog w = .ok (.enter k args) w)
    (X1 : ∀ (w : World), w.heap[g]? = some (.cells (partC p) 179 (0, 0)) → Calls Tryz.prog k #[.pointer (some ⟨g, 0, none⟩), U x] w fun e w' => e = .returned (.tuple #[]) ∧ w'.heap[g]? = some (.cells (partC q) 179 (0, 0)) ∧ Ch [g] w w') (w : World) (hg : w.heap[g]? = some (.cells (partC p) 179 (0, 0))) :
    Calls Tryz.prog 115 #[.pointer (some ⟨g, 0, none⟩), U x] w fun e w' => e = .returned (.tuple #[]) ∧ w'.heap[g]? = some (.cells (partC q) 179 (0, 0)) ∧ Ch [g] w w' := by
  have e0 : (partC p)[0]? = some (I (n : Int)) := by rw [zcv, hp]
  have hnI : (n : Int) < 7 := by omega
  have hn0 : (0 : Int) ≤ n := by omega
  have C0 : Ch [] w (World.onObj (w.alloc (.cells take22Z 259)) w.heap.size (laidAt 0 take22V)) := ((Ch.refl [] w).alloc _).onObj (.inr (Nat.le_refl _)) _
  have z0 : (World.onObj (w.alloc (.cells take22Z 259)) w.heap.size (laidAt 0 take22V)).heap[w.heap.size]? = some (.cells take22V 259 (0, 0)) := by rw [zac, if_pos rfl, zab, if_pos rfl, Option.map_some, laidAt_take22]
  have g0 := hkeep C0 hg
  have hgB := (Array.getElem?_eq_some_iff.1 hg).1
  obtain ⟨pc, hpc⟩ : ∃ c, partC p = c := ⟨_, rfl⟩
  rw [hpc] at g0 X1 e0
  clear hg hpc hp
  go_enter Tryz.func115, Tryz.ntmps115
  go_upto_region 1 with (fail)
  obtain ⟨w0, hw0⟩ : ∃ W, World.onObj (w.alloc (.cells take22Z 259)) w.heap.size (laidAt 0 take22V) = W := ⟨_, rfl⟩
  rw [hw0] at C0 z0 g0 ⊢
  clear hw0
  obtain ⟨B, hB⟩ : ∃ B, w.heap.size = B := ⟨_, rfl⟩
  rw [hB] at z0 hgB ⊢
  clear hB
  go_wp2_with fail
  refine (X1 _ g0).mono ?_
  rintro e w1 ⟨rfl, g1, hc1⟩
  go_wp2
  go_end0
  exact ⟨rfl, g1, C0.of_nil.trans hc1⟩
theorem s22take_any (p : PartT) (hr : rightS p = true) (h6 : p.ph ≤ 6) (g : Nat) (x : BitVec 64) (w : World) (hg : w.heap[g]? = some (.cells (partC p) 179 (0, 0))) :
    Calls Tryz.prog 115 #[.pointer (some ⟨g, 0, none⟩), U x] w fun e w' => e = .returned (.tuple #[]) ∧ w'.heap[g]? = some (.cells (partC (takeS p x)) 179 (0, 0)) ∧ Ch [g] w w' := by
  have R := (zcx p).1 hr
  have h0 := R.ph0
  have a2 := R.at2
  have a3 := R.at3
  have a6 := R.at6
  rcases (show p.ph = 0 ∨ p.ph = 1 ∨ p.ph = 2 ∨ p.ph = 3 ∨ p.ph = 4 ∨ p.ph = 5 ∨ p.ph = 6 by omega) with h | h | h | h | h | h | h
  · have e : takeS p x = if oddB x then { p with ph := 8 } else { p with ph := 1, count := x } := by unfold takeS; rw [if_pos h]
    rw [e]
    exact s22take_core p _ 0 173 g x h (by omega) (by kernel_rfl) Tryz.call173 (fun w hg => s22look_any p g x w hg) w hg
  · have e : takeS p x = headS p x := by unfold takeS; rw [if_neg (by omega), if_pos h]
    rw [e]
    exact s22take_core p _ 1 174 g x h (by omega) (by kernel_rfl) Tryz.call174 (fun w hg => s22head_any p g x w hg) w hg
  · have := a2 h
    have e : takeS p x = if p.at_ = 1 then onS { p with c := updW p.c 1 x, at_ := 2 } 0 else { p with c := updW p.c 0 x, at_ := 1 } := by unfold takeS; rw [if_neg (by omega), if_neg (by omega), if_pos h]
    rw [e]
    exact s22take_core p _ 2 175 g x h (by omega) (by kernel_rfl) Tryz.call175 (fun w hg => s22ctrl_any p g x this.1 this.2 w hg) w hg
  · have := a3 (.inl h)
    have e : takeS p x = { p with k := updW p.k p.at_.toNat x, ph := 4 } := by unfold takeS; rw [if_neg (by omega), if_neg (by omega), if_neg (by omega), if_pos h]
    rw [e]
    exact s22take_core p _ 3 176 g x h (by omega) (by kernel_rfl) Tryz.call176 (fun w hg => s22key_any p g p.at_.toNat x (by omega) (by omega) w hg) w hg
  · have := a3 (.inr h)
    have e : takeS p x = onS { p with v := updW p.v p.at_.toNat x } (p.at_.toNat + 1) := by unfold takeS; rw [if_neg (by omega), if_neg (by omega), if_neg (by omega), if_neg (by omega), if_pos h]
    rw [e]
    exact s22take_core p _ 4 177 g x h (by omega) (by kernel_rfl) Tryz.call177 (fun w hg => s22value_any p g p.at_.toNat x (by omega) (by omega) w hg) w hg
  · have e : takeS p x = { p with at_ := 0, ph := 6 } := by unfold takeS; rw [if_neg (by omega), if_neg (by omega), if_neg (by omega), if_neg (by omega), if_neg (by omega), if_pos h]
    rw [e]
    exact s22take_core p _ 5 178 g x h (by omega) (by kernel_rfl) Tryz.call178 (fun w hg => s22shut_any p g x w hg) w hg
  · have := a6 h
    have e : takeS p x = { p with at_ := p.at_ + 1, ph := if p.at_ = 79 then 7 else 6 } := by unfold takeS; rw [if_neg (by omega), if_neg (by omega), if_neg (by omega), if_neg (by omega), if_neg (by omega), if_neg (by omega)]
    rw [e]
    exact s22take_core p _ 6 179 g x h (by omega) (by kernel_rfl) Tryz.call179 (fun w hg => s22lay_any p g x this.1 this.2 h w hg) w hg
end
section
attribute [local go_sem] acc_g0 acc_g1 acc_g2 acc_g4 acc_s0 acc_s1 acc_s2 acc_s4 zcu accC_one accC_all loadAcc storeAcc bacc0 bacc2 bacc3 bacc3u bacc4
attribute [local go_sem ↓] lrowAcc srowAcc browAcc zct
attribute [local go_sem high] zce
attribute [local go_sem] zcw seenC_one seenC_all seenC_g0 loadSeen storeSeen buildSeen buildSeen0
attribute [local go_sem ↓] lrowSeen srowSeen browSeen zdk
attribute [local go_sem high] zcq
attribute [local irreducible] seenC
attribute [local go_sem] zas zbo
attribute [local go_sem] Oper.semAt_some zak
attribute [local go_sem] layC_idx lcell0 lcell1 lcell2 lcell3 lcell4 lcell5 lcell46
attribute [local go_sem] lay_g0 lay_g1 lay_g2 lay_g3 lay_g4 lay_g5 lay_g46 lay_s0 lay_s4 lay_s5 lay_s46 layC_size layC_one layC_all layC_ws boxLay loadLay storeLay build_lay box_lay buildLay0 buildLay2 buildLay3
attribute [local go_sem ↓] lrowLay srowLay browLay brow_lay zeroLay_run
attribute [local go_sem high] laidAt_lay
attribute [local irreducible] layC
attribute [local irreducible] accC
attribute [local go_sem high] tmod2_64w bit64w bit64zw
theorem boxSeen (x : Int) (b : Bool) (w : World) : (Instr.box 93 (.agg (seenC x b))).run Tryz.prog w = .ok (.pointer (some ⟨w.heap.size, 0, none⟩)) (w.alloc (.cells (seenC x b) 93)) := rfl
attribute [local go_sem] boxSeen
end
section
attribute [local go_sem] acc_g0 acc_g1 acc_g2 acc_g4 acc_s0 acc_s1 acc_s2 acc_s4 zcu accC_one accC_all loadAcc storeAcc bacc0 bacc2 bacc3 bacc3u bacc4
attribute [local go_sem ↓] lrowAcc srowAcc browAcc zct
attribute [local go_sem high] zce
attribute [local go_sem] zas zbo
attribute [local go_sem] Oper.semAt_some zak
attribute [local go_sem] zch pacell0 pacell1 pacell2 pacell3 pacell4 pacell5 pacell6 pacell7 pacell42
attribute [local go_sem] zcv zdi zde zcz zcy zdd zdh zdc zcc zcp zdj zdg zck zbn zcg zci boxPart loadPart storePart zcd zcs buildPart0 buildPart4
attribute [local go_sem ↓] lrowPart srowPart browPart zcj zbw
attribute [local go_sem high] zap
attribute [local irreducible] partC
attribute [local irreducible] accC
theorem s22Load_any (p : PartT) (g : Nat) (wd : Int) (s0 : 0 ≤ p.sl) (s1 : p.sl < 128) (h0 : 0 ≤ wd) (h1 : wd < 40) (w : World) (hg : w.heap[g]? = some (.cells (partC p) 179 (0, 0))) :
    Calls Tryz.prog 171 #[.pointer (some ⟨g, 0, none⟩), I wd] w fun e w' => e = .returned (.agg (accC p.who 1 (16 + 40 * p.sl + wd) 0)) ∧ Ch [] w w' := by
  have K1 := fun w => cell_ok p.sl wd s0 s1 h0 h1 w
  have C0 : Ch [] w (w.alloc (.cells (accC 0 0 0 0) 87)) := (Ch.refl [] w).alloc _
  have z0 : (w.alloc (.cells (accC 0 0 0 0) 87)).heap[w.heap.size]? = some (.cells (accC 0 0 0 0) 87 (0, 0)) := by rw [zab, if_pos rfl]
  have g0 := hkeep C0 hg
  have hgn : ¬ g = w.heap.size := by have := (Array.getElem?_eq_some_iff.1 hg).1; omega
  clear hg
  go_enter Tryz.func171, Tryz.ntmps171
  go_upto_region 1 with (fail)
  obtain ⟨w0, hw0⟩ : ∃ W, w.alloc (.cells (accC 0 0 0 0) 87) = W := ⟨_, rfl⟩
  rw [hw0] at C0 z0 g0 ⊢
  clear hw0
  obtain ⟨B, hB⟩ : ∃ b, w.heap.size = b := ⟨_, rfl⟩
  rw [hB] at z0 hgn ⊢
  have hBw : w.heap.size ≤ B := by omega
  clear hB
  go_wp2_with (go_at_call 44; refine (K1 _).mono ?_; rintro e w' ⟨rfl, rfl⟩)
  refine bodyPost_ret (acc_result Tryz.results171 _ B _ p.who 1 (16 + 40 * p.sl + wd) 0 rfl ?_) rfl ⟨rfl, C0.onObj (.inr hBw) _⟩
  rw [zac, if_pos rfl, z0, Option.map_some, zce]
theorem s22Store_any (p : PartT) (g : Nat) (sl wd : Int) (x : BitVec 64) (s0 : 0 ≤ sl) (s1 : sl < 128) (h0 : 0 ≤ wd) (h1 : wd < 40) (w : World) (hg : w.heap[g]? = some (.cells (partC p) 179 (0, 0))) :
    Calls Tryz.prog 172 #[.pointer (some ⟨g, 0, none⟩), I sl, I wd, U x] w fun e w' => e = .returned (.agg (accC p.who 2 (16 + 40 * sl + wd) (N x))) ∧ Ch [] w w' := by
  have K1 := fun w => cell_ok sl wd s0 s1 h0 h1 w
  have C0 : Ch [] w (w.alloc (.cells (accC 0 0 0 0) 87)) := (Ch.refl [] w).alloc _
  have z0 : (w.alloc (.cells (accC 0 0 0 0) 87)).heap[w.heap.size]? = some (.cells (accC 0 0 0 0) 87 (0, 0)) := by rw [zab, if_pos rfl]
  have g0 := hkeep C0 hg
  have hgn : ¬ g = w.heap.size := by have := (Array.getElem?_eq_some_iff.1 hg).1; omega
  clear hg
  go_enter Tryz.func172, Tryz.ntmps172
  go_upto_region 1 with (fail)
  obtain ⟨w0, hw0⟩ : ∃ W, w.alloc (.cells (accC 0 0 0 0) 87) = W := ⟨_, rfl⟩
  rw [hw0] at C0 z0 g0 ⊢
  clear hw0
  obtain ⟨B, hB⟩ : ∃ b, w.heap.size = b := ⟨_, rfl⟩
  rw [hB] at z0 hgn ⊢
  have hBw : w.heap.size ≤ B := by omega
  clear hB
  go_wp2_with (go_at_call 44; refine (K1 _).mono ?_; rintro e w' ⟨rfl, rfl⟩)
  refine bodyPost_ret (acc_result Tryz.results172 _ B _ p.who 2 (16 + 40 * sl + wd) (N x) rfl ?_) rfl ⟨rfl, C0.onObj (.inr hBw) _⟩
  rw [zac, if_pos rfl, z0, Option.map_some, zce]
end
end Go.Proofs.Hc
