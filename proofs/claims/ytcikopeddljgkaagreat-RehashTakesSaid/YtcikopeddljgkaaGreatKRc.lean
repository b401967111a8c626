/- append of a row of pairs to a row of the call's own. -/
import Derived.Test.YtcikopeddljgkaaGreatKHpk
set_option linter.unusedSimpArgs false
set_option linter.unusedVariables false
set_option maxHeartbeats 1000000
set_option maxRecDepth 100000
namespace Go.Proofs.Hc
open Go.RowKit
theorem pcells_append (l m : List (BitVec 64 × BitVec 64)) : pcells (l ++ m) = pcells l ++ pcells m := by unfold pcells; rw [List.flatMap_append]
theorem own_form {W : World} {base n size : Nat} {e : TypeId} {v : Value} {xs : List Value} (h : W.ownsRow base e size v n xs) : ∃ a c, v = .slice a n c := by
  obtain ⟨_, ⟨rfl, h0⟩ | ⟨g, cap, cur, hv, _⟩⟩ := h
  · exact ⟨none, 0, by rw [h0]⟩
  · exact ⟨_, _, hv⟩
end Go.Proofs.Hc
namespace Go.Proofs.Hc
open Go.RowKit
attribute [local go_sem] zbs zca zax zbc zbn zba zbm zbo zbu signed64 signed8 zar BitVec.ofInt_add BitVec.ofInt_mul ofInt_sub' zay zaz wide8 eqN neN zbz shr1 shr7 shr56
attribute [local go_sem high] zbb zbt
attribute [local go_sem] zag zbw zah zas zad zbe zaq zal zbl zan zbd zbf
attribute [local go_sem] load26 load73 load23 store26 build73
attribute [local go_sem ↓] lrow26 lrow73 lrow23 srow26 zero26 brow73 zac zaw zbg zaa zab
attribute [local go_sem] zai zav zat zbj zbk zbp zao zau zbq zbi zbh
attribute [local go_sem] nn2 nm2 nn3 nm3 nn4 nm4 nn5 nm5 nn6 nm6 nn7 nm7 nn8 nm8
section
attribute [local go_sem] zar
def tri : Nat → Nat
  | 0 => 0
  | j + 1 => tri j + j
theorem g0_mod (h : BitVec 64) : h.toNat % 2 = g0 h := by
  unfold g0
  have hb : h.toNat % 2 = (h &&& 1#64).toNat := by
    rw [BitVec.toNat_and]
    show h.toNat % 2 = h.toNat &&& (2 ^ 1 - 1)
    rw [Nat.and_two_pow_sub_one_eq_mod]
  by_cases hz : h &&& 1#64 = 0#64
  · rw [if_pos hz, hb, hz]; rfl
  · rw [if_neg hz]
    have : (h &&& 1#64).toNat ≠ 0 := fun e => hz (BitVec.eq_of_toNat_eq (by rw [e]; rfl))
    omega
theorem g0_rem (h : BitVec 64) : (N h).tmod 2 = (g0 h : Int) := by
  rw [Int.tmod_eq_emod_of_nonneg (N_nonneg h), ← g0_mod]
  unfold N
  rfl
theorem N_two : N 2#64 = 2 := rfl
attribute [local go_sem] N_two
theorem g0_lt2 (h : BitVec 64) : g0 h < 2 := by rw [← g0_mod]; omega
theorem rAt8_any (h : BitVec 64) (n : Nat) (hn : n < 2) (w : World) : Calls Tryz.prog 221 #[.int .i64 2, U h, I n] w fun e w' => e = .returned (I (((g0 h + n) % 2 : Nat) : Int)) ∧ w = w' := by
  have h1 := g0_rem h
  have h2 := g0_lt2 h
  have h3 : ((g0 h : Nat) : Int) < 2 := by omega
  generalize g0 h = g at *
  go_enter Tryz.func221, Tryz.ntmps221
  go_wp2
  go_loop [7, 16] (fun v i => ∃ j : Nat, j ≤ n + 1 ∧ i = .int .i64 j ∧ v = I ((g + tri j : Nat) : Int)) (fun _ i => n + 1 - (intOf i).toNat)
  case atStart => exact ⟨0, by omega, rfl, rfl⟩
  case round =>
    obtain ⟨j, hj, rfl, rfl⟩ := hrel
    by_cases hlt : j < n + 1
    · have HS : Hid (tri (j + 1) = tri j + j) := Lib.hid rfl
      have ht : tri j < 4 := by
        match j, hlt with
        | 0, _ => decide
        | 1, _ => decide
        | j + 2, h => omega
      generalize tri j = m at *
      go_wp2
      go_round
      case rel => exact ⟨j + 1, by omega, by go_num, by rw [HS.out]; go_num⟩
      case measure => simp [intOf]; omega
    · have hjn : j = n + 1 := by omega
      have ht : tri j = n := by
        subst hjn
        match n, hn with
        | 0, _ => rfl
        | 1, _ => rfl
      rw [ht]
      go_wp2
      go_ret
      exact ⟨rfl, rfl⟩
def icells (l : List Nat) : List Value := l.map fun (n : Nat) => I (n : Int)
theorem icells_snoc (l : List Nat) (n : Nat) : icells (l ++ [n]) = icells l ++ [I (n : Int)] := by unfold icells; rw [List.map_append]; rfl
def grp (g j : Nat) : List Nat := (List.range j).map fun i => (g + i) % 2
theorem grp_succ (g j : Nat) : icells (grp g (j + 1)) = icells (grp g j) ++ [I (((g + j) % 2 : Nat) : Int)] := by
  unfold grp; rw [List.range_succ, List.map_append]; exact icells_snoc _ _
theorem grp_two (g : Nat) (hg : g < 2) : grp g 2 = [g, 1 - g] := by
  match g, hg with
  | 0, _ => rfl
  | 1, _ => rfl
theorem rRow8_any (h : BitVec 64) (w : World) : Calls Tryz.prog 153 #[.int .i64 2, U h] w fun e w' => ∃ a c, e = .returned (.slice a 2 c) ∧ w'.ownsRow w.heap.size 3 1 (.slice a 2 c) 2 (icells (grp (g0 h) 2)) ∧ Ch [] w w' := by
  obtain ⟨i0, hi, hz0, hz1, hz2⟩ := info_parts infoInt
  go_enter Tryz.func153, Tryz.ntmps153
  go_wp2
  go_loopw [5, 8] (fun v i wr => ∃ j : Nat, i = .int .i64 j ∧ j ≤ 2 ∧ wr.ownsRow w.heap.size 3 1 v j (icells (grp (g0 h) j)) ∧ Ch [] w wr) (fun _ i _ => 2 - (intOf i).toNat)
  case atStart => exact ⟨0, rfl, by omega, World.ownsRow_nil _ _ _ _, Ch.refl _ _⟩
  case round =>
    obtain ⟨j, hj, hj8, hown, hcr⟩ := hrel
    subst hj
    have hz := hcr.size
    by_cases hlt : j < 2
    · have A1 := fun w => rAt8_any h j hlt w
      have HS := Lib.hid (grp_succ (g0 h) j)
      have hob := own_block hown
      generalize icells (grp (g0 h) j) = ys at *
      generalize (g0 h + j) % 2 = gj at *
      go_wp2_with (first
        | (go_at_call 221; refine (A1 _).mono ?_; rintro e w' ⟨rfl, rfl⟩)
        | (at_builtin; refine wpList_append_own _ rfl _ _ 154 rfl w.heap.size 3 i0 (.int .i64 0) 1 8 Tryz.underlying154 hi hz0 hz1 hz2 rfl (by decide) _ _ _ rfl (hown.alloc _) ⟨wr.heap.size, 0, none⟩ 1 1 [I (gj : Int)] rfl rfl (cell_one_new _ _ _) (by simp [Value.oneCell']) (by unfold maxLen; omega) (by omega) (by simp; omega) ?_; intro v' w1 hown' hgrow _; have HO := Lib.hid hown'; have HG := Lib.hid hgrow; clear hown' hgrow))
      have hgr : (wr.alloc (.cells #[I (gj : Int)] 3)).grownBy w1 u5.ownBlock := HG.out
      have hW1 : Ch (u5.ownBlock.toList) wr w1 := (((Ch.refl [] wr).alloc (.cells #[I (gj : Int)] 3)).of_nil).trans2 (Ch.of_grown (S := u5.ownBlock.toList) hgr (fun k hk => by simp [hk])) (fun t ht => .inl ht)
      have hSS : ∀ s ∈ u5.ownBlock.toList, w.heap.size ≤ s := fun s hs => hob s (by simpa using hs)
      go_roundw
      case rel => exact ⟨j + 1, by go_num, hlt, by rw [HS.out]; exact HO.out, hcr.trans2 hW1 (fun t ht => .inr (hSS t ht))⟩
      case measure => simp [intOf]; omega
    · have hj8 : j = 2 := by omega
      subst hj8
      have HO := Lib.hid hown
      obtain ⟨a, c, rfl⟩ := own_form hown
      clear hown
      go_wp2
      go_ret
      exact ⟨a, c, rfl, HO.out, hcr⟩
end
section
attribute [local go_sem] zar
theorem pen_g0 (p : PenT) : (penC p)[0]? = some (I p.ph) := rfl
theorem pen_g1 (p : PenT) : (penC p)[1]? = some (I p.sl) := rfl
theorem pen_g2 (p : PenT) : (penC p)[2]? = some (I p.op) := rfl
theorem pen_g3 (p : PenT) : (penC p)[3]? = some (U p.key) := rfl
theorem pen_g4 (p : PenT) : (penC p)[4]? = some (U p.a) := rfl
theorem pen_g5 (p : PenT) : (penC p)[5]? = some (U p.b) := rfl
theorem pen_g6 (p : PenT) : (penC p)[6]? = some (U p.hash) := rfl
theorem pen_g7 (p : PenT) : (penC p)[7]? = some (U p.count) := rfl
theorem pen_g8 (p : PenT) : (penC p)[8]? = some (U p.can) := rfl
theorem pen_g9 (p : PenT) : (penC p)[9]? = some (U p.live) := rfl
theorem pen_g10 (p : PenT) : (penC p)[10]? = some (I p.grp) := rfl
theorem pen_g11 (p : PenT) : (penC p)[11]? = some (U p.ctrl) := rfl
theorem pen_g12 (p : PenT) : (penC p)[12]? = some (Y p.left) := rfl
theorem pen_g13 (p : PenT) : (penC p)[13]? = some (I p.free) := rfl
theorem pen_g14 (p : PenT) : (penC p)[14]? = some (U p.fctrl) := rfl
theorem pen_g15 (p : PenT) : (penC p)[15]? = some (I p.slot) := rfl
theorem pen_g16 (p : PenT) : (penC p)[16]? = some (U p.val) := rfl
theorem pen_g17 (p : PenT) : (penC p)[17]? = some (.bool p.found) := rfl
theorem pen_s0 (p : PenT) (x : Int) : (penC p).setIfInBounds 0 (I x) = penC { p with ph := x } := rfl
theorem pen_s1 (p : PenT) (x : Int) : (penC p).setIfInBounds 1 (I x) = penC { p with sl := x } := rfl
theorem pen_s2 (p : PenT) (x : Int) : (penC p).setIfInBounds 2 (I x) = penC { p with op := x } := rfl
theorem pen_s3 (p : PenT) (x : BitVec 64) : (penC p).setIfInBounds 3 (U x) = penC { p with key := x } := rfl
theorem pen_s4 (p : PenT) (x : BitVec 64) : (penC p).setIfInBounds 4 (U x) = penC { p with a := x } := rfl
theorem pen_s5 (p : PenT) (x : BitVec 64) : (penC p).setIfInBounds 5 (U x) = penC { p with b := x } := rfl
theorem pen_s6 (p : PenT) (x : BitVec 64) : (penC p).setIfInBounds 6 (U x) = penC { p with hash := x } := rfl
theorem pen_s7 (p : PenT) (x : BitVec 64) : (penC p).setIfInBounds 7 (U x) = penC { p with count := x } := rfl
theorem pen_s8 (p : PenT) (x : BitVec 64) : (penC p).setIfInBounds 8 (U x) = penC { p with can := x } := rfl
theorem pen_s9 (p : PenT) (x : BitVec 64) : (penC p).setIfInBounds 9 (U x) = penC { p with live := x } := rfl
theorem pen_s10 (p : PenT) (x : Int) : (penC p).setIfInBounds 10 (I x) = penC { p with grp := x } := rfl
theorem pen_s11 (p : PenT) (x : BitVec 64) : (penC p).setIfInBounds 11 (U x) = penC { p with ctrl := x } := rfl
theorem pen_s12 (p : PenT) (x : BitVec 8) : (penC p).setIfInBounds 12 (Y x) = penC { p with left := x } := rfl
theorem pen_s13 (p : PenT) (x : Int) : (penC p).setIfInBounds 13 (I x) = penC { p with free := x } := rfl
theorem pen_s14 (p : PenT) (x : BitVec 64) : (penC p).setIfInBounds 14 (U x) = penC { p with fctrl := x } := rfl
theorem pen_s15 (p : PenT) (x : Int) : (penC p).setIfInBounds 15 (I x) = penC { p with slot := x } := rfl
theorem pen_s16 (p : PenT) (x : BitVec 64) : (penC p).setIfInBounds 16 (U x) = penC { p with val := x } := rfl
theorem pen_s17 (p : PenT) (x : Bool) : (penC p).setIfInBounds 17 (.bool x) = penC { p with found := x } := rfl
theorem boxPen (p : PenT) (w : World) : (Instr.box 123 (.agg (penC p))).run Tryz.prog w = .ok (.pointer (some ⟨w.heap.size, 0, none⟩)) (w.alloc (.cells (penC p) 123)) := rfl
theorem loadPen (g o : Nat) (w : World) : (loadRow 123 ⟨g, o, none⟩).run Tryz.prog w = rowRes Tryz.prog 123 g o w ((w.heap[g]?).bind (rowAt o 18)) :=
  run_row Tryz.underlying123 rfl (by kernel_rfl) g o w
theorem storePen (g o : Nat) (vs : Array Value) (w : World) : (storeRow 123 ⟨g, o, none⟩ (.agg vs)).run Tryz.prog w = layRes Tryz.prog 123 g o vs w (((w.heap[g]?).map (canLay o 18 vs)).getD false) :=
  run_lay (by kernel_rfl) g o vs w
theorem lrowPen (a : Addr) : loadVar 123 a = loadRow 123 a := rfl
theorem srowPen (a : Addr) (v : Value) : storeVar 123 a v = storeRow 123 a v := rfl
attribute [local go_sem] pen_g0 pen_g1 pen_g2 pen_g3 pen_g4 pen_g5 pen_g6 pen_g7 pen_g8 pen_g9 pen_g10 pen_g11 pen_g12 pen_g13 pen_g14 pen_g15 pen_g16 pen_g17 penC_size penC_one penC_all boxPen loadPen storePen
attribute [local go_sem ↓] lrowPen srowPen
attribute [local irreducible] penC
theorem rSlab_any (n : Int) (w : World) : Calls Tryz.prog 38 #[I n] w fun e w' => e = .returned (.bool (decide (0 ≤ n) && decide (n < 128))) ∧ w = w' := by
  rcases Int.lt_or_le n 0 with h | h
  · go_enter Tryz.func38, Tryz.ntmps38
    go_wp2
    go_ret
    exact ⟨by first | (simp; done) | (simp; omega), rfl⟩
  · rcases Int.lt_or_le n 128 with h2 | h2
    · go_enter Tryz.func38, Tryz.ntmps38
      go_wp2
      go_ret
      exact ⟨by simp [h, h2], rfl⟩
    · go_enter Tryz.func38, Tryz.ntmps38
      go_wp2
      go_ret
      exact ⟨by first | (simp [h]; done) | (simp [h]; omega), rfl⟩
theorem rCell_any (n k : Int) (h0 : 0 ≤ n) (h1 : n < 128) (h2 : 0 ≤ k) (h3 : k ≤ 40) (w : World) : Calls Tryz.prog 40 #[I n, I k] w fun e w' => e = .returned (I (16 + 40 * n + k)) ∧ w = w' := by
  go_enter Tryz.func40, Tryz.ntmps40
  go_wp2
  go_ret
  exact ⟨rfl, rfl⟩
end
section
attribute [local go_sem] zar zby
attribute [local go_sem] Oper.semAt_some zap
attribute [local go_sem] pen_g0 pen_g1 pen_g2 pen_g3 pen_g4 pen_g5 pen_g6 pen_g7 pen_g8 pen_g9 pen_g10 pen_g11 pen_g12 pen_g13 pen_g14 pen_g15 pen_g16 pen_g17 penC_size penC_one penC_all
attribute [local irreducible] penC
theorem tmod2_64w (x : BitVec 64) : (N x).tmod 2 = N (x &&& 1#64) := by
  rw [Int.tmod_eq_emod_of_nonneg (N_nonneg x)]
  unfold N
  rw [BitVec.toNat_and]
  show ((x.toNat : Int) % 2) = ((x.toNat &&& (2 ^ 1 - 1) : Nat) : Int)
  rw [Nat.and_two_pow_sub_one_eq_mod]; rfl
theorem bit64w (x : BitVec 64) : (N (x &&& 1#64) == 1) = oddB x := by
  have h : (N (x &&& 1#64) == N (1#64)) = ((x &&& 1#64) == 1#64) := eqN _ _
  exact h
theorem bit64zw (x : BitVec 64) : (N (x &&& 1#64) == 0) = !oddB x := by
  rw [← bit64w]
  have h : N (x &&& 1#64) = 0 ∨ N (x &&& 1#64) = 1 := by rw [← tmod2_64w, Int.tmod_eq_emod_of_nonneg (N_nonneg x)]; omega
  rcases h with h | h <;> rw [h] <;> rfl
attribute [local go_sem high] tmod2_64w bit64w bit64zw
theorem brow170 (ps : Array (Nat × Value)) : Instr.build 281 ps = buildRow 281 ps := rfl
theorem build170 (p : PenT) (w : World) : (buildRow 281 #[(0, .agg (penC p))]).run Tryz.prog w = .ok (.agg (penC p)) w := by kernel_rfl
theorem box170 (p : PenT) (w : World) : (Instr.box 281 (.agg (penC p))).run Tryz.prog w = .ok (.pointer (some ⟨w.heap.size, 0, none⟩)) (w.alloc (.cells (penC p) 281)) := rfl
attribute [local go_sem] build170 box170 boxPen loadPen storePen
attribute [local go_sem ↓] brow170 lrowPen srowPen
theorem cell_ok (n k : Int) (h0 : 0 ≤ n) (h1 : n < 128) (h2 : 0 ≤ k) (h3 : k < 40) (w : World) : Calls Tryz.prog 44 #[I n, I k] w fun e w' => e = .returned (.tuple #[I (16 + 40 * n + k), I 0]) ∧ w = w' := by
  go_enter Tryz.func44, Tryz.ntmps44
  go_wp2
  go_ret2
  exact ⟨by rw [show 16 + 40 * n + k = 16 + n * 40 + k by omega]; rfl, rfl⟩
theorem cell_bad (n k : Int) (h : n < 0 ∨ 128 ≤ n) (w : World) : Calls Tryz.prog 44 #[I n, I k] w fun e w' => e = .returned (.tuple #[I 0, I 2]) ∧ w = w' := by
  rcases h with h | h
  all_goals
    go_enter Tryz.func44, Tryz.ntmps44
    go_wp2
    go_ret2
    exact ⟨rfl, rfl⟩
end
section
attribute [local go_sem] zar zby
attribute [local go_sem] Oper.semAt_some zap
attribute [local go_sem] pen_g0 pen_g1 pen_g2 pen_g3 pen_g4 pen_g5 pen_g6 pen_g7 pen_g8 pen_g9 pen_g10 pen_g11 pen_g12 pen_g13 pen_g14 pen_g15 pen_g16 pen_g17 penC_size penC_one penC_all
attribute [local irreducible] penC
attribute [local go_sem] pen_s0 pen_s1 pen_s2 pen_s3 pen_s4 pen_s5 pen_s6 pen_s7 pen_s8 pen_s9 pen_s10 pen_s11 pen_s12 pen_s13 pen_s14 pen_s15 pen_s16 pen_s17
theorem wzeroPen_run (w : World) : (zeroValue 123).run Tryz.prog w = .ok (.agg (penC zeroPen)) w := by kernel_rfl
theorem wlaidAt_pen (p q : PenT) (T : TypeId) (fr : Nat × Nat) : laidAt 0 (penC q) (.cells (penC p) T fr) = .cells (penC q) T fr := by
  rw [zal, laid_whole _ _ (by rw [penC_size, penC_size])]
theorem browPen (ps : Array (Nat × Value)) : Instr.build 123 ps = buildRow 123 ps := rfl
theorem buildPen0 (w : World) : (buildRow 123 #[]).run Tryz.prog w = .ok (.agg (penC zeroPen)) w := by kernel_rfl
attribute [local go_sem] build170 box170 boxPen loadPen storePen buildPen0
attribute [local go_sem ↓] brow170 lrowPen srowPen wzeroPen_run browPen
attribute [local go_sem high] wlaidAt_pen
end
section
attribute [local go_sem] zar zby
attribute [local go_sem] Oper.semAt_some zap
attribute [local go_sem] pen_g0 pen_g1 pen_g2 pen_g3 pen_g4 pen_g5 pen_g6 pen_g7 pen_g8 pen_g9 pen_g10 pen_g11 pen_g12 pen_g13 pen_g14 pen_g15 pen_g16 pen_g17 penC_size penC_one penC_all
attribute [local irreducible] penC
attribute [local go_sem] pen_s0 pen_s1 pen_s2 pen_s3 pen_s4 pen_s5 pen_s6 pen_s7 pen_s8 pen_s9 pen_s10 pen_s11 pen_s12 pen_s13 pen_s14 pen_s15 pen_s16 pen_s17
attribute [local go_sem] boxPen loadPen storePen buildPen0
attribute [local go_sem ↓] lrowPen srowPen wzeroPen_run browPen
attribute [local go_sem high] wlaidAt_pen
def RowIn (w : World) (v : Value) (n : Nat) (l : List (BitVec 64)) : Prop := ∃ r c cur, v = .slice (some ⟨r, 0, none⟩) n c ∧ l.length = n ∧ w.heap[r]? = some (.cells cur 22 (0, 0)) ∧ WordsAt cur l
theorem RowIn.keep {w w' : World} {v : Value} {n : Nat} {l : List (BitVec 64)} (h : RowIn w v n l) (c : Ch [] w w') : RowIn w' v n l := by
  obtain ⟨r, d, cur, rfl, hn, hW, hA⟩ := h
  exact ⟨r, d, cur, rfl, hn, hkeep c hW, hA⟩
end
end Go.Proofs.Hc
namespace Go.Proofs.Hc
open Go.RowKit
def LayT.cell (p : LayT) : Nat → Value
  | 0 => I p.ph
  | 1 => I p.who
  | 2 => I p.sl
  | 3 => U p.seed
  | 4 => U p.count
  | 5 => I p.at_
  | i + 6 => if i < 40 then U (p.ws i) else .bool p.bad
def layC (p : LayT) : Array Value := Array.ofFn (n := 47) fun i => p.cell i.1
def wsC (ws : Nat → BitVec 64) : Array Value := Array.ofFn (n := 40) fun i => U (ws i.1)
theorem zck (p : LayT) : (layC p).size = 47 := by simp [layC]
theorem layC_get (p : LayT) (i : Nat) : (layC p)[i]? = if i < 47 then some (p.cell i) else none := by
  unfold layC; rw [Array.getElem?_ofFn]; simp
theorem layCell_one (p : LayT) (i : Nat) : (p.cell i).oneCell' = true := by
  unfold LayT.cell; split <;> try rfl
  split <;> rfl
theorem layC_one (p : LayT) : allOne (layC p) = true := by
  unfold allOne
  simp only [layC, Array.all_eq_true_iff_forall_mem, Array.mem_ofFn]; rintro v ⟨i, rfl⟩; exact layCell_one ..
theorem layC_all (p : LayT) : (layC p).extract 0 47 = layC p := by
  have := Array.extract_size (xs := layC p); rwa [zck] at this
theorem wsC_get (ws : Nat → BitVec 64) (i : Nat) : (wsC ws)[i]? = if i < 40 then some (U (ws i)) else none := by
  unfold wsC; rw [Array.getElem?_ofFn]; simp
theorem layC_ws (p : LayT) : (layC p).extract 6 46 = wsC p.ws := by
  apply Array.ext_getElem?; intro i
  rw [Array.getElem?_extract, layC_get, wsC_get, zck]
  by_cases h : i < 40
  · rw [if_pos (by omega), if_pos (by omega), if_pos h, Nat.add_comm]
    simp [LayT.cell, h]
  · rw [if_neg (by omega), if_neg h]
theorem lay_g0 (p : LayT) : (layC p)[0]? = some (I p.ph) := by rw [layC_get]; rfl
theorem lay_g1 (p : LayT) : (layC p)[1]? = some (I p.who) := by rw [layC_get]; rfl
theorem lay_g2 (p : LayT) : (layC p)[2]? = some (I p.sl) := by rw [layC_get]; rfl
theorem lay_g3 (p : LayT) : (layC p)[3]? = some (U p.seed) := by rw [layC_get]; rfl
theorem lay_g4 (p : LayT) : (layC p)[4]? = some (U p.count) := by rw [layC_get]; rfl
theorem lay_g5 (p : LayT) : (layC p)[5]? = some (I p.at_) := by rw [layC_get]; rfl
theorem lay_g46 (p : LayT) : (layC p)[46]? = some (.bool p.bad) := by rw [layC_get]; rfl
theorem layC_idx (p : LayT) (i : Nat) (h : i < (layC p).size) : (layC p)[i] = p.cell i := by simp [layC]
theorem lcell0 (p : LayT) : p.cell 0 = I p.ph := rfl
theorem lcell1 (p : LayT) : p.cell 1 = I p.who := rfl
theorem lcell2 (p : LayT) : p.cell 2 = I p.sl := rfl
theorem lcell3 (p : LayT) : p.cell 3 = U p.seed := rfl
theorem lcell4 (p : LayT) : p.cell 4 = U p.count := rfl
theorem lcell5 (p : LayT) : p.cell 5 = I p.at_ := rfl
theorem lcell46 (p : LayT) : p.cell 46 = .bool p.bad := rfl
theorem lay_gw (p : LayT) (j : Nat) (h : j < 40) : (layC p)[6 + j]? = some (U (p.ws j)) := by
  rw [layC_get, if_pos (by omega), Nat.add_comm]; simp [LayT.cell, h]
theorem lset {p p' : LayT} {j : Nat} {x : Value} (hj : j < 47) (hx : p'.cell j = x) (ho : ∀ i, i < 47 → i ≠ j → p'.cell i = p.cell i) :
    (layC p).setIfInBounds j x = layC p' := by
  apply Array.ext_getElem?; intro i
  rw [Array.getElem?_setIfInBounds, layC_get, layC_get, zck]
  by_cases h : j = i
  · subst h; simp [hj, hx]
  · rw [if_neg h]
    by_cases h2 : i < 47
    · simp only [h2, if_true]; rw [ho i h2 (fun e => h e.symm)]
    · simp [h2]
theorem lay_s0 (p : LayT) (x : Int) : (layC p).setIfInBounds 0 (I x) = layC { p with ph := x } :=
  lset (by omega) rfl (fun i _ h => by unfold LayT.cell; split <;> first | rfl | omega)
theorem lay_s4 (p : LayT) (x : BitVec 64) : (layC p).setIfInBounds 4 (U x) = layC { p with count := x } :=
  lset (by omega) rfl (fun i _ h => by unfold LayT.cell; split <;> first | rfl | omega)
theorem lay_s5 (p : LayT) (x : Int) : (layC p).setIfInBounds 5 (I x) = layC { p with at_ := x } :=
  lset (by omega) rfl (fun i _ h => by unfold LayT.cell; split <;> first | rfl | omega)
theorem lay_s46 (p : LayT) (x : Bool) : (layC p).setIfInBounds 46 (.bool x) = layC { p with bad := x } := by
  refine lset (by omega) rfl (fun i hi h => ?_)
  unfold LayT.cell
  split <;> first | rfl | skip
  rename_i i
  rw [if_pos (by omega), if_pos (by omega)]
theorem lay_sw (p : LayT) (j : Nat) (hj : j < 40) (x : BitVec 64) : (layC p).setIfInBounds (6 + j) (U x) = layC { p with ws := updW p.ws j x } := by
  refine lset (by omega) ?_ (fun i hi h => ?_)
  · rw [Nat.add_comm]; simp [LayT.cell, hj, updW]
  · unfold LayT.cell
    split <;> first | rfl | skip
    rename_i i
    by_cases h2 : i < 40
    · simp [h2, updW, show i ≠ j by omega]
    · simp [h2]
theorem boxLay (p : LayT) (w : World) : (Instr.box 72 (.agg (layC p))).run Tryz.prog w = .ok (.pointer (some ⟨w.heap.size, 0, none⟩)) (w.alloc (.cells (layC p) 72)) := rfl
theorem loadLay (g o : Nat) (w : World) : (loadRow 72 ⟨g, o, none⟩).run Tryz.prog w = rowRes Tryz.prog 72 g o w ((w.heap[g]?).bind (rowAt o 47)) :=
  run_row Tryz.underlying72 rfl (by kernel_rfl) g o w
theorem storeLay (g o : Nat) (vs : Array Value) (w : World) : (storeRow 72 ⟨g, o, none⟩ (.agg vs)).run Tryz.prog w = layRes Tryz.prog 72 g o vs w (((w.heap[g]?).map (canLay o 47 vs)).getD false) :=
  run_lay (by kernel_rfl) g o vs w
theorem lrowLay (a : Addr) : loadVar 72 a = loadRow 72 a := rfl
theorem srowLay (a : Addr) (v : Value) : storeVar 72 a v = storeRow 72 a v := rfl
theorem browLay (ps : Array (Nat × Value)) : Instr.build 72 ps = buildRow 72 ps := rfl
theorem brow_lay (ps : Array (Nat × Value)) : Instr.build 163 ps = buildRow 163 ps := rfl
theorem build_lay (p : LayT) (w : World) : (buildRow 163 #[(0, .agg (layC p))]).run Tryz.prog w = .ok (.agg (layC p)) w := by kernel_rfl
theorem box_lay (p : LayT) (w : World) : (Instr.box 163 (.agg (layC p))).run Tryz.prog w = .ok (.pointer (some ⟨w.heap.size, 0, none⟩)) (w.alloc (.cells (layC p) 163)) := rfl
theorem zcs (w : World) : (zeroValue 72).run Tryz.prog w = .ok (.agg (layC zeroLay)) w := by kernel_rfl
theorem zaj (p q : LayT) (T : TypeId) (fr : Nat × Nat) : laidAt 0 (layC q) (.cells (layC p) T fr) = .cells (layC q) T fr := by
  rw [zal, laid_whole _ _ (by rw [zck, zck])]
theorem buildLay0 (w : World) : (buildRow 72 #[]).run Tryz.prog w = .ok (.agg (layC zeroLay)) w := by kernel_rfl
def firstL (who sl : Int) (seed : BitVec 64) : LayT := ⟨0, who, sl, seed, 0#64, 0, fun _ => 0#64, false⟩
theorem buildLay3 (who sl : Int) (seed : BitVec 64) (w : World) : (buildRow 72 #[(1, I who), (2, I sl), (3, U seed)]).run Tryz.prog w = .ok (.agg (layC (firstL who sl seed))) w := by kernel_rfl
theorem buildLay2 (sl : Int) (seed : BitVec 64) (w : World) : (buildRow 72 #[(2, I sl), (3, U seed)]).run Tryz.prog w = .ok (.agg (layC (firstL 0 sl seed))) w := by kernel_rfl
end Go.Proofs.Hc
namespace Go.Proofs.Hc
open Go.RowKit
theorem zdb {w : World} {r b : Nat} {c d : Array Value} {T T' : TypeId} {fr fr' : Nat × Nat} (h1 : w.heap[r]? = some (.cells c T fr)) (h2 : w.heap[b]? = some (.cells d T' fr')) (hT : T ≠ T') : r ≠ b := by
  intro he
  subst he
  rw [h1] at h2
  have := Option.some.inj h2
  injection this with _ h3
  exact hT h3
theorem zbv {w : World} {F b : Nat} (f : Obj → Obj) (h : ¬ b = F) : (World.onObj w F f).heap[b]? = w.heap[b]? := by rw [zab, if_neg h]
theorem setCell_other {w : World} {b : Nat} (p o : Nat) (v : Value) (h : b ≠ p) : (w.setCell ⟨p, o, none⟩ v).heap[b]? = w.heap[b]? := by rw [zaa, if_neg h]
theorem zae {w : World} {b : Nat} {o : Obj} (h : w.heap[b]? = some o) : b < w.heap.size := (Array.getElem?_eq_some_iff.1 h).1
end Go.Proofs.Hc
namespace Go.Proofs.Hc
open Go.RowKit
attribute [local go_sem] zbs zca zax zbc zbn zba zbm zbo zbu signed64 signed8 zar BitVec.ofInt_add BitVec.ofInt_mul ofInt_sub' zay zaz wide8 eqN neN zbz shr1 shr7 shr56
attribute [local go_sem high] zbb zbt
attribute [local go_sem] zag zbw zah zas zad zbe zaq zal zbl zan zbd zbf
attribute [local go_sem] load26 load73 load23 store26 build73
attribute [local go_sem ↓] lrow26 lrow73 lrow23 srow26 zero26 brow73 zac zaw zbg zaa zab
attribute [local go_sem] zai zav zat zbj zbk zbp zao zau zbq zbi zbh
attribute [local go_sem] nn2 nm2 nn3 nm3 nn4 nm4 nn5 nm5 nn6 nm6 nn7 nm7 nn8 nm8
section
attribute [local go_sem] Oper.semAt_some zap
theorem words_oneZ (l : List (BitVec 64)) : ∀ u ∈ l.map (fun x => U x), u.oneCell' = true := by
  intro u hu
  obtain ⟨y, _, rfl⟩ := List.mem_map.1 hu
  rfl
theorem cloneWords_any (l : List (BitVec 64)) (x : Addr) (c : Nat) (w : World) (hl : l.length ≤ 900000) (h : ∀ w', Ch [] w w' → ∀ j u, (l.map fun x => U x)[j]? = some u → w'.cell? (x.add j) = some u) :
    Calls Tryz.prog 54 #[.slice (some x) l.length c] w fun e w' => ∃ a' c', e = .returned (.slice a' l.length c') ∧ w'.ownsRow w.heap.size 22 1 (.slice a' l.length c') l.length (l.map fun x => U x) ∧ Ch [] w w' := by
  have q22 : ∀ (w : World) (a : Option Addr) (n c n' c' : Nat), (binOp .eql 44 (.slice a n c) (.slice none n' c')).run Tryz.prog w = .ok (.bool a.isNone) w := fun w a n c n' c' => Lib.run_eql_slice_nil w _ _ a n c n' c' Tryz.underlying44
  obtain ⟨i0, hi, hz0, hz1, hz2⟩ := info_parts infoU
  have hmade : (w.alloc (.cells #[] 22)).ownsRow w.heap.size 22 1 (.slice (some ⟨w.heap.size, 0, none⟩) 0 0) 0 [] := World.ownsRow_made w #[] 0 (Nat.le_refl _) (Nat.zero_le _) (by simp)
  have hcA : Ch [] w (w.alloc (.cells #[] 22)) := (Ch.refl [] w).alloc _
  obtain ⟨v', w1, hrun, hown, hgr, _⟩ := run_append_own (P := Tryz.prog) (w.alloc (.cells #[] 22)) w.heap.size 44 44 22 i0 (U 0#64) 1 8 Tryz.underlying44 hi hz0 hz1 hz2 rfl (by decide) _ 0 [] hmade x l.length c (l.map fun x => U x) (by simp) (h _ hcA) (words_oneZ l) (by unfold maxLen; omega) (by omega) (by simp)
  rw [Nat.zero_add, List.nil_append] at hown
  have hc1 : Ch [] w w1 := hcA.trans2 (Ch.of_grown (S := [w.heap.size]) hgr (fun k hk => by simp [Value.ownBlock] at hk; simp [hk])) (by simp)
  have bs : ∀ w : World, (Instr.buildSlice 44 0 #[]).run Tryz.prog w = .ok (.slice (some ⟨w.heap.size, 0, none⟩) 0 0) (w.alloc (.cells #[] 22)) := fun w => by kernel_rfl
  have HO := Lib.hid hown
  have HC := Lib.hid hc1
  clear hmade hcA hgr hown hc1 h
  go_enter Tryz.func54, Tryz.ntmps54
  go_wp2_with (at_builtin; refine Lib.wpList_append_run _ rfl _ _ 44 44 rfl _ _ rfl rfl _ _ hrun ?_)
  go_ret
  obtain ⟨a', c', rfl⟩ := own_form HO.out
  exact ⟨a', c', rfl, HO.out, HC.out⟩
end
end Go.Proofs.Hc
namespace Go.Proofs.Hc
open Go.RowKit
def SelfEq (d : Nat) (T : TypeId) (v : Value) : Prop := ∀ w, (Op.equalIn d T v v).run Tryz.prog w = .ok true w
theorem self_int (d : Nat) (T : TypeId) (k k' : IntKind) (a : Int) (h : Tryz.prog.underlying T = some (.int k')) : SelfEq (d + 1) T (.int k a) := fun w => by
  rw [run_equalIn_int w d T k k' a a h, beq_self_eq_true]
theorem self_items {d c : Nat} {e : TypeId} {xs : Array Value} : ∀ (is : List Nat), (∀ i ∈ is, ∃ a, (∀ w, (part e xs (i * c)).run Tryz.prog w = .ok a w) ∧ SelfEq d e a) → ∀ w, (Op.eqItems d e c xs xs is).run Tryz.prog w = .ok true w
  | [], _, w => by simp [Op.eqItems]
  | i :: is, h, w => by
    obtain ⟨a, h1, h2⟩ := h i (by simp)
    have ih := self_items is (fun j hj => h j (by simp [hj])) w
    simp only [Op.eqItems, Sem.run_bind, h1, h2 w, Result.andThen_ok, Bool.not_true, Bool.false_eq_true, if_false, ih]
theorem self_fields {d : Nat} {xs : Array Value} : ∀ (fs : List Field), (∀ f ∈ fs, ∃ a, (∀ w, (part f.type xs f.offset).run Tryz.prog w = .ok a w) ∧ SelfEq d f.type a) → ∀ w, (Op.eqFields d xs xs fs).run Tryz.prog w = .ok true w
  | [], _, w => by simp [Op.eqFields]
  | f :: fs, h, w => by
    obtain ⟨a, h1, h2⟩ := h f (by simp)
    have ih := self_fields fs (fun j hj => h j (by simp [hj])) w
    simp only [Op.eqFields]
    split
    · simp only [Sem.run_bind, h1, h2 w, Result.andThen_ok, Bool.not_true, Bool.false_eq_true, if_false, ih]
    · exact ih
theorem part_int {T : TypeId} {k : IntKind} (h : Tryz.prog.underlying T = some (.int k)) {xs : Array Value} {off : Nat} {v : Value} (hx : xs[off]? = some v) (w : World) : (part T xs off).run Tryz.prog w = .ok v w :=
  run_part_plain w (by simp [Program.plainKey, h]) hx
theorem part_arr {T e : TypeId} {n : Nat} (h : Tryz.prog.underlying T = some (.array n e)) {i : TypeInfo} (hi : Tryz.prog.info? T = some i) (hs : Tryz.prog.cellsOf T = n) (xs : Array Value) (off : Nat) (w : World) : (part T xs off).run Tryz.prog w = .ok (.agg (xs.extract off (off + n))) w := by
  simp [part, isAgg, run_underlying h, run_sizeOf w hi, hs]
theorem self_words {d n : Nat} {T : TypeId} (h : Tryz.prog.underlying T = some (.array n 22)) (xs : Array Value) (hx : ∀ i, i < n → ∃ b : BitVec 64, xs[i]? = some (U b)) : SelfEq (d + 2) T (.agg xs) := fun w => by
  obtain ⟨i, hi⟩ : ∃ i, Tryz.prog.info? 22 = some i := info_of_underlying Tryz.underlying22
  rw [run_equalIn_array w (d + 1) xs xs h hi]
  have hc : Tryz.prog.cellsOf 22 = 1 := by kernel_rfl
  rw [hc]
  refine self_items _ (fun j hj => ?_) w
  obtain ⟨b, hb⟩ := hx j (by simpa using hj)
  exact ⟨U b, fun w => part_int Tryz.underlying22 (by rw [Nat.mul_one]; exact hb) w, self_int d _ _ _ _ Tryz.underlying22⟩
end Go.Proofs.Hc
namespace Go.Proofs.Hc
open Go.RowKit
theorem bool_under : Tryz.prog.underlying 4 = some .bool := by kernel_rfl
theorem self_bool (d : Nat) (T : TypeId) (a : Bool) (h : Tryz.prog.underlying T = some .bool) : SelfEq (d + 1) T (.bool a) := fun w => by
  rw [run_equalIn_bool' w d T a a h, beq_self_eq_true]
theorem part_bool {T : TypeId} (h : Tryz.prog.underlying T = some .bool) {xs : Array Value} {off : Nat} {v : Value} (hx : xs[off]? = some v) (w : World) : (part T xs off).run Tryz.prog w = .ok v w :=
  run_part_plain w (by simp [Program.plainKey, h]) hx
end Go.Proofs.Hc
namespace Go.Proofs.Hc
open Go.RowKit
theorem lay_fields : (Tryz.prog.fieldsOf 72).toList.map (fun f => (f.type, f.offset)) = [(3, 0), (3, 1), (3, 2), (22, 3), (22, 4), (3, 5), (48, 6), (4, 46)] := by kernel_rfl
theorem lay_under : Tryz.prog.underlying 72 = some (.struct (Tryz.prog.fieldsOf 72)) := by kernel_rfl
theorem lay_stood : Tryz.prog.stoodInHeld 72 = false := by kernel_rfl
theorem c40_cells : Tryz.prog.cellsOf 48 = 40 := by kernel_rfl
theorem self_lay (d : Nat) (p : LayT) : SelfEq (d + 3) 72 (.agg (layC p)) := fun w => by
  rw [run_equalIn_agg w (d + 2) 72 _ _ lay_under lay_stood]
  refine self_fields _ (fun f hf => ?_) w
  have hm : (f.type, f.offset) ∈ [(3, 0), (3, 1), (3, 2), (22, 3), (22, 4), (3, 5), (48, 6), (4, 46)] := by
    rw [← lay_fields]; exact List.mem_map.2 ⟨f, hf, rfl⟩
  generalize f.type = T at *
  generalize f.offset = o at *
  obtain ⟨i40, h40⟩ := info_of_underlying (P := Tryz.prog) Tryz.underlying48
  simp only [List.mem_cons, Prod.mk.injEq, List.not_mem_nil, or_false] at hm
  rcases hm with ⟨rfl, rfl⟩ | ⟨rfl, rfl⟩ | ⟨rfl, rfl⟩ | ⟨rfl, rfl⟩ | ⟨rfl, rfl⟩ | ⟨rfl, rfl⟩ | ⟨rfl, rfl⟩ | ⟨rfl, rfl⟩
  · exact ⟨_, part_int Tryz.underlying3 (lay_g0 p), self_int _ _ _ _ _ Tryz.underlying3⟩
  · exact ⟨_, part_int Tryz.underlying3 (lay_g1 p), self_int _ _ _ _ _ Tryz.underlying3⟩
  · exact ⟨_, part_int Tryz.underlying3 (lay_g2 p), self_int _ _ _ _ _ Tryz.underlying3⟩
  · exact ⟨_, part_int Tryz.underlying22 (lay_g3 p), self_int _ _ _ _ _ Tryz.underlying22⟩
  · exact ⟨_, part_int Tryz.underlying22 (lay_g4 p), self_int _ _ _ _ _ Tryz.underlying22⟩
  · exact ⟨_, part_int Tryz.underlying3 (lay_g5 p), self_int _ _ _ _ _ Tryz.underlying3⟩
  · refine ⟨.agg ((layC p).extract 6 (6 + 40)), part_arr Tryz.underlying48 h40 c40_cells _ _, self_words Tryz.underlying48 _ (fun i hi => ⟨p.ws i, ?_⟩)⟩
    rw [Array.getElem?_extract, if_pos (by rw [zck]; omega)]
    exact lay_gw p i hi
  · exact ⟨_, part_bool bool_under (lay_g46 p), self_bool _ _ _ bool_under⟩
theorem eql_lay (p : LayT) (w : World) : (binOp .eql 72 (.agg (layC p)) (.agg (layC p))).run Tryz.prog w = .ok (.bool true) w := by
  rw [run_eql_struct, self_lay 9997 p w]; rfl
theorem neq_lay (p : LayT) (w : World) : (binOp .neq 72 (.agg (layC p)) (.agg (layC p))).run Tryz.prog w = .ok (.bool false) w := by
  rw [run_neq_struct, self_lay 9997 p w]; rfl
theorem guardLay (op : BinOp) (x y : Operand) (xs ys : Array Value) (w : World) : (eqGuard op 72 x y (.agg xs) (.agg ys)).run Tryz.prog w = .ok () w := run_eqGuard_agg w op 72 x y xs ys (by kernel_rfl)
end Go.Proofs.Hc
