/- Law 22, SplitHalves: what its walk needs. -/
import Derived.Test.YtcikopeddljgkaaGreatKVb
set_option linter.unusedSimpArgs false
set_option linter.unusedVariables false
namespace Go.Proofs.Hc
open Go.RowKit
attribute [local go_sem] zbr zcd zat zaz zbn zax zbm zbo zbw signed64 signed8 zar BitVec.ofInt_add BitVec.ofInt_mul ofInt_sub' zav zaw wide8 eqN neN zcc shr1 shr7 shr56
attribute [local go_sem high] zay zbv
attribute [local go_sem] zau zbx zai zal zac zbd zan zah zbk zaj zbc zbe
attribute [local go_sem] load26 load73 load23 store26 build73
attribute [local go_sem ↓] lrow26 lrow73 lrow23 srow26 zero26 brow73 zab zba zbb zaa zae
attribute [local go_sem] zag zap zaf zbf zbi zbp zam zaq zbq zbh zbg
attribute [local go_sem] nn2 nm2 nn3 nm3 nn4 nm4 nn5 nm5 nn6 nm6 nn7 nm7 nn8 nm8
theorem eqSub_any (o n : Nat) (r q c d : Nat) (cur cur2 : Array Value) (w : World) (hn : n ≤ 900000) (hx : ∀ j, j < n → ∃ y, cur[o + j]? = some (U y) ∧ cur2[o + j]? = some (U y))
    (hr : w.heap[r]? = some (.cells cur 22 (0, 0))) (hs : w.heap[q]? = some (.cells cur2 22 (0, 0))) :
    Calls Tryz.prog 31 #[.slice (some ⟨r, o, none⟩) n c, .slice (some ⟨q, o, none⟩) n d] w fun e w' => e = .returned (.bool true) ∧ Ch [] w w' := by
  have HX := Lib.hid hx
  have HR := Lib.hid hr
  have HRB := Lib.hid hs
  clear hx hr hs
  go_enter Tryz.func31, Tryz.ntmps31
  go_wp2
  go_loopw [13] (fun i wr => ∃ j : Nat, i = .int .i64 j ∧ j ≤ n ∧ Ch [] w wr) (fun i _ => n - (intOf i).toNat)
  case atStart => exact ⟨0, rfl, Nat.zero_le _, Ch.refl _ _⟩
  case round =>
    obtain ⟨j, hj, hjl, hcr⟩ := hrel
    subst hj
    rcases Nat.lt_or_ge j n with hlt | hge
    · obtain ⟨y, hrow, hrow2⟩ := HX.out j hlt
      have hrr : wr.heap[r]? = some (.cells cur 22 (0, 0)) := hkeep hcr HR.out
      have hqq : wr.heap[q]? = some (.cells cur2 22 (0, 0)) := hkeep hcr HRB.out
      have hdec : decide (j < n) = true := by simpa using hlt
      have hg0 : ∀ g : Gar wr, (g.1).heap[q]? = some (.cells cur2 22 (0, 0)) := fun g => hkeep g.2 hqq
      have hg1 : ∀ g : Gar wr, (g.1).heap[r]? = some (.cells cur 22 (0, 0)) := fun g => hkeep g.2 hrr
      go_wp2
      refine wp_region_gar (by kernel_rfl) (by kernel_rfl) ?_
      repeat (go_big_quiet_step (fail))
      refine wpQuiet_nil ?_
      rintro w1 ⟨g1, hw1⟩
      have hc1 : Ch [] w w1 := hcr.trans (by rw [hw1]; exact g1.2)
      clear hw1 g1 hg0 hg1
      go_wp2
      go_roundw
      case rel => exact ⟨j + 1, by go_num, hlt, hc1⟩
      case measure => simp [intOf]; omega
    · have hj : j = n := by omega
      subst hj
      go_wp2
      go_ret
      exact ⟨rfl, hcr⟩
theorem zero2i (w : World) : (zeroValue 45).run Tryz.prog w = .ok (.agg #[I 0, I 0]) w := by kernel_rfl
theorem load2i (g o : Nat) (w : World) : (loadRow 45 ⟨g, o, none⟩).run Tryz.prog w = rowRes Tryz.prog 45 g o w ((w.heap[g]?).bind (rowAt o 2)) :=
  run_row Tryz.underlying45 rfl (by kernel_rfl) g o w
theorem store2i (g o : Nat) (vs : Array Value) (w : World) : (storeRow 45 ⟨g, o, none⟩ (.agg vs)).run Tryz.prog w = layRes Tryz.prog 45 g o vs w (((w.heap[g]?).map (canLay o 2 vs)).getD false) :=
  run_lay (by kernel_rfl) g o vs w
theorem lrow2i (a : Addr) : loadVar 45 a = loadRow 45 a := rfl
theorem srow2i (a : Addr) (v : Value) : storeVar 45 a v = storeRow 45 a v := rfl
theorem one2i (a b : Int) : allOne #[I a, I b] = true := by unfold allOne; simp [Value.oneCell']
theorem laid2i (a b x y : Int) (T : TypeId) (fr : Nat × Nat) : laidAt 0 #[I a, I b] (.cells #[I x, I y] T fr) = .cells #[I a, I b] T fr := by
  rw [zah, laid_whole _ _ (by rfl)]
theorem index2i_0 (a b : Value) (w : World) : (Instr.index 45 (.agg #[a, b]) (.int .i64 0)).run Tryz.prog w = .ok a w := by kernel_rfl
theorem index2i_1 (a b : Value) (w : World) : (Instr.index 45 (.agg #[a, b]) (.int .i64 1)).run Tryz.prog w = .ok b w := by kernel_rfl
structure HalfRun (t : Tab) (a b : Int) (seed : BitVec 64) (l' : List (BitVec 64)) (p' : PartT) (k : Nat) : Prop where
  run : RunsS (cells22 t) (firstP22 3 0 a b seed) k l' p'
  le : k ≤ 117
  low : ∀ j, j < 16 → l'[j]? = (cells22 t)[j]?
  mid : ∀ j, j < 39 → l'[17 + j]? = (cells22 t)[17 + j]?
theorem HalfRun.sub {t : Tab} {a b : Int} {seed : BitVec 64} {l' : List (BitVec 64)} {p' : PartT} {k : Nat} (h : HalfRun t a b seed l' p' k) :
    (∀ j, j < 16 → ∃ y, (wcells l')[0 + j]? = some (U y) ∧ (wcells (cells22 t))[0 + j]? = some (U y)) ∧ ∀ j, j < 39 → ∃ y, (wcells l')[17 + j]? = some (U y) ∧ (wcells (cells22 t))[17 + j]? = some (U y) := by
  have hx : ∀ i, i < 136 → ∃ y, (cells22 t)[i]? = some y := fun i hi => ⟨(cells22 t)[i]'(by rw [zbu]; exact hi), List.getElem?_eq_getElem _⟩
  refine ⟨fun j hj => ?_, fun j hj => ?_⟩
  · obtain ⟨y, hy⟩ := hx j (by omega)
    rw [Nat.zero_add]
    exact ⟨y, wcells_at _ _ _ ((h.low j hj).trans hy), wcells_at _ _ _ hy⟩
  · obtain ⟨y, hy⟩ := hx (17 + j) (by omega)
    exact ⟨y, wcells_at _ _ _ ((h.mid j hj).trans hy), wcells_at _ _ _ hy⟩
structure TwoS (a b : Int) : Prop where
  h : a = 1 ∧ b = 2 ∨ a = 2 ∧ b = 1
theorem TwoS.slabs {a b : Int} (h : TwoS a b) : SlabsS 3 a b := by
  rcases h.h with ⟨rfl, rfl⟩ | ⟨rfl, rfl⟩
  · exact ⟨by decide, by decide, by decide, by decide, by decide, by decide, by decide⟩
  · exact ⟨by decide, by decide, by decide, by decide, by decide, by decide, by decide⟩
theorem TwoS.right {a b : Int} (h : TwoS a b) (seed : BitVec 64) : rightS (firstP22 3 0 a b seed) = true := by
  refine (rightS_iff _).2 (right_ofS h.slabs rfl rfl rfl rfl odd0 (by show (0 : Int) ≤ 0; decide) (by show (0 : Int) ≤ 9; decide) (fun h => absurd h (by show ¬ (0 : Int) = 2; decide)) (fun h => absurd h (by show ¬ ((0 : Int) = 3 ∨ (0 : Int) = 4); decide)) (fun h => absurd h (by show ¬ (0 : Int) = 6; decide)))
theorem TwoS.there {a b : Int} (h : TwoS a b) (seed : BitVec 64) : ThereS 136 (firstP22 3 0 a b seed) := by
  rcases h.h with ⟨rfl, rfl⟩ | ⟨rfl, rfl⟩
  · exact ⟨by show (56 : Int) + 40 * 0 ≤ ((136 : Nat) : Int); decide, by show (56 : Int) + 40 * 1 ≤ ((136 : Nat) : Int); decide, by show (56 : Int) + 40 * 2 ≤ ((136 : Nat) : Int); decide⟩
  · exact ⟨by show (56 : Int) + 40 * 0 ≤ ((136 : Nat) : Int); decide, by show (56 : Int) + 40 * 2 ≤ ((136 : Nat) : Int); decide, by show (56 : Int) + 40 * 1 ≤ ((136 : Nat) : Int); decide⟩
theorem TwoS.pos {a b : Int} (h : TwoS a b) (m : Nat) (hm : m < 80) : 56 ≤ posS a b m := by
  rcases h.h with ⟨rfl, rfl⟩ | ⟨rfl, rfl⟩
  · unfold posS; split <;> omega
  · unfold posS; split <;> omega
theorem nFull16 {t : Tab} : nFull t ≤ 16 := by
  rw [← lastN_all]
  have : ∀ n, lastN t n ≤ n := by
    intro n
    induction n with
    | zero => exact Nat.le_refl _
    | succ n ih => unfold lastN; split <;> omega
  exact this 16
theorem may_no22 {t : Tab} {s : BitVec 64} (hd : t.depth < 5) (h : halvesTS t s = none) : mayT t s = false := by
  cases hm : mayT t s with
  | false => rfl
  | true => rw [halvesTS_laid ((may_iff t s).1 hm) hd] at h; cases h
theorem half_not {t : Tab} {a b : Int} (S : TwoS a b) (seed : BitVec 64) (hf : flatT t = true) (hh : ¬ (oddB t.count = false ∧ t.depth < 5 ∧ ∃ x, halvesTS t seed = some x)) :
    ∃ p' k, HalfRun t a b seed (cells22 t) p' k ∧ k ≤ 36 ∧ (p'.ph != 7) = true ∧ (p'.ph == 8) = oddB t.count ∧ (oddB t.count = false → ∃ c, (c != 0) = true ∧ ifMay t seed (halvesE t (halfX t seed)) = .error c) := by
  have hl := fun i h => cells22_get t i h
  cases ho : oddB t.count with
  | true =>
    obtain ⟨p', hrun, hp⟩ := split_odd (s := seed) S.slabs hl ho
    exact ⟨p', 1, ⟨hrun, by omega, fun _ _ => rfl, fun _ _ => rfl⟩, by omega, by rw [hp]; rfl, by rw [hp]; rfl, fun h => by cases h⟩
  | false =>
    by_cases hd : t.depth < 5
    · cases hx : halvesTS t seed with
      | some x => exact absurd ⟨ho, hd, x, hx⟩ hh
      | none =>
        obtain ⟨p', hrun, hp⟩ := split_bad S.slabs hl hf ho hd hx
        have hn := @nFull16 t
        refine ⟨p', 2 * nFull t + 4, ⟨hrun, by omega, fun _ _ => rfl, fun _ _ => rfl⟩, by omega, by rw [hp]; rfl, by rw [hp]; rfl, fun _ => ⟨270, rfl, ?_⟩⟩
        unfold ifMay
        rw [if_neg (by rw [may_no22 hd hx]; decide)]
    · obtain ⟨p', hrun, hp⟩ := split_deep (s := seed) S.slabs hl hf ho hd
      refine ⟨p', 2, ⟨hrun, by omega, fun _ _ => rfl, fun _ _ => rfl⟩, by omega, by rw [hp]; rfl, by rw [hp]; rfl, fun _ => ?_⟩
      unfold ifMay halvesE
      rw [decide_eq_false hd]
      cases mayT t seed with
      | true => exact ⟨342, rfl, rfl⟩
      | false => exact ⟨270, rfl, rfl⟩
theorem half_yes {t : Tab} {a b : Int} (S : TwoS a b) (seed : BitVec 64) (hf : flatT t = true) (ho : oddB t.count = false) (hd : t.depth < 5) {x : T2} (hx : halvesTS t seed = some x) :
    ∃ l' p', HalfRun t a b seed l' p' (85 + 2 * nFull t) ∧ (p'.ph != 7) = false ∧ (wcells l')[16]? = some (U (t.count + 1#64)) ∧ AtW (wcells l') (16 + 40 * a).toNat (tword x.l) ∧ AtW (wcells l') (16 + 40 * b).toNat (tword x.r) := by
  have hl := fun i h => cells22_get t i h
  have hn := @nFull16 t
  obtain ⟨l', p', hrun, hp, hlen, h16, hpos, hoth⟩ := split_good (s := seed) S.slabs hl (by rw [zbu]; rcases S.h with ⟨rfl, rfl⟩ | ⟨rfl, rfl⟩ <;> decide) (by rw [zbu]; rcases S.h with ⟨rfl, rfl⟩ | ⟨rfl, rfl⟩ <;> decide) hf ho hd hx
  refine ⟨l', p', ⟨hrun, by omega, fun j hj => hoth j (by omega) (fun m hm => by have := S.pos m hm; omega), fun j hj => hoth _ (by omega) (fun m hm => by have := S.pos m hm; omega)⟩, by rw [hp]; rfl, wcells_at _ _ _ h16, fun j hj => ?_, fun j hj => ?_⟩
  · refine wcells_at _ _ _ ?_
    have := hpos j (by omega)
    rw [show posS a b j = (16 + 40 * a).toNat + j by unfold posS; rw [if_pos hj]; rcases S.h with ⟨rfl, rfl⟩ | ⟨rfl, rfl⟩ <;> omega] at this
    rw [this]; unfold wordsS; rw [if_pos hj]
  · refine wcells_at _ _ _ ?_
    have := hpos (40 + j) (by omega)
    rw [show posS a b (40 + j) = (16 + 40 * b).toNat + j by unfold posS; rw [if_neg (by omega)]; rcases S.h with ⟨rfl, rfl⟩ | ⟨rfl, rfl⟩ <;> omega] at this
    rw [this]; unfold wordsS; rw [if_neg (by omega), show 40 + j - 40 = j by omega]
theorem readE_flat {x : Tab} (h : flatT x = true) : readE (tword x) = .ok (normT x) := by
  unfold readE
  rw [if_pos (read_ok h), read_eq h]
section
attribute [local go_sem] loadA loadT2 storeA storeT2 buildA_ts buildA_sm zcm make_func zcl zbt zcw zcg zdd zcr zcn zde zcs t2cells_l t2cells_r
attribute [local go_sem ↓] lrowA lrowT2 srowA srowT2 browA zeroA_run zcz
attribute [local go_sem] zar zbj
attribute [local go_sem] Oper.semAt_some zak
attribute [local go_sem] zci pacell0 pacell1 pacell2 pacell3 pacell4 pacell5 pacell6 pacell7 pacell42
attribute [local go_sem] zcv zdi zdc zcy zcx zdb zdh zda zcf zct part_s6 zdg zco zbl zch zcj boxPart loadPart storePart zce zcq buildPart0 buildPart4
attribute [local go_sem ↓] lrowPart srowPart browPart zck zbs
attribute [local go_sem high] zas
attribute [local irreducible] partC
attribute [local go_sem] box26 zbz cell0 cell1 cell2 cell3 cell4 zcb zca
attribute [local irreducible] tcells t2cells
attribute [local go_sem high] zcu laidAt_t2 laid2i tmod2_64w bit64w bit64zw
attribute [local go_sem] guard26 build_two build2i_21 load2i store2i one2i index2i_0 index2i_1
attribute [local go_sem ↓] eql_tab neq_tab zero2i lrow2i srow2i
theorem two_put (a b : Int) (w : World) : (World.onObj (w.alloc (.cells #[I 0, I 0] 45)) w.heap.size (laidAt 0 #[I a, I b])).heap[w.heap.size]? = some (.cells #[I a, I b] 45 (0, 0)) := by
  rw [zae, if_pos rfl, zab, if_pos rfl, Option.map_some, laid2i]
theorem two_put_ch (a b : Int) (w : World) : Ch [] w (World.onObj (w.alloc (.cells #[I 0, I 0] 45)) w.heap.size (laidAt 0 #[I a, I b])) := ((Ch.refl [] w).alloc _).onObj (.inr (Nat.le_refl _)) _
theorem tabz_put (q : Tab) (w : World) : (World.onObj (w.alloc (.cells (tcells zeroT) 26)) w.heap.size (laidAt 0 (tcells q))).heap[w.heap.size]? = some (.cells (tcells q) 26 (0, 0)) := tab_block22 w zeroT q
theorem tabz_put_ch (q : Tab) (w : World) : Ch [] w (World.onObj (w.alloc (.cells (tcells zeroT) 26)) w.heap.size (laidAt 0 (tcells q))) := tab_ch22 w zeroT q
theorem t2_put (q : T2) (w : World) : (World.onObj (w.alloc (.cells (t2cells zeroT2) 35)) w.heap.size (laidAt 0 (t2cells q))).heap[w.heap.size]? = some (.cells (t2cells q) 35 (0, 0)) := by
  rw [zae, if_pos rfl, zab, if_pos rfl, Option.map_some, laidAt_t2]
theorem t2_put_ch (q : T2) (w : World) : Ch [] w (World.onObj (w.alloc (.cells (t2cells zeroT2) 35)) w.heap.size (laidAt 0 (t2cells q))) := ((Ch.refl [] w).alloc _).onObj (.inr (Nat.le_refl _)) _
end
end Go.Proofs.Hc
