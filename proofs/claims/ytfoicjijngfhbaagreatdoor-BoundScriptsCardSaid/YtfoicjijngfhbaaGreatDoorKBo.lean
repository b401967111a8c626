/- bound's comes: the counting. -/
import Derived.Test.YtfoicjijngfhbaaGreatDoorKBc
import Derived.Test.YtfoicjijngfhbaaGreatDoorKBf
import Derived.Test.YtfoicjijngfhbaaGreatDoorKBk
import Derived.Test.YtfoicjijngfhbaaGreatDoorKBr
import Derived.Test.YtfoicjijngfhbaaGreatDoorKDa
import Derived.Test.YtfoicjijngfhbaaGreatDoorKEf
import Derived.Test.YtfoicjijngfhbaaGreatDoorKEk
import Derived.Test.YtfoicjijngfhbaaGreatDoorKHm
import Derived.Test.YtfoicjijngfhbaaGreatDoorKHr
import Derived.Below
import Derived.BigQuiet
import Derived.Deep.Cut
import Derived.Deep.Draws
import Derived.Deep.QuietTactic
import Derived.Deep.RegionHeld
import Derived.Laws.AppendOwn
import Derived.Laws.CopyRow
import Derived.Laws.EntriesVeiled
import Derived.Laws.Tables
import Derived.Lib.AppendZerosOnto
import Derived.Lib.Hide
import Derived.LoopIn
import Derived.LoopNIn
import Derived.Maps.RangeWalk
import Derived.Maps.Views
import Derived.OwnWalkIn
import Derived.RangeFuncCalls
import Derived.RangeFuncRecord
import Derived.RangeFuncSeq
import Derived.Recover
import Derived.TacticsInMore
import Derived.Test.YtfoicjijngfhbaaGreatDoorProg
import Derived.WalkKit
import Derived.WalkLawsBesides
set_option linter.unusedSimpArgs false
set_option linter.unusedVariables false
namespace Go.Proofs.Hc
open Go.RowKit
set_option linter.unusedVariables false
attribute [local go_sem] wrap_u64 wrap_u8 bits_xor64 bits_and64 bits_or64 bits_not64 bits_xor8 bits_and8 bits_or8 signed64 signed8 ofInt_N BitVec.ofInt_add BitVec.ofInt_mul ofInt_sub' ofInt8_N64 ofInt64_N8 wide8 eqN neN shr_pow shr1 shr7 shr56
attribute [local go_sem high] bits_com64 shl_wrap
attribute [local go_sem] nn2 nm2 nn3 nm3 nn4 nm4 nn5 nm5 nn6 nm6 nn7 nm7 nn8 nm8
attribute [local go_sem] Oper.semAt_some make_func1 make_funcB
attribute [local go_sem] cell_heap ice_heap cellAt_cells iceAt_cells setAt_cells size_setCell rowAt_cells canLay_cells laidAt_cells size_onObj rowRes_some layRes_true
attribute [local go_sem ↓] heap_alloc heap_drew heap_drewN heap_setCell heap_putObj heap_onObj
attribute [local go_sem] loadS box_sc loadC loadP5 box_pl
attribute [local go_sem ↓] lrowS lrowC lrowP5
/-- Does a call bring its key? -/
def CallT.comes (c : CallT) : Bool := c.op == 2 || c.op == 5
def cntL (l : List CallT) (k : BitVec 64) : Int := ((l.filter fun c => c.comes && c.k == k).length : Nat)
theorem cntL_yes (l : List CallT) (c : CallT) (h : c.comes = true) : cntL (l ++ [c]) = fun j => if j = c.k then cntL l c.k + 1 else cntL l j := by
  funext j
  unfold cntL
  rw [List.filter_append]
  by_cases hj : j = c.k
  · subst hj
    simp [h]
  · have : (c.k == j) = false := by simpa using fun e => hj e.symm
    simp [h, this, hj]
theorem cntL_no (l : List CallT) (c : CallT) (h : c.comes = false) : cntL (l ++ [c]) = cntL l := by
  funext j
  unfold cntL
  rw [List.filter_append]
  simp [h]
theorem cntL_le (l : List CallT) (k : BitVec 64) : 0 ≤ cntL l k ∧ cntL l k ≤ l.length := ⟨by unfold cntL; omega, by unfold cntL; exact_mod_cast List.length_filter_le _ _⟩
def zeroCall : Array Value := #[I 0, U 0#64, U 0#64, U 0#64]
theorem srowC (a : Addr) (v : Value) : storeVar 44 a v = storeRow 44 a v := rfl
theorem zeroC (w : World) : (zeroValue 44).run Tryz.prog w = .ok (.agg zeroCall) w := by kernel_rfl
theorem storeC (g o : Nat) (vs : Array Value) (w : World) : (storeRow 44 ⟨g, o, none⟩ (.agg vs)).run Tryz.prog w = layRes Tryz.prog 44 g o vs w (((w.heap[g]?).map (canLay o 4 vs)).getD false) :=
  run_lay (by kernel_rfl) g o vs w
theorem zeroCall_size : zeroCall.size = 4 := rfl
attribute [local go_sem] storeC oneC zeroCall_size
attribute [local go_sem ↓] srowC zeroC
theorem call_put_ch (vs : Array Value) (w : World) : Ch [] w (World.onObj (w.alloc (.cells zeroCall 44)) w.heap.size (laidAt 0 vs)) := ((Ch.refl [] w).alloc _).onObj (.inr (Nat.le_refl _)) _
theorem call_put (a : Int) (b c d : BitVec 64) (w : World) : (World.onObj (w.alloc (.cells zeroCall 44)) w.heap.size (laidAt 0 #[I a, U b, U c, U d])).heap[w.heap.size]? = some (.cells #[I a, U b, U c, U d] 44 (0, 0)) := by
  rw [heap_onObj, if_pos rfl, heap_alloc, if_pos rfl]; rfl
theorem pl_world (s : ScT) (w : World) : ∃ W, (w.alloc (.cells (scC s) 50)).alloc (.map #[] 0) = W ∧ Ch [] w W ∧ W.heap[w.heap.size]? = some (.cells (scC s) 50 (0, 0)) ∧ CntAt W (w.heap.size + 1) 0 fun _ => 0 := by
  refine ⟨_, rfl, ((Ch.refl [] w).alloc _).alloc _, by rw [heap_alloc, if_neg (by simp), heap_alloc, if_pos rfl], ?_⟩
  have := cnt_made (w.alloc (.cells (scC s) 50))
  simpa using this
/-- What slices.Sort makes of a row of its own. -/
def SortC (xs ys : List (BitVec 64)) : Prop := ∀ (v : Value) (w : World) (base : Nat), w.ownsRow base 22 1 v xs.length (xs.map fun k => U k) →
  Calls Tryz.prog 46 #[v] w fun e w' => e = .returned (.tuple #[]) ∧ w'.ownsRow base 22 1 v ys.length (ys.map fun k => U k) ∧ w.grownBy w' v.ownBlock
theorem infoU : (Tryz.prog.info? 22).map (fun i => (i.zero, i.size, i.bytes)) = some (some (.int .u64 0), 1, 8) := by kernel_rfl
theorem ranges_le {w : World} {b r n : Nat} {D : DataW Unit} {left : Lit → Bool} {cnt : Nat} (h : w.ranges Tryz.prog 22 mapR b r n D left cnt) : cnt ≤ n := by
  obtain ⟨es, clock, since, seen, c0, hb, F, hs, hD, hr, hold, hc, _⟩ := h
  rw [← hc]
  refine Nat.le_trans ?_ hs
  exact Array.size_filter_le ..
theorem u64_is {x : Int} (h : (Lit.int .u64 x).wf = true) : ∃ k : BitVec 64, x = N k := by
  have h2 : (IntKind.u64.max : Int) = 18446744073709551615 := by decide
  have h3 : (IntKind.u64.min : Int) = 0 := by decide
  simp [Lit.wf, h2, h3] at h
  refine ⟨BitVec.ofInt 64 x, ?_⟩
  unfold N
  rw [BitVec.toNat_ofInt]
  omega
theorem own_keep {w w' : World} {base n size : Nat} {e : TypeId} {v : Value} {xs : List Value} {S : List Nat} (h : w.ownsRow base e size v n xs) (c : Ch S w w') (hS : ∀ s ∈ S, s < base) : w'.ownsRow base e size v n xs := by
  obtain ⟨h1, h | ⟨q, cap, cur, hv, hbq, hq, hr⟩⟩ := h
  · exact ⟨h1, .inl h⟩
  · exact ⟨h1, .inr ⟨q, cap, cur, hv, hbq, (c.block q (Array.getElem?_eq_some_iff.1 hq).1 (fun hs => by have := hS q hs; omega)).trans hq, hr⟩⟩
/-- append of one word, from its block. -/
theorem append_word (W : World) (base : Nat) (v : Value) (xs : List (BitVec 64)) (hown : W.ownsRow base 22 1 v xs.length (xs.map fun k => U k)) (k : BitVec 64) (hx : xs.length ≤ 1000000) (hbase : base ≤ W.heap.size) :
    ∃ v' w', (Builtin.append_ #[24, 24] 24 #[v, .slice (some ⟨W.heap.size, 0, none⟩) 1 1]).run Tryz.prog (W.alloc (.cells #[U k] 22)) = .ok v' w' ∧ w'.ownsRow base 22 1 v' (xs ++ [k]).length ((xs ++ [k]).map fun k => U k) ∧ Ch (match v.ownBlock with | some b => [b] | none => []) W w' := by
  obtain ⟨i0, hi, hz0, hz1, hz2⟩ := info_parts infoU
  have hc : (W.alloc (.cells #[U k] 22)).cell? ⟨W.heap.size, 0, none⟩ = some (U k) := by
    unfold World.cell?
    rw [show (W.alloc (.cells #[U k] 22)).heap[(⟨W.heap.size, 0, none⟩ : Addr).block]? = some (.cells #[U k] 22 (0, 0)) from heap_alloc_new W _]
    rfl
  obtain ⟨v', w', hrun, ho, hg, _⟩ := run_append_own (P := Tryz.prog) (W.alloc (.cells #[U k] 22)) base 24 24 22 i0 _ 1 8 Tryz.underlying24 hi hz0 hz1 hz2 rfl (by decide) v xs.length _ (own_keep hown ((Ch.refl [] W).alloc _) (by simp)) ⟨W.heap.size, 0, none⟩ 1 1 [U k] rfl
    (fun j u hj => by
      match j with
      | 0 => rw [Addr.add_lit]; simp at hj; rw [← hj]; exact hc
      | j + 1 => simp at hj) (by intro u hu; rw [List.mem_singleton.1 hu]; rfl) (by unfold maxLen; omega) (by omega) (by simp; omega)
  refine ⟨v', w', hrun, ?_, ?_⟩
  · rw [List.length_append, List.map_append]; exact ho
  · have h : Ch (match v.ownBlock with | some b => [b] | none => []) (W.alloc (.cells #[U k] 22)) w' := Ch.of_grown hg (fun k hk => by rw [hk]; simp)
    exact ((Ch.refl _ W).alloc _).trans h
theorem own_blk {w : World} {base n size : Nat} {e : TypeId} {v : Value} {xs : List Value} (h : w.ownsRow base e size v n xs) : ∀ b ∈ (match v.ownBlock with | some b => [b] | none => []), base ≤ b := by
  intro b hb
  obtain ⟨_, ⟨rfl, h0⟩ | ⟨g, cap, cur, hv, hbg, _⟩⟩ := h
  · cases hb
  · rw [hv] at hb
    simp [Value.ownBlock] at hb
    omega
theorem ranges_ch {w w' : World} {b r n : Nat} {D : DataW Unit} {left : Lit → Bool} {cnt : Nat} {S : List Nat} (h : w.ranges Tryz.prog 22 mapR b r n D left cnt) (c : Ch S w w') (hb : b ∉ S) (hr : r ∉ S) : w'.ranges Tryz.prog 22 mapR b r n D left cnt := by
  have h1 := h.owns.lt
  have h2 := h.lt
  obtain ⟨es, clock, since, seen, c0, hb', F, hs, hD, hr', rest⟩ := h
  exact ⟨es, clock, since, seen, c0, (c.block b h1 hb).trans hb', F, hs, hD, (c.block r h2 hr).trans hr', rest⟩
theorem atKey_absent {D : DataW Unit} (hm : Go.Maps.IsMap D) {k : Lit} (h : Maps.has D k = false) (z : DataW Unit) : D.atKey k z = z := by
  obtain ⟨es, rfl⟩ := hm
  have h1 : es.any (fun p => p.1.sameKey k) = false := h
  have hn : es.find? (fun p => p.1.sameKey k) = none := List.find?_eq_none.2 (fun x hx => by
    have := List.any_eq_false.1 h1 x hx
    simpa using this)
  simp [DataW.atKey, hn]
theorem own_low {w : World} {base b0 n size : Nat} {e : TypeId} {v : Value} {xs : List Value} (h : w.ownsRow base e size v n xs) (hb : b0 ≤ base) : w.ownsRow b0 e size v n xs := by
  obtain ⟨h1, h | ⟨q, cap, cur, hv, hbq, hr⟩⟩ := h
  · exact ⟨h1, .inl h⟩
  · exact ⟨h1, .inr ⟨q, cap, cur, hv, Nat.le_trans hb hbq, hr⟩⟩
set_option maxHeartbeats 1000000 in
set_option maxRecDepth 100000 in
theorem comes_any (s : ScT) (w : World) (R : RightSc w s) (ys : List (BitVec 64)) (hS : ∀ xs : List (BitVec 64), xs.Nodup → (∀ k, k ∈ xs ↔ cntL (catL s.ls) k ≠ 0) → SortC xs ys) :
    Calls Tryz.prog 26 #[.agg (scC s)] w fun e w' => ∃ v, e = .returned v ∧ w'.ownsRow w.heap.size 22 1 v ys.length (ys.map fun k => U k) ∧ Ch [] w w' := by
  obtain ⟨W, hW, C, hB, hM⟩ := pl_world s w
  obtain ⟨L, o, hla, hls⟩ := R.at_
  have hc64 := R.calls
  have hl8 : s.ls.length ≤ 8 := by have := R.len; have := R.g8; omega
  clear R
  have HLS := Lib.hid hls
  clear hls
  have HS := Lib.hid hS
  clear hS
  obtain ⟨g, sl, sd, la, lc, ls, pa, pn', pc⟩ := s
  dsimp only at *
  subst hla
  unfold scC at hB hW ⊢
  dsimp only [adr] at hB hW ⊢
  obtain ⟨n, hn⟩ : ∃ n, ls.length = n := ⟨_, rfl⟩
  rw [hn] at hB hW hl8 ⊢
  obtain ⟨B, hBe⟩ : ∃ B, w.heap.size = B := ⟨_, rfl⟩
  rw [hBe] at hB hM
  have hBl : w.heap.size ≤ B := by omega
  obtain ⟨M, hMe⟩ : ∃ M, B + 1 = M := ⟨_, rfl⟩
  rw [hMe] at hM
  have hMl : w.heap.size ≤ M := by omega
  have HN := Lib.hid hn
  clear hn
  have hmm := @run_makeMap Tryz.prog
  go_enter Tryz.func26, Tryz.ntmps26
  go_upto_region 2 with (fail)
  try rw [hW]
  try rw [hBe]
  try rw [hMe]
  clear hW hBe hMe
  go_wp2_with fail
  go_loopw [15] (fun i wr => ∃ j : Nat, i = I j ∧ j ≤ n ∧ CntAt wr M (catL (ls.take j)).length (cntL (catL (ls.take j))) ∧ Ch [] w wr) (fun i _ => n - (intOf i).toNat)
  case atStart => exact ⟨0, rfl, by omega, hM, C⟩
  case round =>
    obtain ⟨j, hi, hj, hcnt, c1⟩ := hrel
    subst hi
    clear hM C hB
    rcases (show j = n ∨ j < n by omega) with rfl | hlt
    · rw [List.take_of_length_le (by have := HN.out; omega)] at hcnt
      obtain ⟨D, ho, hf⟩ := hcnt
      obtain ⟨m, hm⟩ : ∃ m, (catL ls).length = m := ⟨_, rfl⟩
      rw [hm] at ho hc64
      have hMr : M < wr.heap.size := ho.lt
      go_wp2_with (first
        | (at_range; refine wpList_range_own _ rfl _ 61 rfl 22 3 keyLawB Tryz.underlying61 mapR M m D rfl ho ?_; intro w0 hrg0 hg0 hs0)
        | go_in)
      go_frame
      have C0 : Ch [] w w0 := c1.trans (Ch.of_grown hg0 (fun _ h => by cases h))
      obtain ⟨r, hr⟩ : ∃ r, wr.heap.size = r := ⟨_, rfl⟩
      rw [hr] at hrg0 hs0 hMr ⊢
      have hrw : w.heap.size ≤ r := by have := c1.size; omega
      have HIM := Lib.hid (show Go.Maps.IsMap D from ⟨_, ho.choose_spec.choose_spec.2.2.2⟩)
      clear c1 hg0 ho hr
      have HF := Lib.hid hf
      have hst : ∀ k : BitVec 64, k ∈ ([] : List (BitVec 64)) ↔ (cntL (catL ls) k ≠ 0 ∧ Maps.has D (.int .u64 (N k)) = false) := fun k => by
        rw [(hf k).2]
        simp
      clear hf
      go_loopw [8] (fun v wr => ∃ (left : Lit → Bool) (cnt : Nat) (xs : List (BitVec 64)), wr.ranges Tryz.prog 22 mapR M r m D left cnt ∧ wr.ownsRow (r + 1) 22 1 v xs.length (xs.map fun k => U k) ∧ xs.Nodup ∧ (∀ k : BitVec 64, k ∈ xs ↔ (cntL (catL ls) k ≠ 0 ∧ left (.int .u64 (N k)) = false)) ∧ xs.length + cnt ≤ m ∧ Ch [] w wr ∧ r + 1 ≤ wr.heap.size) (fun _ wr => wr.rangeLeft M r)
      case atStart => exact ⟨Maps.has D, Maps.size D, [], hrg0, World.ownsRow_nil _ _ _ _, List.nodup_nil, hst, by have := ranges_le hrg0; simpa using this, C0, by omega⟩
      case round =>
        obtain ⟨left, cnt, xs, hrg, hown, hnd, hmem, hxl, c2, hsz⟩ := hrel
        obtain ⟨a, c, rfl⟩ := own_val hown
        clear hrg0 hs0 C0 hst
        go_wp2_with (first
          | (at_next; refine wpList_next_ranges_ii _ rfl _ rfl 22 3 .u64 .i64 keyLawB Tryz.underlying22 Tryz.underlying3 M r m _ _ _ rfl hrg ?_ ?_)
          | go_in)
        · intro hc0 hl0
          have hSC := HS.out xs hnd (fun k => by rw [hmem k, hl0]; simp)
          have S1 := fun w' h => hSC (.slice a xs.length c) w' (r + 1) h
          clear hmem hnd hrg hc0 hl0 hxl hSC
          go_wp2_with fail
          refine (S1 _ hown).mono ?_
          rintro e w3 ⟨rfl, hown3, hg3⟩
          have hblk := own_blk hown
          have C3 : Ch [] w w3 := c2.trans2 (Ch.of_grown hg3 (S := match (Value.slice a xs.length c).ownBlock with | some b => [b] | none => []) (fun k hk => by rw [hk]; simp)) (fun t ht => .inr (by have := hblk t ht; omega))
          have hown4 := own_low hown3 (show w.heap.size ≤ r + 1 by omega)
          clear S1 hown hg3 hblk c2 hown3
          go_wp2
          go_ret
          exact ⟨_, rfl, hown4, C3⟩
        · intro x cc w1 cnt1 hwx hwc hlx hat hrg1 hlt1 hg1 hs1 hen
          obtain ⟨k, rfl⟩ := u64_is hwx
          have C1 : Ch [r] wr w1 := Ch.of_grown hg1 (fun b hb => by simpa using hb.symm)
          have hown1 := own_keep hown C1 (by simp)
          have hsz1 : r + 1 ≤ w1.heap.size := by have := C1.size; omega
          obtain ⟨v', w2, hrun, hown2, hc2⟩ := append_word w1 (r + 1) _ xs hown1 k (by omega) hsz1
          have hblk := own_blk hown1
          have hrg2 := ranges_ch hrg1 hc2 (fun h => by have := hblk _ h; omega) (fun h => by have := hblk _ h; omega)
          have hnew : k ∉ xs := fun h => by have := ((hmem k).1 h).2; rw [this] at hlx; cases hlx
          have hf0 : cntL (catL ls) k ≠ 0 := by
            intro h0
            have h3 := (HF.out k).2
            rw [decide_eq_false (fun h => h h0)] at h3
            have h4 := atKey_absent HIM.out h3 (.lit (.bool true))
            rw [hat] at h4
            cases h4
          have C2 : Ch [] w w2 := (c2.trans2 C1 (fun t ht => .inr (by rw [List.mem_singleton.1 ht]; exact hrw))).trans2 hc2 (fun t ht => .inr (by have := hblk t ht; omega))
          have hsz2 : r + 1 ≤ w2.heap.size := by have := hc2.size; omega
          have hnd2 : (xs ++ [k]).Nodup := by
            rw [List.nodup_append]
            exact ⟨hnd, (by simp), fun a ha b hb => by rw [List.mem_singleton.1 hb]; exact fun e => hnew (e ▸ ha)⟩
          have hmem2 : ∀ k' : BitVec 64, k' ∈ xs ++ [k] ↔ (cntL (catL ls) k' ≠ 0 ∧ (left (.int .u64 (N k')) && !(Lit.int .u64 (N k')).sameKey (.int .u64 (N k))) = false) := fun k' => by
            rw [List.mem_append, List.mem_singleton]
            by_cases hk : k' = k
            · rw [hk, Go.WideAt.sameKey_self (Go.Maps.Keyed.key keyLawB (Go.Maps.keyOf_int_mk Tryz.underlying22 (wf_u64B k)))]
              simp [hf0]
            · have hne : Lit.int .u64 (N k') ≠ Lit.int .u64 (N k) := fun e => hk ((N_inj _ _).1 (by simpa using e))
              rw [Go.Maps.sameKey_ne hne, hmem k']
              simp [hk]
          have hlen : (xs ++ [k]).length + cnt1 ≤ m := by rw [List.length_append, List.length_singleton]; omega
          have HH := Lib.hid (And.intro hrg2 (And.intro hown2 (And.intro hnd2 (And.intro hmem2 (And.intro hlen (And.intro C2 hsz2))))))
          have HLT := Lib.hid (And.intro hrg2.left_eq (And.intro hrg.left_eq hlt1))
          clear hrg2 hown2 hnd2 hmem2 hlen C2 hsz2 hrg hrg1 hown hown1 hnd hmem hxl c2 hsz hlx hat hlt1 hg1 hs1 C1 hsz1 hc2 hblk hnew hf0 hwx hwc
          go_wp2_with (first
            | (at_builtin; refine Lib.wpList_append_run _ rfl _ _ 24 24 rfl _ _ rfl rfl _ _ hrun ?_)
            | go_in)
          go_roundw
          case rel => exact ⟨_, cnt1, xs ++ [k], HH.out⟩
          case measure => rw [HLT.out.1, HLT.out.2.1]; exact HLT.out.2.2
    · obtain ⟨s, hs⟩ : ∃ s, ls[j]? = some s := ⟨_, List.getElem?_eq_getElem (by have := HN.out; omega)⟩
      have hLr := And.intro ((HLS.out.ch c1) j s hs).1 (HLS.out j s hs).2
      have hcl := catL_take_le ls (j + 1)
      have E1 : catL (ls.take (j + 1)) = catL (ls.take j) ++ s.l := by rw [take_snoc hs, catL_snoc]
      rw [E1, List.length_append] at hcl
      obtain ⟨q0, hq0⟩ : ∃ q, catL (ls.take j) = q := ⟨_, rfl⟩
      rw [hq0] at hcnt E1 hcl
      obtain ⟨sa, sc, sl'⟩ := s
      dsimp only [ListT.val] at hLr hcl E1
      obtain ⟨hcell, hrow⟩ := hLr
      rw [cell_heap] at hcell
      obtain ⟨m, hm⟩ : ∃ m, sl'.length = m := ⟨_, rfl⟩
      rw [hm] at hcell hcl
      have HE := Lib.hid E1
      have hjn : (j : Int) < n := by omega
      clear hs hq0 E1
      rcases hrow with hl0 | ⟨xb, xo, hsa, hrow⟩
      · try dsimp only at hl0
        subst hl0
        have hm0 : m = 0 := hm.symm
        subst hm0
        rw [List.append_nil] at HE
        have HCN := Lib.hid hcnt
        have HC1 := Lib.hid c1
        clear hcnt c1 hm
        go_wp2
        refine wp_loop_rounds 1 ?_
        rw [rounds_succ]
        go_wp2
        go_roundw
        case rel => exact ⟨j + 1, by go_num, by omega, by rw [HE.out]; exact HCN.out, HC1.out⟩
        case measure => simp [intOf]; omega
      · try dsimp only at hsa
        subst hsa
        have HRW := Lib.hid (fun wr2 (c : Ch [] w wr2) q c' hq => row_in (w := wr2) (b := xb) (o := xo) (i := q) (c := c') (RowIn.ch hrow c) hq)
        obtain ⟨W1, hW1⟩ : ∃ W, wr = W := ⟨_, rfl⟩
        rw [hW1] at hcnt c1 hcell ⊢
        clear hrow hW1
        go_wp2
        clear hcell
        go_loopw [21] (fun i wr => ∃ q : Nat, i = I q ∧ q ≤ m ∧ CntAt wr M (q0.length + q) (cntL (q0 ++ sl'.take q)) ∧ Ch [] w wr) (fun i _ => m - (intOf i).toNat)
        case atStart => exact ⟨0, rfl, by omega, by rw [List.take_zero, List.append_nil]; exact hcnt, c1⟩
        case round =>
          obtain ⟨q, hi, hq, hcn, c2⟩ := hrel
          subst hi
          clear hcnt c1
          rcases (show q = m ∨ q < m by omega) with rfl | hlt2
          · have e : sl'.take q = sl' := List.take_of_length_le (by omega)
            rw [e] at hcn
            have HCN := Lib.hid hcn
            have HC2 := Lib.hid c2
            have hm' := Lib.hid hm
            clear hcn c2 hm e
            go_wp2
            go_roundw
            case rel => exact ⟨j + 1, by go_num, by omega, by rw [HE.out, List.length_append, hm'.out]; exact HCN.out, HC2.out⟩
            case measure => simp [intOf]; omega
          · obtain ⟨c, hc⟩ : ∃ c, sl'[q]? = some c := ⟨_, List.getElem?_eq_getElem (by omega)⟩
            have hr4 := HRW.out wr c2 q c hc
            have HC := Lib.hid hc
            have hqm : (q : Int) < m := by omega
            have one := oneC c.op c.k c.x c.y
            have HM2 := Lib.hid hm
            have HCN := Lib.hid hcn
            have HC2 := Lib.hid c2
            clear hc hm hcn c2
            go_upto_region 8 with (fail)
            have hcz := call_put_ch #[I c.op, U c.k, U c.x, U c.y] wr
            have hV := call_put c.op c.k c.x c.y wr
            have hcn3 := cnt_ch HCN.out hcz (by simp)
            have C3 := HC2.out.trans hcz
            have hMV : M < wr.heap.size := cnt_lt HCN.out
            obtain ⟨w3, hw3⟩ : ∃ W, World.onObj (wr.alloc (.cells zeroCall 44)) wr.heap.size (laidAt 0 #[I c.op, U c.k, U c.x, U c.y]) = W := ⟨_, rfl⟩
            rw [hw3] at hV hcn3 C3 ⊢
            obtain ⟨V, hVe⟩ : ∃ b, wr.heap.size = b := ⟨_, rfl⟩
            rw [hVe] at hV hMV ⊢
            have E2 := Lib.hid (show q0 ++ sl'.take (q + 1) = (q0 ++ sl'.take q) ++ [c] by rw [take_snoc HC.out, List.append_assoc])
            have hle := (cntL_le (q0 ++ sl'.take q) c.k).2
            rw [List.length_append, List.length_take] at hle
            have hge := (cntL_le (q0 ++ sl'.take q) c.k).1
            obtain ⟨LL, hLL⟩ : ∃ l, q0 ++ sl'.take q = l := ⟨_, rfl⟩
            rw [hLL] at hcn3 hle hge E2
            clear hw3 hVe hcz hr4 one hLL HC
            by_cases hcm : c.comes = true
            · have hlk := cnt_look hcn3 c.k
              obtain ⟨v, hv⟩ : ∃ v, cntL LL c.k = v := ⟨_, rfl⟩
              have hv0 : 0 ≤ v := by omega
              have hv1 : v ≤ 64 := by omega
              obtain ⟨w4, hu, hcn4, hc4, hz4⟩ := cnt_put hcn3 (by omega) c.k (v + 1) (by omega) (by
                have h2 : (IntKind.i64.max : Int) = 9223372036854775807 := by decide
                have h3 : (IntKind.i64.min : Int) = -9223372036854775808 := by decide
                simp [Lit.wf, h2, h3]; omega)
              have C4 := Lib.hid (C3.trans2 hc4 (fun t ht => .inr (by rw [List.mem_singleton.1 ht]; exact hMl)))
              have hcn4' := Lib.hid (show CntAt w4 M (q0.length + (q + 1)) (cntL (q0 ++ sl'.take (q + 1))) by
                rw [E2.out, cntL_yes _ _ hcm, hv]; exact hcn4)
              rw [hv] at hlk
              have hop : c.op = 2 ∨ c.op ≠ 2 ∧ c.op = 5 := by
                unfold CallT.comes at hcm
                rw [Bool.or_eq_true, beq_iff_eq, beq_iff_eq] at hcm
                omega
              clear hcn3 C3 hcn4 hc4 hz4 hle hge hcm hv HCN HC2 E2 hMV
              obtain ⟨cop, ck, cx, cy⟩ := c
              dsimp only at *
              rcases hop with hop | ⟨hn2, hop⟩
              · subst hop
                go_wp2
                go_roundw
                case rel => exact ⟨q + 1, by go_num, by omega, hcn4'.out, C4.out⟩
                case measure => simp [intOf]; omega
              · subst hop
                go_wp2
                go_roundw
                case rel => exact ⟨q + 1, by go_num, by omega, hcn4'.out, C4.out⟩
                case measure => simp [intOf]; omega
            · have hcf : c.comes = false := by simpa using hcm
              have C4 := Lib.hid C3
              have hcn4' := Lib.hid (show CntAt w3 M (q0.length + (q + 1)) (cntL (q0 ++ sl'.take (q + 1))) by
                rw [E2.out, cntL_no _ _ hcf]; exact cnt_mono hcn3 (by omega))
              have hop : c.op ≠ 2 ∧ c.op ≠ 5 := by
                unfold CallT.comes at hcf
                rw [Bool.or_eq_false_iff, beq_eq_false_iff_ne, beq_eq_false_iff_ne] at hcf
                exact hcf
              clear hcn3 C3 hle hge hcm hcf HCN HC2 E2 hMV
              obtain ⟨cop, ck, cx, cy⟩ := c
              dsimp only at *
              obtain ⟨hn2, hn5⟩ := hop
              have hb2 : (cop == 2) = false := beq_eq_false_iff_ne.2 hn2
              have hb5 : (cop == 5) = false := beq_eq_false_iff_ne.2 hn5
              go_wp2
              go_roundw
              case rel => exact ⟨q + 1, by go_num, by omega, hcn4'.out, C4.out⟩
              case measure => simp [intOf]; omega
end Go.Proofs.Hc
