/- slices.IndexFunc, slices.DeleteFunc at rows of pairs, by the statement's own test. -/
import Derived.Test.YtaddieimkpijeaaGreatKHcl
set_option linter.unusedSimpArgs false
set_option linter.unusedVariables false
namespace Go.Proofs.Hc
open Go.RowKit
attribute [local go_sem] wrap_u64 wrap_u8 bits_xor64 bits_and64 bits_or64 bits_not64 bits_xor8 bits_and8 bits_or8 signed64 signed8 ofInt_N BitVec.ofInt_add BitVec.ofInt_mul ofInt_sub' ofInt8_N64 ofInt64_N8 wide8 eqN neN shr_pow shr1 shr7 shr56
attribute [local go_sem high] bits_com64 shl_wrap
attribute [local go_sem] cell_heap ice_heap cellAt_cells iceAt_cells setAt_cells rowAt_cells canLay_cells laidAt_cells size_onObj size_setCell rowRes_some layRes_true
attribute [local go_sem] load26 load73 load23 store26 build73
attribute [local go_sem ↓] lrow26 lrow73 lrow23 srow26 zero26 brow73 heap_alloc heap_drew heap_drewN heap_setCell heap_onObj
attribute [local go_sem] tcells_size hcells_size tcells_get hcells_get tcells_one hcells_one hcells_table tcells_table hcells_all hcells_ctrl tcells_ctrl
attribute [local go_sem] nn2 nm2 nn3 nm3 nn4 nm4 nn5 nm5 nn6 nm6 nn7 nm7 nn8 nm8
attribute [local go_sem] nn2 nm2 nn3 nm3 nn4 nm4 nn5 nm5 nn6 nm6 nn7 nm7 nn8 nm8
attribute [local go_sem] Oper.semAt_some make_func1
attribute [local go_sem] loadP storeP allOne_pair
attribute [local go_sem high] laidAt_p
attribute [local go_sem ↓] lrowP srowP zeroP
theorem box_pair (x y : BitVec 64) (w : World) : (Instr.box 31 (.agg #[U x, U y])).run Tryz.prog w = .ok (.pointer (some ⟨w.heap.size, 0, none⟩)) (w.alloc (.cells #[U x, U y] 31)) := rfl
attribute [local go_sem] box_pair
set_option maxRecDepth 100000 in
theorem keeps1_any (x p : BitVec 64 × BitVec 64) (pb : Nat) (w : World) (hp : w.heap[pb]? = some (.cells #[U p.1, U p.2] 31 (0, 0))) :
    Calls Tryz.prog 37 #[.agg #[U x.1, U x.2], .pointer (some ⟨pb, 0, none⟩)] w fun e w' => e = .returned (.bool (x.1 == p.1)) ∧ Ch [] w w' := by
  have hne : ¬ pb = w.heap.size := by have := (Array.getElem?_eq_some_iff.1 hp).1; omega
  go_enter Tryz.func37, Tryz.ntmps37
  go_wp2
  go_ret
  exact ⟨rfl, (Ch.refl [] w).alloc _⟩
/-- The place of the first pair of a row that has a key, or minus one. -/
def IdxF (w : World) (l : List (BitVec 64 × BitVec 64)) (k : BitVec 64) (e : Ending) (w' : World) : Prop :=
  ∃ n : Int, e = .returned (I n) ∧ Ch [] w w' ∧ (n = -1 ∧ (∀ q ∈ l, q.1 ≠ k) ∨ ∃ (j : Nat) (q : BitVec 64 × BitVec 64), n = j ∧ l[j]? = some q ∧ q.1 = k ∧ ∀ q ∈ l.take j, q.1 ≠ k)
set_option maxHeartbeats 1000000 in
set_option maxRecDepth 100000 in
theorem indexF_any (l : List (BitVec 64 × BitVec 64)) (p : BitVec 64 × BitVec 64) (pb : Nat) (a : Option Addr) (c : Nat) (cur : Array Value) (w : World) (hl : l.length ≤ 900000)
    (hpa : PairsAt cur l) (ha : 0 < l.length → ∃ r, a = some ⟨r, 0, none⟩) (hr : ∀ r, a = some ⟨r, 0, none⟩ → w.heap[r]? = some (.cells cur 31 (0, 0))) (hp : w.heap[pb]? = some (.cells #[U p.1, U p.2] 31 (0, 0))) :
    Calls Tryz.prog 76 #[.slice a l.length c, .func (.func 37) #[] #[.pointer (some ⟨pb, 0, none⟩)]] w (IdxF w l p.1) := by
  have HP := Lib.hid hpa
  have HA := Lib.hid ha
  have HR := Lib.hid hr
  have F1 := fun (q : BitVec 64 × BitVec 64) (W : World) (h : Ch [] w W) => keeps1_any q p pb W (hkeep h hp)
  clear hpa ha hr hp
  go_enter Tryz.func76, Tryz.ntmps76
  go_wp2
  go_loopw [8] (fun i wr => ∃ j : Nat, i = .int .i64 j ∧ j ≤ l.length ∧ (∀ q ∈ l.take j, q.1 ≠ p.1) ∧ Ch [] w wr) (fun i _ => l.length - (intOf i).toNat)
  case atStart => exact ⟨0, rfl, Nat.zero_le _, by simp, Ch.refl _ _⟩
  case round =>
    obtain ⟨j, hj, hjl, hno, hcr⟩ := hrel
    subst hj
    rcases Nat.lt_or_ge j l.length with hlt | hge
    · obtain ⟨r, hra⟩ := HA.out (by omega)
      obtain ⟨q, hqm, -⟩ := drop_one hlt
      have hrow' : rowAt (j * 2) 2 (.cells cur 31 (0, 0)) = some #[U q.1, U q.2] := by rw [Nat.mul_comm]; exact HP.out j q hqm
      subst hra
      have hrr : wr.heap[r]? = some (.cells cur 31 (0, 0)) := hkeep hcr (HR.out r rfl)
      have hdec : decide (j < l.length) = true := by simpa using hlt
      have F2 := F1 q wr hcr
      have HNO := Lib.hid hno
      have HQ := Lib.hid hqm
      clear hno hqm F1
      cases hq : (q.1 == p.1)
      all_goals
        have HE := Lib.hid hq
        rw [hq] at F2
        clear hq
        go_wp2_with (go_at_call 37; refine F2.mono ?_; rintro e wg ⟨rfl, hcg⟩)
      · have hne : q.1 ≠ p.1 := by have := HE.out; simpa using this
        go_roundw
        case rel => exact ⟨j + 1, by go_num, hlt, take_nextG (P := fun q => q.1 ≠ p.1) HNO.out HQ.out hne, hcr.trans hcg⟩
        case measure => simp [intOf]; omega
      · have heq : q.1 = p.1 := by have := HE.out; simpa using this
        go_ret
        exact ⟨j, rfl, hcr.trans hcg, .inr ⟨j, q, rfl, HQ.out, heq, HNO.out⟩⟩
    · have hme : j = l.length := Nat.le_antisymm hjl hge
      have hdec : decide (j < l.length) = false := by simpa using hge
      have hno' : ∀ q ∈ l, q.1 ≠ p.1 := by rw [hme, List.take_length] at hno; exact hno
      have HN := Lib.hid hno'
      clear hno hme hge hno'
      go_wp2
      go_ret
      exact ⟨-1, rfl, hcr, .inl ⟨rfl, HN.out⟩⟩
end Go.Proofs.Hc
