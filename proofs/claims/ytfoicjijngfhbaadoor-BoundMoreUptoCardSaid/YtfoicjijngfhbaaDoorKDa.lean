/- A row of words as an array; cmp.Less. -/
import Derived.Test.YtfoicjijngfhbaaDoorKBaBb
import Derived.Sort.Defs
import Derived.Deep.RegionHeld
import Derived.Deep.Cut
set_option linter.unusedSimpArgs false
set_option linter.unusedVariables false
namespace Go.Proofs.Hc
open Go.RowKit
set_option linter.unusedVariables false
set_option linter.unusedSimpArgs false
attribute [local go_sem] wrap_u64 wrap_u8 bits_xor64 bits_and64 bits_or64 bits_not64 bits_xor8 bits_and8 bits_or8 signed64 signed8 ofInt_N BitVec.ofInt_add BitVec.ofInt_mul ofInt_sub' ofInt8_N64 ofInt64_N8 wide8 eqN neN shr_pow shr1 shr7 shr56
attribute [local go_sem high] bits_com64 shl_wrap
attribute [local go_sem] nn2 nm2 nn3 nm3 nn4 nm4 nn5 nm5 nn6 nm6 nn7 nm7 nn8 nm8
attribute [local go_sem] Oper.semAt_some make_func1
/-- Less at words. -/
def ltW (x y : BitVec 64) : Bool := decide (N x < N y)
theorem isnan_any (x : BitVec 64) (w : World) : Calls Tryd.prog 85 #[U x] w fun e w' => e = .returned (.bool false) ∧ w = w' := by
  have hx : (N x != N x) = false := by simp
  go_enter Tryd.func85, Tryd.ntmps85
  go_wp2
  go_ret
  exact ⟨rfl, rfl⟩
theorem less_any (x y : BitVec 64) (w : World) : Calls Tryd.prog 70 #[U x, U y] w fun e w' => e = .returned (.bool (ltW x y)) ∧ w = w' := by
  go_enter Tryd.func70, Tryd.ntmps70
  go_wp2_with (go_at_call 85; refine (isnan_any _ _).mono ?_; rintro e w' ⟨rfl, rfl⟩)
  go_ret
  exact ⟨rfl, rfl⟩
/-- The cells of a row that begins with the words of d. -/
def dcells (d : Array (BitVec 64)) (z : Array Value) : Array Value := (d.map fun x => U x) ++ z
theorem dcells_get (d : Array (BitVec 64)) (z : Array Value) (i : Nat) (h : i < d.size) : (dcells d z)[i]? = some (U d[i]!) := by
  unfold dcells
  rw [Array.getElem?_append_left (by simpa using h), Array.getElem?_map, Array.getElem?_eq_getElem h]
  simp [h]
theorem dcells_set (d : Array (BitVec 64)) (z : Array Value) (i : Nat) (x : BitVec 64) (h : i < d.size) : (dcells d z).setIfInBounds i (U x) = dcells (d.setIfInBounds i x) z := by
  unfold dcells
  apply Array.ext_getElem?
  intro j
  by_cases hj : j = i
  · subst hj
    rw [Array.getElem?_setIfInBounds_self_of_lt (by simp; omega), Array.getElem?_append_left (by simpa using h), Array.getElem?_map, Array.getElem?_setIfInBounds_self_of_lt h]
    rfl
  · rw [Array.getElem?_setIfInBounds_ne (fun e => hj e.symm)]
    by_cases hd : j < d.size
    · rw [Array.getElem?_append_left (by simpa using hd), Array.getElem?_append_left (by simpa using hd), Array.getElem?_map, Array.getElem?_map, Array.getElem?_setIfInBounds_ne (fun e => hj e.symm)]
    · rw [Array.getElem?_append_right (by simp; omega), Array.getElem?_append_right (by simp; omega)]
      simp
/-- Block q holds the words of d, then z. -/
def RowW (w : World) (q : Nat) (d : Array (BitVec 64)) (z : Array Value) : Prop := w.heap[q]? = some (.cells (dcells d z) 32 (0, 0))
theorem RowW.swap {w : World} {q : Nat} {d : Array (BitVec 64)} {z : Array Value} (h : RowW w q d z) (i j : Nat) (hi : i < d.size) (hj : j < d.size) : RowW ((w.setCell ⟨q, i, none⟩ (U d[j]!)).setCell ⟨q, j, none⟩ (U d[i]!)) q (Go.Sort.swp d i j) z := by
  unfold RowW at *
  rw [heap_setCell, if_pos rfl, heap_setCell, if_pos rfl, h, Option.map_some, Option.map_some, setAt_cells, setAt_cells, dcells_set d z i _ hi, dcells_set _ z j _ (by simpa using hj)]
  rfl
theorem swp_ch (w : World) (q i j : Nat) (u v : Value) : Ch [q] w ((w.setCell ⟨q, i, none⟩ u).setCell ⟨q, j, none⟩ v) := ((Ch.refl [q] w).setCell (.inl (by simp)) _).setCell (.inl (by simp)) _
end Go.Proofs.Hc
