/- Package ctrl: a lane that is put, filled, erased; the sets of a word. -/
import Derived.Test.YtaddieimkpijeaaGreatKHd
import Derived.WalkMore
import Derived.WalkSpells
set_option linter.unusedSimpArgs false
set_option linter.unusedVariables false
namespace Go.Proofs.Hc
open Go.RowKit
attribute [local go_sem] wrap_u64 wrap_u8 bits_xor64 bits_and64 bits_or64 bits_not64 bits_xor8 bits_and8 bits_or8 signed64 signed8 ofInt_N BitVec.ofInt_add BitVec.ofInt_mul ofInt_sub' ofInt8_N64 ofInt64_N8 wide8 eqN neN shr_pow shr1 shr7 shr56
attribute [local go_sem high] bits_com64 shl_wrap
attribute [local go_sem] nn2 nm2 nn3 nm3 nn4 nm4 nn5 nm5 nn6 nm6 nn7 nm7 nn8 nm8
attribute [local go_sem] make_func1
attribute [local go_sem] cell_heap ice_heap cellAt_cells iceAt_cells setAt_cells size_setCell
attribute [local go_sem ↓] heap_alloc heap_drew heap_drewN heap_setCell

theorem is_yes (n : Nat) (h : n < 8) (w : World) : Calls Tryz.prog 144 #[I n] w fun e w' => e = .returned (.bool true) ∧ w = w' := by
  go_enter Tryz.func144, Tryz.ntmps144
  go_wp2
  go_ret
  exact ⟨by simp; omega, rfl⟩
theorem is_no (n : Int) (h : n < 0 ∨ 8 ≤ n) (w : World) : Calls Tryz.prog 144 #[I n] w fun e w' => e = .returned (.bool false) ∧ w = w' := by
  rcases h with h | h
  all_goals
    go_enter Tryz.func144, Tryz.ntmps144
    go_wp2
    go_ret
    exact ⟨by simp <;> omega, rfl⟩
theorem get_yes (c : BitVec 64) (n : Nat) (h : n < 8) (w : World) : Calls Tryz.prog 110 #[U c, I n] w fun e w' => e = .returned (.tuple #[Y (byteAt c n), I 0]) ∧ w = w' := by
  go_enter Tryz.func110, Tryz.ntmps110
  go_wp2_with (first
    | (go_at_call 144; refine (is_yes _ h _).mono ?_; rintro e w' ⟨rfl, rfl⟩)
    | (go_at_call 145; refine (word_at_any _ _ _ h).mono ?_; rintro e w' ⟨rfl, rfl⟩))
  go_ret2
  exact ⟨rfl, rfl⟩
theorem lay_yes (b : Nat) (c : BitVec 64) (n : Nat) (x : BitVec 8) (h : n < 8) (w : World) (hb : w.heap[b]? = some (.cells #[U c] 193 (0, 0))) :
    Calls Tryz.prog 164 #[.pointer (some ⟨b, 0, none⟩), I n, Y x] w fun e w' => e = .returned (.bool true) ∧ Ch [b] w w' ∧ w'.heap[b]? = some (.cells #[U (withB c n x)] 193 (0, 0)) := by
  go_enter Tryz.func164, Tryz.ntmps164
  go_wp2_with (first
    | (go_at_call 144; refine (is_yes _ h _).mono ?_; rintro e w' ⟨rfl, rfl⟩)
    | (go_at_call 167; refine (with_any _ _ _ _ h).mono ?_; rintro e w1 ⟨rfl, hc1⟩; have hb1 := (hc1.block b (Array.getElem?_eq_some_iff.1 hb).1 (by simp)).trans hb))
  go_ret
  refine ⟨rfl, (hc1.of_nil).setCell (p := ⟨b, 0, none⟩) (.inl (by simp)) _, ?_⟩
  rw [heap_setCell, if_pos rfl, hb1]; rfl
theorem lay_no (b : Nat) (n : Int) (x : BitVec 8) (h : n < 0 ∨ 8 ≤ n) (w : World) :
    Calls Tryz.prog 164 #[.pointer (some ⟨b, 0, none⟩), I n, Y x] w fun e w' => e = .returned (.bool false) ∧ w = w' := by
  go_enter Tryz.func164, Tryz.ntmps164
  go_wp2_with (go_at_call 144; refine (is_no _ h _).mono ?_; rintro e w' ⟨rfl, rfl⟩)
  go_ret
  exact ⟨rfl, rfl⟩
theorem put1_yes (c : BitVec 64) (x : BitVec 8) (n : Nat) (h : n < 8) (g : Nat) (w : World) (hg : w.heap[g]? = some (.cells #[I n] 3 (0, 0))) :
    Calls Tryz.prog 158 #[U c, Y x, .slice (some ⟨g, 0, none⟩) 1 1] w fun e w' => e = .returned (.tuple #[U (withB c n x), I 0]) ∧ Ch [] w w' := by
  have hgn : (g = w.heap.size) = False := by have := (Array.getElem?_eq_some_iff.1 hg).1; simp; omega
  go_enter Tryz.func158, Tryz.ntmps158
  go_wp2
  go_step3
  go_wp2
  go_step3
  go_wp2_with fail
  refine wp_loop_rounds 2 ?_
  rw [rounds_succ]
  go_wp2_with fail
  refine (lay_yes w.heap.size c n x h _ (by simp [go_sem])).mono ?_
  rintro e w1 ⟨rfl, hc1, hb1⟩
  go_wp2_with fail
  rw [rounds_succ]
  go_wp2_with fail
  rw [Exit.noGoto_ret]
  go_ret2
  exact ⟨rfl, ((Ch.refl [] w).alloc _).trans2 hc1 (by simp)⟩

/-- A lane as a mask. -/
def laneM (n : Nat) : BitVec 8 := 1#8 <<< n
theorem ofInt_pow8 (n : Nat) : BitVec.ofInt 8 (2 ^ n) = laneM n := by
  have h2 : ((2 : Int) ^ n) = ((2 ^ n : Nat) : Int) := by simp
  unfold laneM
  rw [h2, BitVec.ofInt_natCast]
  apply BitVec.eq_of_toNat_eq; simp [Nat.shiftLeft_eq]
attribute [local go_sem] ofInt_pow8
theorem clane_yes (b : Nat) (n : Nat) (h : n < 8) (w : World) : Calls Tryz.prog 139 #[.pointer (some ⟨b, 0, none⟩), I n] w fun e w' => e = .returned (Y (laneM n)) ∧ w = w' := by
  have hd : decide ((n : Int) < 8) = true := by simp; omega
  go_enter Tryz.func139, Tryz.ntmps139
  go_wp2_with (go_at_call 136; refine (cneed_yes _ _).mono ?_; rintro e w' ⟨rfl, rfl⟩)
  go_ret
  exact ⟨rfl, rfl⟩
theorem cput_yes (b : Nat) (c : BitVec 64) (n : Nat) (x : BitVec 8) (h : n < 8) (w : World) (hb : w.heap[b]? = some (.cells #[U c] 143 (0, 0))) :
    Calls Tryz.prog 140 #[.pointer (some ⟨b, 0, none⟩), I n, Y x] w fun e w' => e = .returned (.tuple #[]) ∧ Ch [b] w w' ∧ w'.heap[b]? = some (.cells #[U (withB c n x)] 143 (0, 0)) := by
  have hb1 := (Array.getElem?_eq_some_iff.1 hb).1
  have hbn : (b = w.heap.size) = False := by simp; omega
  clear hb1
  go_enter Tryz.func140, Tryz.ntmps140
  go_wp2_with fail
  refine (put1_yes c x n h w.heap.size _ (by simp [go_sem])).mono ?_
  rintro e w1 ⟨rfl, hc1⟩
  have hb2 : w1.heap[b]? = some (.cells #[U c] 143 (0, 0)) := by
    have hb1 := (Array.getElem?_eq_some_iff.1 hb).1
    exact (hc1.block b (by simp; omega) (by simp)).trans (by rw [heap_alloc, if_neg (by omega)]; exact hb)
  go_wp2_with (go_at_call 136; refine (cneed_yes _ _).mono ?_; rintro e w' ⟨rfl, rfl⟩)
  go_end0
  refine ⟨rfl, ((((Ch.refl [] w).alloc _).pure hc1).of_nil).setCell (p := ⟨b, 0, none⟩) (.inl (by simp)) _, ?_⟩
  rw [heap_setCell, if_pos rfl, hb2]; rfl
theorem cfill_yes (b : Nat) (c : BitVec 64) (n : Nat) (x : BitVec 8) (h : n < 8) (hx : N x ≤ 127) (hf : fullM c &&& laneM n = 0#8) (w : World) (hb : w.heap[b]? = some (.cells #[U c] 143 (0, 0))) :
    Calls Tryz.prog 132 #[.pointer (some ⟨b, 0, none⟩), I n, Y x] w fun e w' => e = .returned (.tuple #[]) ∧ Ch [b] w w' ∧ w'.heap[b]? = some (.cells #[U (withB c n x)] 143 (0, 0)) := by
  have hz : (N (fullM c &&& laneM n) == 0) = true := by rw [hf]; decide
  have hd : decide (N x ≤ 127) = true := by simpa using hx
  clear hf
  go_enter Tryz.func132, Tryz.ntmps132
  go_wp2_with (first
    | (go_at_call 136; refine (cneed_yes _ _).mono ?_; rintro e w' ⟨rfl, rfl⟩)
    | (go_at_call 139; refine (clane_yes _ _ h _).mono ?_; rintro e w' ⟨rfl, rfl⟩)
    | (go_at_call 127; refine (full_any _ _).mono ?_; rintro e w' ⟨rfl, rfl⟩)
    | (go_at_call 140; refine (cput_yes b c n x h _ hb).mono ?_; rintro e w1 ⟨rfl, hc1, hb1⟩))
  go_end0
  exact ⟨rfl, hc1, hb1⟩
/-- What a slot that is erased holds then. -/
def gone (c : BitVec 64) : BitVec 8 := if emptyM c = 0#8 then 254#8 else 128#8
theorem cerase_yes (b : Nat) (c : BitVec 64) (n : Nat) (h : n < 8) (hf : fullM c &&& laneM n ≠ 0#8) (w : World) (hb : w.heap[b]? = some (.cells #[U c] 143 (0, 0))) :
    Calls Tryz.prog 104 #[.pointer (some ⟨b, 0, none⟩), I n] w fun e w' => e = .returned (.tuple #[]) ∧ Ch [b] w w' ∧ w'.heap[b]? = some (.cells #[U (withB c n (gone c))] 143 (0, 0)) := by
  have hz : (N (fullM c &&& laneM n) != 0) = true := by
    rw [bne_iff_ne]; intro e; exact hf ((N_inj _ 0#8).1 (by rw [e]; rfl))
  clear hf
  by_cases he : emptyM c = 0#8
  · have hg : gone c = 254#8 := by unfold gone; rw [if_pos he]
    have hz2 : (N (emptyM c) != 0) = false := by rw [he]; decide
    have P1 := cput_yes b c n 254#8 h
    rw [hg]
    clear he hg
    go_enter Tryz.func104, Tryz.ntmps104
    go_wp2_with (first
      | (go_at_call 136; refine (cneed_yes _ _).mono ?_; rintro e w' ⟨rfl, rfl⟩)
      | (go_at_call 139; refine (clane_yes _ _ h _).mono ?_; rintro e w' ⟨rfl, rfl⟩)
      | (go_at_call 127; refine (full_any _ _).mono ?_; rintro e w' ⟨rfl, rfl⟩)
      | (go_at_call 128; refine (empty_any _ _).mono ?_; rintro e w' ⟨rfl, rfl⟩)
      | (go_at_call 140; refine (P1 _ hb).mono ?_; rintro e w1 ⟨rfl, hc1, hb1⟩))
    go_end0
    exact ⟨rfl, hc1, hb1⟩
  · have hg : gone c = 128#8 := by unfold gone; rw [if_neg he]
    have hz2 : (N (emptyM c) != 0) = true := by
      rw [bne_iff_ne]; intro e; exact he ((N_inj _ 0#8).1 (by rw [e]; rfl))
    have P1 := cput_yes b c n 128#8 h
    rw [hg]
    clear he hg
    go_enter Tryz.func104, Tryz.ntmps104
    go_wp2_with (first
      | (go_at_call 136; refine (cneed_yes _ _).mono ?_; rintro e w' ⟨rfl, rfl⟩)
      | (go_at_call 139; refine (clane_yes _ _ h _).mono ?_; rintro e w' ⟨rfl, rfl⟩)
      | (go_at_call 127; refine (full_any _ _).mono ?_; rintro e w' ⟨rfl, rfl⟩)
      | (go_at_call 128; refine (empty_any _ _).mono ?_; rintro e w' ⟨rfl, rfl⟩)
      | (go_at_call 140; refine (P1 _ hb).mono ?_; rintro e w1 ⟨rfl, hc1, hb1⟩))
    go_end0
    exact ⟨rfl, hc1, hb1⟩
theorem cnew_any (w : World) : Calls Tryz.prog 78 #[] w fun e w' => e = .returned (U tops) ∧ w = w' := by
  have F1 : ∀ w, Calls Tryz.prog 113 #[.int .u8 128] w fun e w' => e = .returned (U tops) ∧ w = w' := fun w => (fillB_any 128#8 w).mono fun e w' ⟨he, hw⟩ => ⟨by rw [he]; rfl, hw⟩
  go_enter Tryz.func78, Tryz.ntmps78
  go_wp2_with (go_at_call 113; refine (F1 _).mono ?_; rintro e w' ⟨rfl, rfl⟩)
  go_ret
  exact ⟨rfl, rfl⟩
end Go.Proofs.Hc
