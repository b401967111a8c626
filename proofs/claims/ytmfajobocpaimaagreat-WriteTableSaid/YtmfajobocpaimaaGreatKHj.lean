/- Package ctrl: a lane that is put, filled, erased; the sets of a word. -/
import Derived.Test.YtmfajobocpaimaaGreatKHm
import Derived.Test.YtmfajobocpaimaaGreatKHd
import Derived.Test.YtmfajobocpaimaaGreatKHh
import Derived.Test.YtmfajobocpaimaaGreatKHxc
import Derived.Below
import Derived.BigQuiet
import Derived.Deep.Draws
import Derived.Deep.QuietTactic
import Derived.Laws.CopyRow
import Derived.Laws.Tables
import Derived.Lib.Hide
import Derived.RangeFuncRecord
import Derived.Recover
import Derived.Test.YtmfajobocpaimaaGreatProg
import Derived.WalkKit
import Derived.WalkLawsBesides
import Derived.WalkMore
import Derived.WalkSpells
import Derived.RegionTactic
import Derived.StillTail
set_option linter.unusedSimpArgs false
set_option linter.unusedVariables false
namespace Go.Proofs.Hc
open Go.RowKit
attribute [local go_sem] wrap_u64 wrap_u8 bits_xor64 bits_and64 bits_or64 bits_not64 bits_xor8 bits_and8 bits_or8 signed64 signed8 ofInt_N BitVec.ofInt_add BitVec.ofInt_mul ofInt_sub' ofInt8_N64 ofInt64_N8 wide8 eqN neN shr_pow shr1 shr7 shr56
attribute [local go_sem high] bits_com64 shl_wrap
attribute [local go_sem] nn2 nm2 nn3 nm3 nn4 nm4 nn5 nm5 nn6 nm6 nn7 nm7 nn8 nm8
attribute [local go_sem] make_func1
attribute [local go_sem] cell_heap ice_heap cellAt_cells iceAt_cells setAt_cells size_setCell
attribute [local go_sem ↓] heap_alloc heap_drew heap_drewN heap_setCell
theorem is_yes (n : Nat) (h : n < 8) (w : World) : Calls Tryz.prog 212 #[I n] w fun e w' => e = .returned (.bool true) ∧ w = w' := by
  go_enter Tryz.func212, Tryz.ntmps212
  go_wp2
  go_ret
  exact ⟨by simp; omega, rfl⟩
theorem get_yes (c : BitVec 64) (n : Nat) (h : n < 8) (w : World) : Calls Tryz.prog 150 #[U c, I n] w fun e w' => e = .returned (.tuple #[Y (byteAt c n), I 0]) ∧ w = w' := by
  go_enter Tryz.func150, Tryz.ntmps150
  go_wp2_with (first
    | (go_at_call 212; refine (is_yes _ h _).mono ?_; rintro e w' ⟨rfl, rfl⟩)
    | (go_at_call 213; refine (word_at_any _ _ _ h).mono ?_; rintro e w' ⟨rfl, rfl⟩))
  go_ret2
  exact ⟨rfl, rfl⟩
theorem lay_yes (b : Nat) (c : BitVec 64) (n : Nat) (x : BitVec 8) (h : n < 8) (w : World) (hb : w.heap[b]? = some (.cells #[U c] 274 (0, 0))) :
    Calls Tryz.prog 258 #[.pointer (some ⟨b, 0, none⟩), I n, Y x] w fun e w' => e = .returned (.bool true) ∧ Ch [b] w w' ∧ w'.heap[b]? = some (.cells #[U (withB c n x)] 274 (0, 0)) := by
  go_enter Tryz.func258, Tryz.ntmps258
  go_wp2_with (first
    | (go_at_call 212; refine (is_yes _ h _).mono ?_; rintro e w' ⟨rfl, rfl⟩)
    | (go_at_call 261; refine (with_any _ _ _ _ h).mono ?_; rintro e w1 ⟨rfl, hc1⟩; have hb1 := (hc1.block b (Array.getElem?_eq_some_iff.1 hb).1 (by simp)).trans hb))
  go_ret
  refine ⟨rfl, (hc1.of_nil).setCell (p := ⟨b, 0, none⟩) (.inl (by simp)) _, ?_⟩
  rw [heap_setCell, if_pos rfl, hb1]; rfl
theorem put1_yes (c : BitVec 64) (x : BitVec 8) (n : Nat) (h : n < 8) (g : Nat) (w : World) (hg : w.heap[g]? = some (.cells #[I n] 3 (0, 0))) :
    Calls Tryz.prog 247 #[U c, Y x, .slice (some ⟨g, 0, none⟩) 1 1] w fun e w' => e = .returned (.tuple #[U (withB c n x), I 0]) ∧ Ch [] w w' := by
  have hgn : (g = w.heap.size) = False := by have := (Array.getElem?_eq_some_iff.1 hg).1; simp; omega
  go_enter Tryz.func247, Tryz.ntmps247
  go_wp2
  go_step3
  go_wp2
  go_step3
  go_wp2_with fail
  refine wp_loop_rounds 2 ?_
  rw [rounds_succ]
  go_wp2_with fail
  refine (lay_yes w.heap.size c n x h _ (by simp [go_sem])).mono ?_
  rintro e w1 ⟨rfl, hc1, hb1⟩
  go_wp2_with fail
  rw [rounds_succ]
  go_wp2_with fail
  rw [Exit.noGoto_ret]
  go_ret2
  exact ⟨rfl, ((Ch.refl [] w).alloc _).trans2 hc1 (by simp)⟩
/-- A lane as a mask. -/
def laneM (n : Nat) : BitVec 8 := 1#8 <<< n
theorem ofInt_pow8 (n : Nat) : BitVec.ofInt 8 (2 ^ n) = laneM n := by
  have h2 : ((2 : Int) ^ n) = ((2 ^ n : Nat) : Int) := by simp
  unfold laneM
  rw [h2, BitVec.ofInt_natCast]
  apply BitVec.eq_of_toNat_eq; simp [Nat.shiftLeft_eq]
attribute [local go_sem] ofInt_pow8
theorem clane_yes (b : Nat) (n : Nat) (h : n < 8) (w : World) : Calls Tryz.prog 210 #[.pointer (some ⟨b, 0, none⟩), I n] w fun e w' => e = .returned (Y (laneM n)) ∧ w = w' := by
  have hd : decide ((n : Int) < 8) = true := by simp; omega
  go_enter Tryz.func210, Tryz.ntmps210
  go_wp2_with (go_at_call 207; refine (cneed_yes _ _).mono ?_; rintro e w' ⟨rfl, rfl⟩)
  go_ret
  exact ⟨rfl, rfl⟩
theorem cput_yes (b : Nat) (c : BitVec 64) (n : Nat) (x : BitVec 8) (h : n < 8) (w : World) (hb : w.heap[b]? = some (.cells #[U c] 206 (0, 0))) :
    Calls Tryz.prog 211 #[.pointer (some ⟨b, 0, none⟩), I n, Y x] w fun e w' => e = .returned (.tuple #[]) ∧ Ch [b] w w' ∧ w'.heap[b]? = some (.cells #[U (withB c n x)] 206 (0, 0)) := by
  have hb1 := (Array.getElem?_eq_some_iff.1 hb).1
  have hbn : (b = w.heap.size) = False := by simp; omega
  clear hb1
  go_enter Tryz.func211, Tryz.ntmps211
  go_wp2_with fail
  refine (put1_yes c x n h w.heap.size _ (by simp [go_sem])).mono ?_
  rintro e w1 ⟨rfl, hc1⟩
  have hb2 : w1.heap[b]? = some (.cells #[U c] 206 (0, 0)) := by
    have hb1 := (Array.getElem?_eq_some_iff.1 hb).1
    exact (hc1.block b (by simp; omega) (by simp)).trans (by rw [heap_alloc, if_neg (by omega)]; exact hb)
  go_wp2_with (go_at_call 207; refine (cneed_yes _ _).mono ?_; rintro e w' ⟨rfl, rfl⟩)
  go_end0
  refine ⟨rfl, ((((Ch.refl [] w).alloc _).pure hc1).of_nil).setCell (p := ⟨b, 0, none⟩) (.inl (by simp)) _, ?_⟩
  rw [heap_setCell, if_pos rfl, hb2]; rfl
theorem cfill_yes (b : Nat) (c : BitVec 64) (n : Nat) (x : BitVec 8) (h : n < 8) (hx : N x ≤ 127) (hf : fullM c &&& laneM n = 0#8) (w : World) (hb : w.heap[b]? = some (.cells #[U c] 206 (0, 0))) :
    Calls Tryz.prog 203 #[.pointer (some ⟨b, 0, none⟩), I n, Y x] w fun e w' => e = .returned (.tuple #[]) ∧ Ch [b] w w' ∧ w'.heap[b]? = some (.cells #[U (withB c n x)] 206 (0, 0)) := by
  have hz : (N (fullM c &&& laneM n) == 0) = true := by rw [hf]; decide
  have hd : decide (N x ≤ 127) = true := by simpa using hx
  clear hf
  go_enter Tryz.func203, Tryz.ntmps203
  go_wp2_with (first
    | (go_at_call 207; refine (cneed_yes _ _).mono ?_; rintro e w' ⟨rfl, rfl⟩)
    | (go_at_call 210; refine (clane_yes _ _ h _).mono ?_; rintro e w' ⟨rfl, rfl⟩)
    | (go_at_call 198; refine (full_any _ _).mono ?_; rintro e w' ⟨rfl, rfl⟩)
    | (go_at_call 211; refine (cput_yes b c n x h _ hb).mono ?_; rintro e w1 ⟨rfl, hc1, hb1⟩))
  go_end0
  exact ⟨rfl, hc1, hb1⟩
/-- What a slot that is erased holds then. -/
def gone (c : BitVec 64) : BitVec 8 := if emptyM c = 0#8 then 254#8 else 128#8
theorem cerase_yes (b : Nat) (c : BitVec 64) (n : Nat) (h : n < 8) (hf : fullM c &&& laneM n ≠ 0#8) (w : World) (hb : w.heap[b]? = some (.cells #[U c] 206 (0, 0))) :
    Calls Tryz.prog 145 #[.pointer (some ⟨b, 0, none⟩), I n] w fun e w' => e = .returned (.tuple #[]) ∧ Ch [b] w w' ∧ w'.heap[b]? = some (.cells #[U (withB c n (gone c))] 206 (0, 0)) := by
  have hz : (N (fullM c &&& laneM n) != 0) = true := by
    rw [bne_iff_ne]; intro e; exact hf ((N_inj _ 0#8).1 (by rw [e]; rfl))
  clear hf
  by_cases he : emptyM c = 0#8
  · have hg : gone c = 254#8 := by unfold gone; rw [if_pos he]
    have hz2 : (N (emptyM c) != 0) = false := by rw [he]; decide
    have P1 := cput_yes b c n 254#8 h
    rw [hg]
    clear he hg
    go_enter Tryz.func145, Tryz.ntmps145
    go_wp2_with (first
      | (go_at_call 207; refine (cneed_yes _ _).mono ?_; rintro e w' ⟨rfl, rfl⟩)
      | (go_at_call 210; refine (clane_yes _ _ h _).mono ?_; rintro e w' ⟨rfl, rfl⟩)
      | (go_at_call 198; refine (full_any _ _).mono ?_; rintro e w' ⟨rfl, rfl⟩)
      | (go_at_call 199; refine (empty_any _ _).mono ?_; rintro e w' ⟨rfl, rfl⟩)
      | (go_at_call 211; refine (P1 _ hb).mono ?_; rintro e w1 ⟨rfl, hc1, hb1⟩))
    go_end0
    exact ⟨rfl, hc1, hb1⟩
  · have hg : gone c = 128#8 := by unfold gone; rw [if_neg he]
    have hz2 : (N (emptyM c) != 0) = true := by
      rw [bne_iff_ne]; intro e; exact he ((N_inj _ 0#8).1 (by rw [e]; rfl))
    have P1 := cput_yes b c n 128#8 h
    rw [hg]
    clear he hg
    go_enter Tryz.func145, Tryz.ntmps145
    go_wp2_with (first
      | (go_at_call 207; refine (cneed_yes _ _).mono ?_; rintro e w' ⟨rfl, rfl⟩)
      | (go_at_call 210; refine (clane_yes _ _ h _).mono ?_; rintro e w' ⟨rfl, rfl⟩)
      | (go_at_call 198; refine (full_any _ _).mono ?_; rintro e w' ⟨rfl, rfl⟩)
      | (go_at_call 199; refine (empty_any _ _).mono ?_; rintro e w' ⟨rfl, rfl⟩)
      | (go_at_call 211; refine (P1 _ hb).mono ?_; rintro e w1 ⟨rfl, hc1, hb1⟩))
    go_end0
    exact ⟨rfl, hc1, hb1⟩
end Go.Proofs.Hc
/- Package ctrl: Sets, Stops, Match, Fill, Erase. -/
namespace Go.Proofs.Hc
open Go.RowKit
attribute [local go_sem] wrap_u64 wrap_u8 bits_xor64 bits_and64 bits_or64 bits_not64 bits_xor8 bits_and8 bits_or8 signed64 signed8 ofInt_N BitVec.ofInt_add BitVec.ofInt_mul ofInt_sub' ofInt8_N64 ofInt64_N8 wide8 eqN neN shr_pow shr1 shr7 shr56
attribute [local go_sem high] bits_com64 shl_wrap
attribute [local go_sem] nn2 nm2 nn3 nm3 nn4 nm4 nn5 nm5 nn6 nm6 nn7 nm7 nn8 nm8
attribute [local go_sem] make_func1
attribute [local go_sem] cell_heap ice_heap cellAt_cells iceAt_cells setAt_cells size_setCell
attribute [local go_sem ↓] heap_alloc heap_drew heap_drewN heap_setCell
theorem enters_match (args : Array Value) (w : World) : (callFunc 206 args).run Tryz.prog w = .ok (.enter 206 args) w := by kernel_rfl
theorem enters_fill (args : Array Value) (w : World) : (callFunc 202 args).run Tryz.prog w = .ok (.enter 202 args) w := by kernel_rfl
theorem enters_erase (args : Array Value) (w : World) : (callFunc 144 args).run Tryz.prog w = .ok (.enter 144 args) w := by kernel_rfl
theorem enters_sets (args : Array Value) (w : World) : (callFunc 197 args).run Tryz.prog w = .ok (.enter 197 args) w := by kernel_rfl
theorem match1_yes (b p : Nat) (c : BitVec 64) (x : BitVec 8) (hx : N x ≤ 127) (w : World) (hb : w.heap[b]? = some (.cells #[U c] 206 (0, 0))) (hp : w.heap[p]? = some (.cells #[Y x] 5 (0, 0))) :
    Calls Tryz.prog 206 #[.pointer (some ⟨b, 0, none⟩), .pointer (some ⟨p, 0, none⟩)] w fun e w' => e = .returned (Y (equalM c x)) ∧ Ch [] w w' := by
  have hd : decide (N x ≤ 127) = true := by simpa using hx
  go_enter Tryz.func206, Tryz.ntmps206
  go_wp2_with (go_at_call 207; refine (cneed_yes _ _).mono ?_; rintro e w' ⟨rfl, rfl⟩)
  go_quiet ((go_at_call 208; exact quietL (equal_any _ _ _)))
  go_wp2
  go_ret
  exact ⟨rfl, (Ch.refl [] w).drewN nq⟩
theorem fill1_yes (b p q : Nat) (c : BitVec 64) (n : Nat) (x : BitVec 8) (h : n < 8) (hx : N x ≤ 127) (hf : fullM c &&& laneM n = 0#8) (w : World) (hb : w.heap[b]? = some (.cells #[U c] 206 (0, 0)))
    (hp : w.heap[p]? = some (.cells #[I n] 3 (0, 0))) (hq : w.heap[q]? = some (.cells #[Y x] 5 (0, 0))) :
    Calls Tryz.prog 202 #[.pointer (some ⟨b, 0, none⟩), .pointer (some ⟨p, 0, none⟩), .pointer (some ⟨q, 0, none⟩)] w fun e w' => e = .returned (U (withB c n x)) ∧ Ch [b] w w' := by
  go_enter Tryz.func202, Tryz.ntmps202
  go_wp2_with (go_at_call 203; refine (cfill_yes b c n x h hx hf _ hb).mono ?_; rintro e w1 ⟨rfl, hc1, hb1⟩)
  go_ret
  exact ⟨rfl, hc1⟩
theorem erase1_yes (b p : Nat) (c : BitVec 64) (n : Nat) (h : n < 8) (hf : fullM c &&& laneM n ≠ 0#8) (w : World) (hb : w.heap[b]? = some (.cells #[U c] 206 (0, 0)))
    (hp : w.heap[p]? = some (.cells #[I n] 3 (0, 0))) :
    Calls Tryz.prog 144 #[.pointer (some ⟨b, 0, none⟩), .pointer (some ⟨p, 0, none⟩)] w fun e w' => e = .returned (U (withB c n (gone c))) ∧ Ch [b] w w' := by
  go_enter Tryz.func144, Tryz.ntmps144
  go_wp2_with (go_at_call 145; refine (cerase_yes b c n h hf _ hb).mono ?_; rintro e w1 ⟨rfl, hc1, hb1⟩)
  go_ret
  exact ⟨rfl, hc1⟩
theorem match_ok (c : BitVec 64) (x : BitVec 8) (hx : N x ≤ 127) (hok : ctrlOk c = true) (w : World) :
    Calls Tryz.prog 142 #[U c, Y x] w fun e w' => e = .returned (.tuple #[Y (equalM c x), I 0]) ∧ Ch [] w w' := by
  have M1 := fun b p w => match1_yes b p c x hx w
  have T1 := fun (r : BitVec 8) (cap : Array Value) (w : World) => ctriesm_ok c hok 206 cap (.ok r) w enters_match
  generalize equalM c x = r at *
  clear hok hx
  go_enter Tryz.func142, Tryz.ntmps142
  go_wp2_with fail
  refine (T1 r #[.pointer (some ⟨w.heap.size, 0, none⟩)] _ ?_).mono ?_
  · intro b w1 hb hc hle
    exact (M1 b w.heap.size w1 hb ((hc.block _ (by simp) (by simp)).trans (by simp [go_sem]))).mono fun e w2 ⟨he, hc2⟩ => ⟨he, hc2.of_nil⟩
  · rintro e w1 ⟨rfl, hc1⟩
    clear M1 T1
    simp only [tupOr]
    go_wp2
    go_ret2
    exact ⟨rfl, ((Ch.refl [] w).alloc _).trans hc1⟩
theorem fill_ok (c : BitVec 64) (n : Nat) (x : BitVec 8) (h : n < 8) (hx : N x ≤ 127) (hf : fullM c &&& laneM n = 0#8) (hok : ctrlOk c = true) (w : World) :
    Calls Tryz.prog 138 #[U c, I n, Y x] w fun e w' => e = .returned (.tuple #[U (withB c n x), I 0]) ∧ Ch [] w w' := by
  have M1 := fun b p q w => fill1_yes b p q c n x h hx hf w
  have T1 := fun (r : BitVec 64) (cap : Array Value) (w : World) => ctriesw_ok c hok 202 cap (.ok r) w enters_fill
  generalize withB c n x = r at *
  clear hok hx hf
  go_enter Tryz.func138, Tryz.ntmps138
  go_wp2_with fail
  refine (T1 r #[.pointer (some ⟨w.heap.size, 0, none⟩), .pointer (some ⟨w.heap.size + 1, 0, none⟩)] _ ?_).mono ?_
  · intro b w1 hb hc hle
    exact (M1 b w.heap.size (w.heap.size + 1) w1 hb ((hc.block _ (by simp <;> omega) (by simp)).trans (by simp [go_sem])) ((hc.block _ (by simp) (by simp)).trans (by simp [go_sem]))).mono fun e w2 ⟨he, hc2⟩ => ⟨he, hc2⟩
  · rintro e w1 ⟨rfl, hc1⟩
    clear M1 T1
    simp only [tupOr]
    go_wp2
    go_ret2
    exact ⟨rfl, (((Ch.refl [] w).alloc _).alloc _).trans hc1⟩
theorem erase_ok (c : BitVec 64) (n : Nat) (h : n < 8) (hf : fullM c &&& laneM n ≠ 0#8) (hok : ctrlOk c = true) (w : World) :
    Calls Tryz.prog 91 #[U c, I n] w fun e w' => e = .returned (.tuple #[U (withB c n (gone c)), I 0]) ∧ Ch [] w w' := by
  have M1 := fun b p w => erase1_yes b p c n h hf w
  have T1 := fun (r : BitVec 64) (cap : Array Value) (w : World) => ctriesw_ok c hok 144 cap (.ok r) w enters_erase
  generalize withB c n (gone c) = r at *
  clear hok hf
  go_enter Tryz.func91, Tryz.ntmps91
  go_wp2_with fail
  refine (T1 r #[.pointer (some ⟨w.heap.size, 0, none⟩)] _ ?_).mono ?_
  · intro b w1 hb hc hle
    exact (M1 b w.heap.size w1 hb ((hc.block _ (by simp) (by simp)).trans (by simp [go_sem]))).mono fun e w2 ⟨he, hc2⟩ => ⟨he, hc2⟩
  · rintro e w1 ⟨rfl, hc1⟩
    clear M1 T1
    simp only [tupOr]
    go_wp2
    go_ret2
    exact ⟨rfl, ((Ch.refl [] w).alloc _).trans hc1⟩
/-- The three sets of a word. -/
def setsOf (c : BitVec 64) : BitVec 8 × BitVec 8 × BitVec 8 := (fullM c, emptyM c, delM c)
theorem sets1_any (b : Nat) (c : BitVec 64) (w : World) (hb : w.heap[b]? = some (.cells #[U c] 206 (0, 0))) :
    Calls Tryz.prog 197 #[.pointer (some ⟨b, 0, none⟩)] w fun e w' => e = .returned (M3 (setsOf c)) ∧ Ch [] w w' := by
  have hbl := (Array.getElem?_eq_some_iff.1 hb).1
  go_enter Tryz.func197, Tryz.ntmps197
  go_wp2_with fail
  obtain ⟨W0, hW0⟩ : ∃ W0, w.alloc (.cells #[.int .u8 0, .int .u8 0, .int .u8 0] 238) = W0 := ⟨_, rfl⟩
  have hC0 : Ch [] w W0 := by rw [← hW0]; exact (Ch.refl [] w).alloc _
  have hz0 : W0.heap.size = w.heap.size + 1 := by rw [← hW0]; simp
  have b0 : W0.heap[w.heap.size]? = some (.cells #[.int .u8 0, .int .u8 0, .int .u8 0] 238 (0, 0)) := by rw [← hW0]; simp [go_sem]
  have hg : ∀ g : Gar W0, (g.1).heap[b]? = some (.cells #[U c] 206 (0, 0)) := fun g => (g.2.block b (by omega) (by simp)).trans ((hC0.block b hbl (by simp)).trans hb)
  rw [hW0]
  clear hW0 hbl hb
  refine wp_region_gar_tail 16 (by kernel_rfl) (by kernel_rfl) ?_
  simp only [List.take_succ_cons, List.take_zero, List.drop_succ_cons, List.drop_zero]
  repeat (go_big_quiet_step ((first | (go_at_call 198; exact garL (full_any _ _)) | (go_at_call 199; exact garL (empty_any _ _)) | (go_at_call 200; exact garL (del_any _ _)))))
  refine wpQuiet_nil ?_
  rintro w1 ⟨g1, hw1⟩
  have hc1 : Ch [] W0 w1 := by rw [hw1]; exact g1.2
  clear hw1 g1
  have b1 : w1.heap[w.heap.size]? = some (.cells #[.int .u8 0, .int .u8 0, .int .u8 0] 238 (0, 0)) := (hc1.block _ (by omega) (by simp)).trans b0
  clear hg b0
  go_wp2
  refine bodyPost_ret (results_cell_row Tryz.results197 _ _ w.heap.size 238 #[Y (fullM c), Y (emptyM c), Y (delM c)] (0, 0) _ rfl ?_ Tryz.underlying238 rfl (by kernel_rfl)) rfl ⟨rfl, ?_⟩
  · simp only [heap_setCell, b1, if_true, Option.map_some, setAt_cells]
    simp
  · exact ((((hC0.trans hc1).setCell (p := ⟨w.heap.size, 0, none⟩) (.inr (by simp)) _).setCell (p := ⟨w.heap.size, 1, none⟩) (.inr (by simp)) _).setCell (p := ⟨w.heap.size, 2, none⟩) (.inr (by simp)) _)
theorem sets_ok (c : BitVec 64) (hok : ctrlOk c = true) (w : World) :
    Calls Tryz.prog 135 #[U c] w fun e w' => e = .returned (.tuple #[Y (fullM c), Y (emptyM c), Y (delM c)]) ∧ Ch [] w w' := by
  have M1 := fun b w => sets1_any b c w
  have T1 := fun (r : BitVec 8 × BitVec 8 × BitVec 8) (cap : Array Value) (w : World) => ctriess_ok c hok 197 cap (.ok r) w enters_sets
  unfold setsOf at M1
  generalize fullM c = rf at *
  generalize emptyM c = re at *
  generalize delM c = rd at *
  clear hok
  go_enter Tryz.func135, Tryz.ntmps135
  go_wp2_with fail
  refine (T1 (rf, re, rd) #[] _ ?_).mono ?_
  · intro b w1 hb hc hle
    exact (M1 b w1 hb).mono fun e w2 ⟨he, hc2⟩ => ⟨he, hc2.of_nil⟩
  · rintro e w1 ⟨rfl, hc1⟩
    clear M1 T1
    simp only [tupOr, M3]
    go_wp2
    go_quiet (fail)
    go_wp2
    go_ret3
    exact ⟨rfl, ((hc1.alloc _).drewN nq)⟩
theorem stops_ok (c : BitVec 64) (hok : ctrlOk c = true) (w : World) :
    Calls Tryz.prog 92 #[U c] w fun e w' => e = .returned (.bool (emptyM c != 0#8)) ∧ Ch [] w w' := by
  have M1 := fun w => sets_ok c hok w
  generalize fullM c = rf at *
  generalize emptyM c = re at *
  generalize delM c = rd at *
  clear hok
  go_enter Tryz.func92, Tryz.ntmps92
  go_wp2_with (go_at_call 135; refine (M1 _).mono ?_; rintro e w1 ⟨rfl, hc1⟩)
  go_ret
  refine ⟨?_, hc1⟩
  rw [← neN]; rfl
end Go.Proofs.Hc
