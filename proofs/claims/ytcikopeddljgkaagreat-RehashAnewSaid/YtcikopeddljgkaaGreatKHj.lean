/- Package ctrl: a lane that is put, filled, erased; the sets of a word. -/
import Derived.Test.YtcikopeddljgkaaGreatKHcb
import Derived.Test.YtcikopeddljgkaaGreatKHd
import Derived.Test.YtcikopeddljgkaaGreatKHdn
import Derived.Test.YtcikopeddljgkaaGreatKHmet
import Derived.Test.YtcikopeddljgkaaGreatKHr
import Derived.Test.YtcikopeddljgkaaGreatKHs
import Derived.Below
import Derived.BigQuiet
import Derived.Deep.Draws
import Derived.Deep.QuietTactic
import Derived.Laws.CopyRow
import Derived.Laws.Tables
import Derived.Lib.Hide
import Derived.RangeFuncRecord
import Derived.Recover
import Derived.Test.YtcikopeddljgkaaGreatProg
import Derived.WalkKit
import Derived.WalkLawsBesides
import Derived.WalkMore
import Derived.WalkSpells
import Derived.RegionTactic
import Derived.StillTail
set_option linter.unusedSimpArgs false
set_option linter.unusedVariables false
namespace Go.Proofs.Hc
open Go.RowKit
attribute [local go_sem] wrap_u64 wrap_u8 bits_xor64 bits_and64 bits_or64 bits_not64 bits_xor8 bits_and8 bits_or8 signed64 signed8 ofInt_N BitVec.ofInt_add BitVec.ofInt_mul ofInt_sub' ofInt8_N64 ofInt64_N8 wide8 eqN neN shr_pow shr1 shr7 shr56
attribute [local go_sem high] bits_com64 shl_wrap
attribute [local go_sem] nn2 nm2 nn3 nm3 nn4 nm4 nn5 nm5 nn6 nm6 nn7 nm7 nn8 nm8
attribute [local go_sem] make_func1
attribute [local go_sem] cell_heap ice_heap cellAt_cells iceAt_cells setAt_cells size_setCell
attribute [local go_sem ↓] heap_alloc heap_drew heap_drewN heap_setCell
theorem is_yes (n : Nat) (h : n < 8) (w : World) : Calls Tryz.prog 230 #[I n] w fun e w' => e = .returned (.bool true) ∧ w = w' := by
  go_enter Tryz.func230, Tryz.ntmps230
  go_wp2
  go_ret
  exact ⟨by simp; omega, rfl⟩
theorem get_yes (c : BitVec 64) (n : Nat) (h : n < 8) (w : World) : Calls Tryz.prog 168 #[U c, I n] w fun e w' => e = .returned (.tuple #[Y (byteAt c n), I 0]) ∧ w = w' := by
  go_enter Tryz.func168, Tryz.ntmps168
  go_wp2_with (first
    | (go_at_call 230; refine (is_yes _ h _).mono ?_; rintro e w' ⟨rfl, rfl⟩)
    | (go_at_call 231; refine (word_at_any _ _ _ h).mono ?_; rintro e w' ⟨rfl, rfl⟩))
  go_ret2
  exact ⟨rfl, rfl⟩
theorem lay_yes (b : Nat) (c : BitVec 64) (n : Nat) (x : BitVec 8) (h : n < 8) (w : World) (hb : w.heap[b]? = some (.cells #[U c] 352 (0, 0))) :
    Calls Tryz.prog 318 #[.pointer (some ⟨b, 0, none⟩), I n, Y x] w fun e w' => e = .returned (.bool true) ∧ Ch [b] w w' ∧ w'.heap[b]? = some (.cells #[U (withB c n x)] 352 (0, 0)) := by
  go_enter Tryz.func318, Tryz.ntmps318
  go_wp2_with (first
    | (go_at_call 230; refine (is_yes _ h _).mono ?_; rintro e w' ⟨rfl, rfl⟩)
    | (go_at_call 321; refine (with_any _ _ _ _ h).mono ?_; rintro e w1 ⟨rfl, hc1⟩; have hb1 := (hc1.block b (Array.getElem?_eq_some_iff.1 hb).1 (by simp)).trans hb))
  go_ret
  refine ⟨rfl, (hc1.of_nil).setCell (p := ⟨b, 0, none⟩) (.inl (by simp)) _, ?_⟩
  rw [heap_setCell, if_pos rfl, hb1]; rfl
theorem put1_yes (c : BitVec 64) (x : BitVec 8) (n : Nat) (h : n < 8) (g : Nat) (w : World) (hg : w.heap[g]? = some (.cells #[I n] 3 (0, 0))) :
    Calls Tryz.prog 306 #[U c, Y x, .slice (some ⟨g, 0, none⟩) 1 1] w fun e w' => e = .returned (.tuple #[U (withB c n x), I 0]) ∧ Ch [] w w' := by
  have hgn : (g = w.heap.size) = False := by have := (Array.getElem?_eq_some_iff.1 hg).1; simp; omega
  go_enter Tryz.func306, Tryz.ntmps306
  go_wp2
  go_step3
  go_wp2
  go_step3
  go_wp2_with fail
  refine wp_loop_rounds 2 ?_
  rw [rounds_succ]
  go_wp2_with fail
  refine (lay_yes w.heap.size c n x h _ (by simp [go_sem])).mono ?_
  rintro e w1 ⟨rfl, hc1, hb1⟩
  go_wp2_with fail
  rw [rounds_succ]
  go_wp2_with fail
  rw [Exit.noGoto_ret]
  go_ret2
  exact ⟨rfl, ((Ch.refl [] w).alloc _).trans2 hc1 (by simp)⟩
/-- A lane as a mask. -/
def laneM (n : Nat) : BitVec 8 := 1#8 <<< n
theorem ofInt_pow8 (n : Nat) : BitVec.ofInt 8 (2 ^ n) = laneM n := by
  have h2 : ((2 : Int) ^ n) = ((2 ^ n : Nat) : Int) := by simp
  unfold laneM
  rw [h2, BitVec.ofInt_natCast]
  apply BitVec.eq_of_toNat_eq; simp [Nat.shiftLeft_eq]
attribute [local go_sem] ofInt_pow8
theorem clane_yes (b : Nat) (n : Nat) (h : n < 8) (w : World) : Calls Tryz.prog 270 #[.pointer (some ⟨b, 0, none⟩), I n] w fun e w' => e = .returned (Y (laneM n)) ∧ w = w' := by
  have hd : decide ((n : Int) < 8) = true := by simp; omega
  go_enter Tryz.func270, Tryz.ntmps270
  go_wp2_with (go_at_call 263; refine (cneed_yes _ _).mono ?_; rintro e w' ⟨rfl, rfl⟩)
  go_ret
  exact ⟨rfl, rfl⟩
theorem cput_yes (b : Nat) (c : BitVec 64) (n : Nat) (x : BitVec 8) (h : n < 8) (w : World) (hb : w.heap[b]? = some (.cells #[U c] 299 (0, 0))) :
    Calls Tryz.prog 271 #[.pointer (some ⟨b, 0, none⟩), I n, Y x] w fun e w' => e = .returned (.tuple #[]) ∧ Ch [b] w w' ∧ w'.heap[b]? = some (.cells #[U (withB c n x)] 299 (0, 0)) := by
  have hb1 := (Array.getElem?_eq_some_iff.1 hb).1
  have hbn : (b = w.heap.size) = False := by simp; omega
  clear hb1
  go_enter Tryz.func271, Tryz.ntmps271
  go_wp2_with fail
  refine (put1_yes c x n h w.heap.size _ (by simp [go_sem])).mono ?_
  rintro e w1 ⟨rfl, hc1⟩
  have hb2 : w1.heap[b]? = some (.cells #[U c] 299 (0, 0)) := by
    have hb1 := (Array.getElem?_eq_some_iff.1 hb).1
    exact (hc1.block b (by simp; omega) (by simp)).trans (by rw [heap_alloc, if_neg (by omega)]; exact hb)
  go_wp2_with (go_at_call 263; refine (cneed_yes _ _).mono ?_; rintro e w' ⟨rfl, rfl⟩)
  go_end0
  refine ⟨rfl, ((((Ch.refl [] w).alloc _).pure hc1).of_nil).setCell (p := ⟨b, 0, none⟩) (.inl (by simp)) _, ?_⟩
  rw [heap_setCell, if_pos rfl, hb2]; rfl
theorem cfill_yes (b : Nat) (c : BitVec 64) (n : Nat) (x : BitVec 8) (h : n < 8) (hx : N x ≤ 127) (hf : fullM c &&& laneM n = 0#8) (w : World) (hb : w.heap[b]? = some (.cells #[U c] 299 (0, 0))) :
    Calls Tryz.prog 268 #[.pointer (some ⟨b, 0, none⟩), I n, Y x] w fun e w' => e = .returned (.tuple #[]) ∧ Ch [b] w w' ∧ w'.heap[b]? = some (.cells #[U (withB c n x)] 299 (0, 0)) := by
  have hz : (N (fullM c &&& laneM n) == 0) = true := by rw [hf]; decide
  have hd : decide (N x ≤ 127) = true := by simpa using hx
  clear hf
  go_enter Tryz.func268, Tryz.ntmps268
  go_wp2_with (first
    | (go_at_call 263; refine (cneed_yes _ _).mono ?_; rintro e w' ⟨rfl, rfl⟩)
    | (go_at_call 270; refine (clane_yes _ _ h _).mono ?_; rintro e w' ⟨rfl, rfl⟩)
    | (go_at_call 224; refine (full_any _ _).mono ?_; rintro e w' ⟨rfl, rfl⟩)
    | (go_at_call 271; refine (cput_yes b c n x h _ hb).mono ?_; rintro e w1 ⟨rfl, hc1, hb1⟩))
  go_end0
  exact ⟨rfl, hc1, hb1⟩
/-- What a slot that is erased holds then. -/
def gone (c : BitVec 64) : BitVec 8 := if emptyM c = 0#8 then 254#8 else 128#8
theorem cerase_yes (b : Nat) (c : BitVec 64) (n : Nat) (h : n < 8) (hf : fullM c &&& laneM n ≠ 0#8) (w : World) (hb : w.heap[b]? = some (.cells #[U c] 299 (0, 0))) :
    Calls Tryz.prog 214 #[.pointer (some ⟨b, 0, none⟩), I n] w fun e w' => e = .returned (.tuple #[]) ∧ Ch [b] w w' ∧ w'.heap[b]? = some (.cells #[U (withB c n (gone c))] 299 (0, 0)) := by
  have hz : (N (fullM c &&& laneM n) != 0) = true := by
    rw [bne_iff_ne]; intro e; exact hf ((N_inj _ 0#8).1 (by rw [e]; rfl))
  clear hf
  by_cases he : emptyM c = 0#8
  · have hg : gone c = 254#8 := by unfold gone; rw [if_pos he]
    have hz2 : (N (emptyM c) != 0) = false := by rw [he]; decide
    have P1 := cput_yes b c n 254#8 h
    rw [hg]
    clear he hg
    go_enter Tryz.func214, Tryz.ntmps214
    go_wp2_with (first
      | (go_at_call 263; refine (cneed_yes _ _).mono ?_; rintro e w' ⟨rfl, rfl⟩)
      | (go_at_call 270; refine (clane_yes _ _ h _).mono ?_; rintro e w' ⟨rfl, rfl⟩)
      | (go_at_call 224; refine (full_any _ _).mono ?_; rintro e w' ⟨rfl, rfl⟩)
      | (go_at_call 225; refine (empty_any _ _).mono ?_; rintro e w' ⟨rfl, rfl⟩)
      | (go_at_call 271; refine (P1 _ hb).mono ?_; rintro e w1 ⟨rfl, hc1, hb1⟩))
    go_end0
    exact ⟨rfl, hc1, hb1⟩
  · have hg : gone c = 128#8 := by unfold gone; rw [if_neg he]
    have hz2 : (N (emptyM c) != 0) = true := by
      rw [bne_iff_ne]; intro e; exact he ((N_inj _ 0#8).1 (by rw [e]; rfl))
    have P1 := cput_yes b c n 128#8 h
    rw [hg]
    clear he hg
    go_enter Tryz.func214, Tryz.ntmps214
    go_wp2_with (first
      | (go_at_call 263; refine (cneed_yes _ _).mono ?_; rintro e w' ⟨rfl, rfl⟩)
      | (go_at_call 270; refine (clane_yes _ _ h _).mono ?_; rintro e w' ⟨rfl, rfl⟩)
      | (go_at_call 224; refine (full_any _ _).mono ?_; rintro e w' ⟨rfl, rfl⟩)
      | (go_at_call 225; refine (empty_any _ _).mono ?_; rintro e w' ⟨rfl, rfl⟩)
      | (go_at_call 271; refine (P1 _ hb).mono ?_; rintro e w1 ⟨rfl, hc1, hb1⟩))
    go_end0
    exact ⟨rfl, hc1, hb1⟩
theorem cnew_any (w : World) : Calls Tryz.prog 143 #[] w fun e w' => e = .returned (U tops) ∧ w = w' := by
  have F1 : ∀ w, Calls Tryz.prog 216 #[.int .u8 128] w fun e w' => e = .returned (U tops) ∧ w = w' := fun w => (fillB_any 128#8 w).mono fun e w' ⟨he, hw⟩ => ⟨by rw [he]; rfl, hw⟩
  go_enter Tryz.func143, Tryz.ntmps143
  go_wp2_with (go_at_call 216; refine (F1 _).mono ?_; rintro e w' ⟨rfl, rfl⟩)
  go_ret
  exact ⟨rfl, rfl⟩
end Go.Proofs.Hc
/- Package ctrl: Sets, Stops, Match, Fill, Erase. -/
namespace Go.Proofs.Hc
open Go.RowKit
attribute [local go_sem] wrap_u64 wrap_u8 bits_xor64 bits_and64 bits_or64 bits_not64 bits_xor8 bits_and8 bits_or8 signed64 signed8 ofInt_N BitVec.ofInt_add BitVec.ofInt_mul ofInt_sub' ofInt8_N64 ofInt64_N8 wide8 eqN neN shr_pow shr1 shr7 shr56
attribute [local go_sem high] bits_com64 shl_wrap
attribute [local go_sem] nn2 nm2 nn3 nm3 nn4 nm4 nn5 nm5 nn6 nm6 nn7 nm7 nn8 nm8
attribute [local go_sem] make_func1
attribute [local go_sem] cell_heap ice_heap cellAt_cells iceAt_cells setAt_cells size_setCell
attribute [local go_sem ↓] heap_alloc heap_drew heap_drewN heap_setCell
theorem enters_match (args : Array Value) (w : World) : (callFunc 262 args).run Tryz.prog w = .ok (.enter 262 args) w := by kernel_rfl
theorem enters_fill (args : Array Value) (w : World) : (callFunc 267 args).run Tryz.prog w = .ok (.enter 267 args) w := by kernel_rfl
theorem enters_erase (args : Array Value) (w : World) : (callFunc 213 args).run Tryz.prog w = .ok (.enter 213 args) w := by kernel_rfl
theorem enters_sets (args : Array Value) (w : World) : (callFunc 228 args).run Tryz.prog w = .ok (.enter 228 args) w := by kernel_rfl
theorem match1_yes (b p : Nat) (c : BitVec 64) (x : BitVec 8) (hx : N x ≤ 127) (w : World) (hb : w.heap[b]? = some (.cells #[U c] 299 (0, 0))) (hp : w.heap[p]? = some (.cells #[Y x] 5 (0, 0))) :
    Calls Tryz.prog 262 #[.pointer (some ⟨b, 0, none⟩), .pointer (some ⟨p, 0, none⟩)] w fun e w' => e = .returned (Y (equalM c x)) ∧ Ch [] w w' := by
  have hd : decide (N x ≤ 127) = true := by simpa using hx
  go_enter Tryz.func262, Tryz.ntmps262
  go_wp2_with (go_at_call 263; refine (cneed_yes _ _).mono ?_; rintro e w' ⟨rfl, rfl⟩)
  go_quiet ((go_at_call 264; exact quietL (equal_any _ _ _)))
  go_wp2
  go_ret
  exact ⟨rfl, (Ch.refl [] w).drewN nq⟩
theorem fill1_yes (b p q : Nat) (c : BitVec 64) (n : Nat) (x : BitVec 8) (h : n < 8) (hx : N x ≤ 127) (hf : fullM c &&& laneM n = 0#8) (w : World) (hb : w.heap[b]? = some (.cells #[U c] 299 (0, 0)))
    (hp : w.heap[p]? = some (.cells #[I n] 3 (0, 0))) (hq : w.heap[q]? = some (.cells #[Y x] 5 (0, 0))) :
    Calls Tryz.prog 267 #[.pointer (some ⟨b, 0, none⟩), .pointer (some ⟨p, 0, none⟩), .pointer (some ⟨q, 0, none⟩)] w fun e w' => e = .returned (U (withB c n x)) ∧ Ch [b] w w' := by
  go_enter Tryz.func267, Tryz.ntmps267
  go_wp2_with (go_at_call 268; refine (cfill_yes b c n x h hx hf _ hb).mono ?_; rintro e w1 ⟨rfl, hc1, hb1⟩)
  go_ret
  exact ⟨rfl, hc1⟩
theorem erase1_yes (b p : Nat) (c : BitVec 64) (n : Nat) (h : n < 8) (hf : fullM c &&& laneM n ≠ 0#8) (w : World) (hb : w.heap[b]? = some (.cells #[U c] 299 (0, 0)))
    (hp : w.heap[p]? = some (.cells #[I n] 3 (0, 0))) :
    Calls Tryz.prog 213 #[.pointer (some ⟨b, 0, none⟩), .pointer (some ⟨p, 0, none⟩)] w fun e w' => e = .returned (U (withB c n (gone c))) ∧ Ch [b] w w' := by
  go_enter Tryz.func213, Tryz.ntmps213
  go_wp2_with (go_at_call 214; refine (cerase_yes b c n h hf _ hb).mono ?_; rintro e w1 ⟨rfl, hc1, hb1⟩)
  go_ret
  exact ⟨rfl, hc1⟩
theorem match_ok (c : BitVec 64) (x : BitVec 8) (hx : N x ≤ 127) (hok : ctrlOk c = true) (w : World) :
    Calls Tryz.prog 209 #[U c, Y x] w fun e w' => e = .returned (.tuple #[Y (equalM c x), I 0]) ∧ Ch [] w w' := by
  have M1 := fun b p w => match1_yes b p c x hx w
  have T1 := fun (r : BitVec 8) (cap : Array Value) (w : World) => ctriesm_ok c hok 262 cap (.ok r) w enters_match
  generalize equalM c x = r at *
  clear hok hx
  go_enter Tryz.func209, Tryz.ntmps209
  go_wp2_with fail
  refine (T1 r #[.pointer (some ⟨w.heap.size, 0, none⟩)] _ ?_).mono ?_
  · intro b w1 hb hc hle
    exact (M1 b w.heap.size w1 hb ((hc.block _ (by simp) (by simp)).trans (by simp [go_sem]))).mono fun e w2 ⟨he, hc2⟩ => ⟨he, hc2.of_nil⟩
  · rintro e w1 ⟨rfl, hc1⟩
    clear M1 T1
    simp only [tupOr]
    go_wp2
    go_ret2
    exact ⟨rfl, ((Ch.refl [] w).alloc _).trans hc1⟩
theorem fill_ok (c : BitVec 64) (n : Nat) (x : BitVec 8) (h : n < 8) (hx : N x ≤ 127) (hf : fullM c &&& laneM n = 0#8) (hok : ctrlOk c = true) (w : World) :
    Calls Tryz.prog 211 #[U c, I n, Y x] w fun e w' => e = .returned (.tuple #[U (withB c n x), I 0]) ∧ Ch [] w w' := by
  have M1 := fun b p q w => fill1_yes b p q c n x h hx hf w
  have T1 := fun (r : BitVec 64) (cap : Array Value) (w : World) => ctriesw_ok c hok 267 cap (.ok r) w enters_fill
  generalize withB c n x = r at *
  clear hok hx hf
  go_enter Tryz.func211, Tryz.ntmps211
  go_wp2_with fail
  refine (T1 r #[.pointer (some ⟨w.heap.size, 0, none⟩), .pointer (some ⟨w.heap.size + 1, 0, none⟩)] _ ?_).mono ?_
  · intro b w1 hb hc hle
    exact (M1 b w.heap.size (w.heap.size + 1) w1 hb ((hc.block _ (by simp <;> omega) (by simp)).trans (by simp [go_sem])) ((hc.block _ (by simp) (by simp)).trans (by simp [go_sem]))).mono fun e w2 ⟨he, hc2⟩ => ⟨he, hc2⟩
  · rintro e w1 ⟨rfl, hc1⟩
    clear M1 T1
    simp only [tupOr]
    go_wp2
    go_ret2
    exact ⟨rfl, (((Ch.refl [] w).alloc _).alloc _).trans hc1⟩
theorem erase_ok (c : BitVec 64) (n : Nat) (h : n < 8) (hf : fullM c &&& laneM n ≠ 0#8) (hok : ctrlOk c = true) (w : World) :
    Calls Tryz.prog 138 #[U c, I n] w fun e w' => e = .returned (.tuple #[U (withB c n (gone c)), I 0]) ∧ Ch [] w w' := by
  have M1 := fun b p w => erase1_yes b p c n h hf w
  have T1 := fun (r : BitVec 64) (cap : Array Value) (w : World) => ctriesw_ok c hok 213 cap (.ok r) w enters_erase
  generalize withB c n (gone c) = r at *
  clear hok hf
  go_enter Tryz.func138, Tryz.ntmps138
  go_wp2_with fail
  refine (T1 r #[.pointer (some ⟨w.heap.size, 0, none⟩)] _ ?_).mono ?_
  · intro b w1 hb hc hle
    exact (M1 b w.heap.size w1 hb ((hc.block _ (by simp) (by simp)).trans (by simp [go_sem]))).mono fun e w2 ⟨he, hc2⟩ => ⟨he, hc2⟩
  · rintro e w1 ⟨rfl, hc1⟩
    clear M1 T1
    simp only [tupOr]
    go_wp2
    go_ret2
    exact ⟨rfl, ((Ch.refl [] w).alloc _).trans hc1⟩
/-- The three sets of a word. -/
def setsOf (c : BitVec 64) : BitVec 8 × BitVec 8 × BitVec 8 := (fullM c, emptyM c, delM c)
theorem sets1_any (b : Nat) (c : BitVec 64) (w : World) (hb : w.heap[b]? = some (.cells #[U c] 299 (0, 0))) :
    Calls Tryz.prog 228 #[.pointer (some ⟨b, 0, none⟩)] w fun e w' => e = .returned (M3 (setsOf c)) ∧ Ch [] w w' := by
  have hbl := (Array.getElem?_eq_some_iff.1 hb).1
  go_enter Tryz.func228, Tryz.ntmps228
  go_wp2_with fail
  obtain ⟨W0, hW0⟩ : ∃ W0, w.alloc (.cells #[.int .u8 0, .int .u8 0, .int .u8 0] 307) = W0 := ⟨_, rfl⟩
  have hC0 : Ch [] w W0 := by rw [← hW0]; exact (Ch.refl [] w).alloc _
  have hz0 : W0.heap.size = w.heap.size + 1 := by rw [← hW0]; simp
  have b0 : W0.heap[w.heap.size]? = some (.cells #[.int .u8 0, .int .u8 0, .int .u8 0] 307 (0, 0)) := by rw [← hW0]; simp [go_sem]
  have hg : ∀ g : Gar W0, (g.1).heap[b]? = some (.cells #[U c] 299 (0, 0)) := fun g => (g.2.block b (by omega) (by simp)).trans ((hC0.block b hbl (by simp)).trans hb)
  rw [hW0]
  clear hW0 hbl hb
  refine wp_region_gar_tail 16 (by kernel_rfl) (by kernel_rfl) ?_
  simp only [List.take_succ_cons, List.take_zero, List.drop_succ_cons, List.drop_zero]
  repeat (go_big_quiet_step ((first | (go_at_call 224; exact garL (full_any _ _)) | (go_at_call 225; exact garL (empty_any _ _)) | (go_at_call 226; exact garL (del_any _ _)))))
  refine wpQuiet_nil ?_
  rintro w1 ⟨g1, hw1⟩
  have hc1 : Ch [] W0 w1 := by rw [hw1]; exact g1.2
  clear hw1 g1
  have b1 : w1.heap[w.heap.size]? = some (.cells #[.int .u8 0, .int .u8 0, .int .u8 0] 307 (0, 0)) := (hc1.block _ (by omega) (by simp)).trans b0
  clear hg b0
  go_wp2
  refine bodyPost_ret (results_cell_row Tryz.results228 _ _ w.heap.size 307 #[Y (fullM c), Y (emptyM c), Y (delM c)] (0, 0) _ rfl ?_ Tryz.underlying307 rfl (by kernel_rfl)) rfl ⟨rfl, ?_⟩
  · simp only [heap_setCell, b1, if_true, Option.map_some, setAt_cells]
    simp
  · exact ((((hC0.trans hc1).setCell (p := ⟨w.heap.size, 0, none⟩) (.inr (by simp)) _).setCell (p := ⟨w.heap.size, 1, none⟩) (.inr (by simp)) _).setCell (p := ⟨w.heap.size, 2, none⟩) (.inr (by simp)) _)
theorem sets_ok (c : BitVec 64) (hok : ctrlOk c = true) (w : World) :
    Calls Tryz.prog 166 #[U c] w fun e w' => e = .returned (.tuple #[Y (fullM c), Y (emptyM c), Y (delM c)]) ∧ Ch [] w w' := by
  have M1 := fun b w => sets1_any b c w
  have T1 := fun (r : BitVec 8 × BitVec 8 × BitVec 8) (cap : Array Value) (w : World) => ctriess_ok c hok 228 cap (.ok r) w enters_sets
  unfold setsOf at M1
  generalize fullM c = rf at *
  generalize emptyM c = re at *
  generalize delM c = rd at *
  clear hok
  go_enter Tryz.func166, Tryz.ntmps166
  go_wp2_with fail
  refine (T1 (rf, re, rd) #[] _ ?_).mono ?_
  · intro b w1 hb hc hle
    exact (M1 b w1 hb).mono fun e w2 ⟨he, hc2⟩ => ⟨he, hc2.of_nil⟩
  · rintro e w1 ⟨rfl, hc1⟩
    clear M1 T1
    simp only [tupOr, M3]
    go_wp2
    go_quiet (fail)
    go_wp2
    go_ret3
    exact ⟨rfl, ((hc1.alloc _).drewN nq)⟩
theorem stops_ok (c : BitVec 64) (hok : ctrlOk c = true) (w : World) :
    Calls Tryz.prog 139 #[U c] w fun e w' => e = .returned (.bool (emptyM c != 0#8)) ∧ Ch [] w w' := by
  have M1 := fun w => sets_ok c hok w
  generalize fullM c = rf at *
  generalize emptyM c = re at *
  generalize delM c = rd at *
  clear hok
  go_enter Tryz.func139, Tryz.ntmps139
  go_wp2_with (go_at_call 166; refine (M1 _).mono ?_; rintro e w1 ⟨rfl, hc1⟩)
  go_ret
  refine ⟨?_, hc1⟩
  rw [← neN]; rfl
end Go.Proofs.Hc
