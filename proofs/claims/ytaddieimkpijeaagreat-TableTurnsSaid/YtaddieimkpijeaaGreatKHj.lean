/- Package ctrl: Sets, Stops, Match, Fill, Erase. -/
import Derived.Test.YtaddieimkpijeaaGreatKHi
import Derived.Test.YtaddieimkpijeaaGreatKHq
import Derived.RegionTactic
set_option linter.unusedSimpArgs false
set_option linter.unusedVariables false
namespace Go.Proofs.Hc
open Go.RowKit
attribute [local go_sem] wrap_u64 wrap_u8 bits_xor64 bits_and64 bits_or64 bits_not64 bits_xor8 bits_and8 bits_or8 signed64 signed8 ofInt_N BitVec.ofInt_add BitVec.ofInt_mul ofInt_sub' ofInt8_N64 ofInt64_N8 wide8 eqN neN shr_pow shr1 shr7 shr56
attribute [local go_sem high] bits_com64 shl_wrap
attribute [local go_sem] nn2 nm2 nn3 nm3 nn4 nm4 nn5 nm5 nn6 nm6 nn7 nm7 nn8 nm8
attribute [local go_sem] make_func1
attribute [local go_sem] cell_heap ice_heap cellAt_cells iceAt_cells setAt_cells size_setCell
attribute [local go_sem ↓] heap_alloc heap_drew heap_drewN heap_setCell

theorem enters_match (args : Array Value) (w : World) : (callFunc 135 args).run Tryz.prog w = .ok (.enter 135 args) w := by kernel_rfl
theorem enters_fill (args : Array Value) (w : World) : (callFunc 131 args).run Tryz.prog w = .ok (.enter 131 args) w := by kernel_rfl
theorem enters_erase (args : Array Value) (w : World) : (callFunc 103 args).run Tryz.prog w = .ok (.enter 103 args) w := by kernel_rfl
theorem enters_sets (args : Array Value) (w : World) : (callFunc 126 args).run Tryz.prog w = .ok (.enter 126 args) w := by kernel_rfl

theorem match1_yes (b p : Nat) (c : BitVec 64) (x : BitVec 8) (hx : N x ≤ 127) (w : World) (hb : w.heap[b]? = some (.cells #[U c] 143 (0, 0))) (hp : w.heap[p]? = some (.cells #[Y x] 5 (0, 0))) :
    Calls Tryz.prog 135 #[.pointer (some ⟨b, 0, none⟩), .pointer (some ⟨p, 0, none⟩)] w fun e w' => e = .returned (Y (equalM c x)) ∧ Ch [] w w' := by
  have hd : decide (N x ≤ 127) = true := by simpa using hx
  go_enter Tryz.func135, Tryz.ntmps135
  go_wp2_with (go_at_call 136; refine (cneed_yes _ _).mono ?_; rintro e w' ⟨rfl, rfl⟩)
  go_quiet ((go_at_call 137; exact quietL (equal_any _ _ _)))
  go_wp2
  go_ret
  exact ⟨rfl, (Ch.refl [] w).drewN nq⟩
theorem fill1_yes (b p q : Nat) (c : BitVec 64) (n : Nat) (x : BitVec 8) (h : n < 8) (hx : N x ≤ 127) (hf : fullM c &&& laneM n = 0#8) (w : World) (hb : w.heap[b]? = some (.cells #[U c] 143 (0, 0)))
    (hp : w.heap[p]? = some (.cells #[I n] 3 (0, 0))) (hq : w.heap[q]? = some (.cells #[Y x] 5 (0, 0))) :
    Calls Tryz.prog 131 #[.pointer (some ⟨b, 0, none⟩), .pointer (some ⟨p, 0, none⟩), .pointer (some ⟨q, 0, none⟩)] w fun e w' => e = .returned (U (withB c n x)) ∧ Ch [b] w w' := by
  go_enter Tryz.func131, Tryz.ntmps131
  go_wp2_with (go_at_call 132; refine (cfill_yes b c n x h hx hf _ hb).mono ?_; rintro e w1 ⟨rfl, hc1, hb1⟩)
  go_ret
  exact ⟨rfl, hc1⟩
theorem erase1_yes (b p : Nat) (c : BitVec 64) (n : Nat) (h : n < 8) (hf : fullM c &&& laneM n ≠ 0#8) (w : World) (hb : w.heap[b]? = some (.cells #[U c] 143 (0, 0)))
    (hp : w.heap[p]? = some (.cells #[I n] 3 (0, 0))) :
    Calls Tryz.prog 103 #[.pointer (some ⟨b, 0, none⟩), .pointer (some ⟨p, 0, none⟩)] w fun e w' => e = .returned (U (withB c n (gone c))) ∧ Ch [b] w w' := by
  go_enter Tryz.func103, Tryz.ntmps103
  go_wp2_with (go_at_call 104; refine (cerase_yes b c n h hf _ hb).mono ?_; rintro e w1 ⟨rfl, hc1, hb1⟩)
  go_ret
  exact ⟨rfl, hc1⟩
theorem match_ok (c : BitVec 64) (x : BitVec 8) (hx : N x ≤ 127) (hok : ctrlOk c = true) (w : World) :
    Calls Tryz.prog 101 #[U c, Y x] w fun e w' => e = .returned (.tuple #[Y (equalM c x), I 0]) ∧ Ch [] w w' := by
  have M1 := fun b p w => match1_yes b p c x hx w
  have T1 := fun (r : BitVec 8) (cap : Array Value) (w : World) => ctriesm_ok c hok 135 cap (.ok r) w enters_match
  generalize equalM c x = r at *
  clear hok hx
  go_enter Tryz.func101, Tryz.ntmps101
  go_wp2_with fail
  refine (T1 r #[.pointer (some ⟨w.heap.size, 0, none⟩)] _ ?_).mono ?_
  · intro b w1 hb hc hle
    exact (M1 b w.heap.size w1 hb ((hc.block _ (by simp) (by simp)).trans (by simp [go_sem]))).mono fun e w2 ⟨he, hc2⟩ => ⟨he, hc2.of_nil⟩
  · rintro e w1 ⟨rfl, hc1⟩
    clear M1 T1
    simp only [tupOr]
    go_wp2
    go_ret2
    exact ⟨rfl, ((Ch.refl [] w).alloc _).trans hc1⟩
theorem fill_ok (c : BitVec 64) (n : Nat) (x : BitVec 8) (h : n < 8) (hx : N x ≤ 127) (hf : fullM c &&& laneM n = 0#8) (hok : ctrlOk c = true) (w : World) :
    Calls Tryz.prog 97 #[U c, I n, Y x] w fun e w' => e = .returned (.tuple #[U (withB c n x), I 0]) ∧ Ch [] w w' := by
  have M1 := fun b p q w => fill1_yes b p q c n x h hx hf w
  have T1 := fun (r : BitVec 64) (cap : Array Value) (w : World) => ctriesw_ok c hok 131 cap (.ok r) w enters_fill
  generalize withB c n x = r at *
  clear hok hx hf
  go_enter Tryz.func97, Tryz.ntmps97
  go_wp2_with fail
  refine (T1 r #[.pointer (some ⟨w.heap.size, 0, none⟩), .pointer (some ⟨w.heap.size + 1, 0, none⟩)] _ ?_).mono ?_
  · intro b w1 hb hc hle
    exact (M1 b w.heap.size (w.heap.size + 1) w1 hb ((hc.block _ (by simp <;> omega) (by simp)).trans (by simp [go_sem])) ((hc.block _ (by simp) (by simp)).trans (by simp [go_sem]))).mono fun e w2 ⟨he, hc2⟩ => ⟨he, hc2⟩
  · rintro e w1 ⟨rfl, hc1⟩
    clear M1 T1
    simp only [tupOr]
    go_wp2
    go_ret2
    exact ⟨rfl, (((Ch.refl [] w).alloc _).alloc _).trans hc1⟩
theorem erase_ok (c : BitVec 64) (n : Nat) (h : n < 8) (hf : fullM c &&& laneM n ≠ 0#8) (hok : ctrlOk c = true) (w : World) :
    Calls Tryz.prog 65 #[U c, I n] w fun e w' => e = .returned (.tuple #[U (withB c n (gone c)), I 0]) ∧ Ch [] w w' := by
  have M1 := fun b p w => erase1_yes b p c n h hf w
  have T1 := fun (r : BitVec 64) (cap : Array Value) (w : World) => ctriesw_ok c hok 103 cap (.ok r) w enters_erase
  generalize withB c n (gone c) = r at *
  clear hok hf
  go_enter Tryz.func65, Tryz.ntmps65
  go_wp2_with fail
  refine (T1 r #[.pointer (some ⟨w.heap.size, 0, none⟩)] _ ?_).mono ?_
  · intro b w1 hb hc hle
    exact (M1 b w.heap.size w1 hb ((hc.block _ (by simp) (by simp)).trans (by simp [go_sem]))).mono fun e w2 ⟨he, hc2⟩ => ⟨he, hc2⟩
  · rintro e w1 ⟨rfl, hc1⟩
    clear M1 T1
    simp only [tupOr]
    go_wp2
    go_ret2
    exact ⟨rfl, ((Ch.refl [] w).alloc _).trans hc1⟩
/-- The three sets of a word. -/
def setsOf (c : BitVec 64) : BitVec 8 × BitVec 8 × BitVec 8 := (fullM c, emptyM c, delM c)
theorem sets1_any (b : Nat) (c : BitVec 64) (w : World) (hb : w.heap[b]? = some (.cells #[U c] 143 (0, 0))) :
    Calls Tryz.prog 126 #[.pointer (some ⟨b, 0, none⟩)] w fun e w' => e = .returned (M3 (setsOf c)) ∧ Ch [] w w' := by
  have hbl := (Array.getElem?_eq_some_iff.1 hb).1
  go_enter Tryz.func126, Tryz.ntmps126
  go_wp2_with fail
  obtain ⟨W0, hW0⟩ : ∃ W0, w.alloc (.cells #[.int .u8 0, .int .u8 0, .int .u8 0] 162) = W0 := ⟨_, rfl⟩
  have hC0 : Ch [] w W0 := by rw [← hW0]; exact (Ch.refl [] w).alloc _
  have hz0 : W0.heap.size = w.heap.size + 1 := by rw [← hW0]; simp
  have b0 : W0.heap[w.heap.size]? = some (.cells #[.int .u8 0, .int .u8 0, .int .u8 0] 162 (0, 0)) := by rw [← hW0]; simp [go_sem]
  have hg : ∀ g : Gar W0, (g.1).heap[b]? = some (.cells #[U c] 143 (0, 0)) := fun g => (g.2.block b (by omega) (by simp)).trans ((hC0.block b hbl (by simp)).trans hb)
  rw [hW0]
  clear hW0 hbl hb
  refine wp_region_gar_tail 16 (by kernel_rfl) (by kernel_rfl) ?_
  simp only [List.take_succ_cons, List.take_zero, List.drop_succ_cons, List.drop_zero]
  repeat (go_big_quiet_step ((first | (go_at_call 127; exact garL (full_any _ _)) | (go_at_call 128; exact garL (empty_any _ _)) | (go_at_call 129; exact garL (del_any _ _)))))
  refine wpQuiet_nil ?_
  rintro w1 ⟨g1, hw1⟩
  have hc1 : Ch [] W0 w1 := by rw [hw1]; exact g1.2
  clear hw1 g1
  have b1 : w1.heap[w.heap.size]? = some (.cells #[.int .u8 0, .int .u8 0, .int .u8 0] 162 (0, 0)) := (hc1.block _ (by omega) (by simp)).trans b0
  clear hg b0
  go_wp2
  refine bodyPost_ret (results_cell_row Tryz.results126 _ _ w.heap.size 162 #[Y (fullM c), Y (emptyM c), Y (delM c)] (0, 0) _ rfl ?_ Tryz.underlying162 rfl (by kernel_rfl)) rfl ⟨rfl, ?_⟩
  · simp only [heap_setCell, b1, if_true, Option.map_some, setAt_cells]
    simp
  · exact ((((hC0.trans hc1).setCell (p := ⟨w.heap.size, 0, none⟩) (.inr (by simp)) _).setCell (p := ⟨w.heap.size, 1, none⟩) (.inr (by simp)) _).setCell (p := ⟨w.heap.size, 2, none⟩) (.inr (by simp)) _)
theorem sets_ok (c : BitVec 64) (hok : ctrlOk c = true) (w : World) :
    Calls Tryz.prog 94 #[U c] w fun e w' => e = .returned (.tuple #[Y (fullM c), Y (emptyM c), Y (delM c)]) ∧ Ch [] w w' := by
  have M1 := fun b w => sets1_any b c w
  have T1 := fun (r : BitVec 8 × BitVec 8 × BitVec 8) (cap : Array Value) (w : World) => ctriess_ok c hok 126 cap (.ok r) w enters_sets
  unfold setsOf at M1
  generalize fullM c = rf at *
  generalize emptyM c = re at *
  generalize delM c = rd at *
  clear hok
  go_enter Tryz.func94, Tryz.ntmps94
  go_wp2_with fail
  refine (T1 (rf, re, rd) #[] _ ?_).mono ?_
  · intro b w1 hb hc hle
    exact (M1 b w1 hb).mono fun e w2 ⟨he, hc2⟩ => ⟨he, hc2.of_nil⟩
  · rintro e w1 ⟨rfl, hc1⟩
    clear M1 T1
    simp only [tupOr, M3]
    go_wp2
    go_quiet (fail)
    go_wp2
    go_ret3
    exact ⟨rfl, ((hc1.alloc _).drewN nq)⟩
theorem stops_ok (c : BitVec 64) (hok : ctrlOk c = true) (w : World) :
    Calls Tryz.prog 66 #[U c] w fun e w' => e = .returned (.bool (emptyM c != 0#8)) ∧ Ch [] w w' := by
  have M1 := fun w => sets_ok c hok w
  generalize fullM c = rf at *
  generalize emptyM c = re at *
  generalize delM c = rd at *
  clear hok
  go_enter Tryz.func66, Tryz.ntmps66
  go_wp2_with (go_at_call 94; refine (M1 _).mono ?_; rintro e w1 ⟨rfl, hc1⟩)
  go_ret
  refine ⟨?_, hc1⟩
  rw [← neN]; rfl
end Go.Proofs.Hc
