/- Package ctrl: a lane that is put, filled, erased; the sets of a word. -/
import Derived.Test.YtcikopeddljgkaaGreatJHlan
set_option linter.unusedSimpArgs false
set_option linter.unusedVariables false
set_option maxHeartbeats 1000000
set_option maxRecDepth 100000
namespace Go.Proofs.Hc
open Go.RowKit
attribute [local go_sem] zbu zcc zax zbf zbo zbd zbn zbp zbw signed64 signed8 zap BitVec.ofInt_add BitVec.ofInt_mul ofInt_sub' zbb zbc wide8 eqN neN zca shr1 shr7 shr56
attribute [local go_sem high] zbe zbv
attribute [local go_sem] nn2 nm2 nn3 nm3 nn4 nm4 nn5 nm5 nn6 nm6 nn7 nm7 nn8 nm8
attribute [local go_sem] zao
attribute [local go_sem] zaw zby zaj zas zaf zal
attribute [local go_sem ↓] zae zbk zbg zaa
theorem is_yes (n : Nat) (h : n < 8) (w : World) : Calls Tryz.prog 230 #[I n] w fun e w' => e = .returned (.bool true) ∧ w = w' := by
  go_enter Tryz.func230, Tryz.ntmps230
  go_wp2
  go_ret
  exact ⟨by simp; omega, rfl⟩
theorem get_yes (c : BitVec 64) (n : Nat) (h : n < 8) (w : World) : Calls Tryz.prog 168 #[U c, I n] w fun e w' => e = .returned (.tuple #[Y (byteAt c n), I 0]) ∧ w = w' := by
  go_enter Tryz.func168, Tryz.ntmps168
  go_wp2_with (first
    | (go_at_call 230; refine (is_yes _ h _).mono ?_; rintro e w' ⟨rfl, rfl⟩)
    | (go_at_call 231; refine (word_at_any _ _ _ h).mono ?_; rintro e w' ⟨rfl, rfl⟩))
  go_ret2
  exact ⟨rfl, rfl⟩
theorem lay_yes (b : Nat) (c : BitVec 64) (n : Nat) (x : BitVec 8) (h : n < 8) (w : World) (hb : w.heap[b]? = some (.cells #[U c] 352 (0, 0))) :
    Calls Tryz.prog 318 #[.pointer (some ⟨b, 0, none⟩), I n, Y x] w fun e w' => e = .returned (.bool true) ∧ Ch [b] w w' ∧ w'.heap[b]? = some (.cells #[U (withB c n x)] 352 (0, 0)) := by
  go_enter Tryz.func318, Tryz.ntmps318
  go_wp2_with (first
    | (go_at_call 230; refine (is_yes _ h _).mono ?_; rintro e w' ⟨rfl, rfl⟩)
    | (go_at_call 321; refine (with_any _ _ _ _ h).mono ?_; rintro e w1 ⟨rfl, hc1⟩; have hb1 := (hc1.block b (Array.getElem?_eq_some_iff.1 hb).1 (by simp)).trans hb))
  go_ret
  refine ⟨rfl, (hc1.of_nil).setCell (p := ⟨b, 0, none⟩) (.inl (by simp)) _, ?_⟩
  rw [zaa, if_pos rfl, hb1]; rfl
theorem put1_yes (c : BitVec 64) (x : BitVec 8) (n : Nat) (h : n < 8) (g : Nat) (w : World) (hg : w.heap[g]? = some (.cells #[I n] 3 (0, 0))) :
    Calls Tryz.prog 306 #[U c, Y x, .slice (some ⟨g, 0, none⟩) 1 1] w fun e w' => e = .returned (.tuple #[U (withB c n x), I 0]) ∧ Ch [] w w' := by
  have hgn : (g = w.heap.size) = False := by have := (Array.getElem?_eq_some_iff.1 hg).1; simp; omega
  go_enter Tryz.func306, Tryz.ntmps306
  go_wp2
  go_step3
  go_wp2
  go_step3
  go_wp2_with fail
  refine wp_loop_rounds 2 ?_
  rw [rounds_succ]
  go_wp2_with fail
  refine (lay_yes w.heap.size c n x h _ (by simp [go_sem])).mono ?_
  rintro e w1 ⟨rfl, hc1, hb1⟩
  go_wp2_with fail
  rw [rounds_succ]
  go_wp2_with fail
  rw [Exit.noGoto_ret]
  go_ret2
  exact ⟨rfl, ((Ch.refl [] w).alloc _).trans2 hc1 (by simp)⟩
def laneM (n : Nat) : BitVec 8 := 1#8 <<< n
theorem zbq (n : Nat) : BitVec.ofInt 8 (2 ^ n) = laneM n := by
  have h2 : ((2 : Int) ^ n) = ((2 ^ n : Nat) : Int) := by simp
  unfold laneM
  rw [h2, BitVec.ofInt_natCast]
  apply BitVec.eq_of_toNat_eq; simp [Nat.shiftLeft_eq]
attribute [local go_sem] zbq
theorem clane_yes (b : Nat) (n : Nat) (h : n < 8) (w : World) : Calls Tryz.prog 270 #[.pointer (some ⟨b, 0, none⟩), I n] w fun e w' => e = .returned (Y (laneM n)) ∧ w = w' := by
  have hd : decide ((n : Int) < 8) = true := by simp; omega
  go_enter Tryz.func270, Tryz.ntmps270
  go_wp2_with (go_at_call 263; refine (cneed_yes _ _).mono ?_; rintro e w' ⟨rfl, rfl⟩)
  go_ret
  exact ⟨rfl, rfl⟩
theorem cput_yes (b : Nat) (c : BitVec 64) (n : Nat) (x : BitVec 8) (h : n < 8) (w : World) (hb : w.heap[b]? = some (.cells #[U c] 299 (0, 0))) :
    Calls Tryz.prog 271 #[.pointer (some ⟨b, 0, none⟩), I n, Y x] w fun e w' => e = .returned (.tuple #[]) ∧ Ch [b] w w' ∧ w'.heap[b]? = some (.cells #[U (withB c n x)] 299 (0, 0)) := by
  have hb1 := (Array.getElem?_eq_some_iff.1 hb).1
  have hbn : (b = w.heap.size) = False := by simp; omega
  clear hb1
  go_enter Tryz.func271, Tryz.ntmps271
  go_wp2_with fail
  refine (put1_yes c x n h w.heap.size _ (by simp [go_sem])).mono ?_
  rintro e w1 ⟨rfl, hc1⟩
  have hb2 : w1.heap[b]? = some (.cells #[U c] 299 (0, 0)) := by
    have hb1 := (Array.getElem?_eq_some_iff.1 hb).1
    exact (hc1.block b (by simp; omega) (by simp)).trans (by rw [zae, if_neg (by omega)]; exact hb)
  go_wp2_with (go_at_call 263; refine (cneed_yes _ _).mono ?_; rintro e w' ⟨rfl, rfl⟩)
  go_end0
  refine ⟨rfl, ((((Ch.refl [] w).alloc _).pure hc1).of_nil).setCell (p := ⟨b, 0, none⟩) (.inl (by simp)) _, ?_⟩
  rw [zaa, if_pos rfl, hb2]; rfl
theorem cfill_yes (b : Nat) (c : BitVec 64) (n : Nat) (x : BitVec 8) (h : n < 8) (hx : N x ≤ 127) (hf : fullM c &&& laneM n = 0#8) (w : World) (hb : w.heap[b]? = some (.cells #[U c] 299 (0, 0))) :
    Calls Tryz.prog 268 #[.pointer (some ⟨b, 0, none⟩), I n, Y x] w fun e w' => e = .returned (.tuple #[]) ∧ Ch [b] w w' ∧ w'.heap[b]? = some (.cells #[U (withB c n x)] 299 (0, 0)) := by
  have hz : (N (fullM c &&& laneM n) == 0) = true := by rw [hf]; decide
  have hd : decide (N x ≤ 127) = true := by simpa using hx
  clear hf
  go_enter Tryz.func268, Tryz.ntmps268
  go_wp2_with (first
    | (go_at_call 263; refine (cneed_yes _ _).mono ?_; rintro e w' ⟨rfl, rfl⟩)
    | (go_at_call 270; refine (clane_yes _ _ h _).mono ?_; rintro e w' ⟨rfl, rfl⟩)
    | (go_at_call 224; refine (full_any _ _).mono ?_; rintro e w' ⟨rfl, rfl⟩)
    | (go_at_call 271; refine (cput_yes b c n x h _ hb).mono ?_; rintro e w1 ⟨rfl, hc1, hb1⟩))
  go_end0
  exact ⟨rfl, hc1, hb1⟩
theorem cnew_any (w : World) : Calls Tryz.prog 143 #[] w fun e w' => e = .returned (U tops) ∧ w = w' := by
  have F1 : ∀ w, Calls Tryz.prog 216 #[.int .u8 128] w fun e w' => e = .returned (U tops) ∧ w = w' := fun w => (fillB_any 128#8 w).mono fun e w' ⟨he, hw⟩ => ⟨by rw [he]; rfl, hw⟩
  go_enter Tryz.func143, Tryz.ntmps143
  go_wp2_with (go_at_call 216; refine (F1 _).mono ?_; rintro e w' ⟨rfl, rfl⟩)
  go_ret
  exact ⟨rfl, rfl⟩
end Go.Proofs.Hc
namespace Go.Proofs.Hc
open Go.RowKit
attribute [local go_sem] zbu zcc zax zbf zbo zbd zbn zbp zbw signed64 signed8 zap BitVec.ofInt_add BitVec.ofInt_mul ofInt_sub' zbb zbc wide8 eqN neN zca shr1 shr7 shr56
attribute [local go_sem high] zbe zbv
attribute [local go_sem] nn2 nm2 nn3 nm3 nn4 nm4 nn5 nm5 nn6 nm6 nn7 nm7 nn8 nm8
attribute [local go_sem] zao
attribute [local go_sem] zaw zby zaj zas zaf zal
attribute [local go_sem ↓] zae zbk zbg zaa
theorem enters_fill (args : Array Value) (w : World) : (callFunc 267 args).run Tryz.prog w = .ok (.enter 267 args) w := by kernel_rfl
theorem enters_sets (args : Array Value) (w : World) : (callFunc 228 args).run Tryz.prog w = .ok (.enter 228 args) w := by kernel_rfl
theorem fill1_yes (b p q : Nat) (c : BitVec 64) (n : Nat) (x : BitVec 8) (h : n < 8) (hx : N x ≤ 127) (hf : fullM c &&& laneM n = 0#8) (w : World) (hb : w.heap[b]? = some (.cells #[U c] 299 (0, 0)))
    (hp : w.heap[p]? = some (.cells #[I n] 3 (0, 0))) (hq : w.heap[q]? = some (.cells #[Y x] 5 (0, 0))) :
    Calls Tryz.prog 267 #[.pointer (some ⟨b, 0, none⟩), .pointer (some ⟨p, 0, none⟩), .pointer (some ⟨q, 0, none⟩)] w fun e w' => e = .returned (U (withB c n x)) ∧ Ch [b] w w' := by
  go_enter Tryz.func267, Tryz.ntmps267
  go_wp2_with (go_at_call 268; refine (cfill_yes b c n x h hx hf _ hb).mono ?_; rintro e w1 ⟨rfl, hc1, hb1⟩)
  go_ret
  exact ⟨rfl, hc1⟩
theorem fill_ok (c : BitVec 64) (n : Nat) (x : BitVec 8) (h : n < 8) (hx : N x ≤ 127) (hf : fullM c &&& laneM n = 0#8) (hok : ctrlOk c = true) (w : World) :
    Calls Tryz.prog 211 #[U c, I n, Y x] w fun e w' => e = .returned (.tuple #[U (withB c n x), I 0]) ∧ Ch [] w w' := by
  have M1 := fun b p q w => fill1_yes b p q c n x h hx hf w
  have T1 := fun (r : BitVec 64) (cap : Array Value) (w : World) => ctriesw_ok c hok 267 cap (.ok r) w enters_fill
  generalize withB c n x = r at *
  clear hok hx hf
  go_enter Tryz.func211, Tryz.ntmps211
  go_wp2_with fail
  refine (T1 r #[.pointer (some ⟨w.heap.size, 0, none⟩), .pointer (some ⟨w.heap.size + 1, 0, none⟩)] _ ?_).mono ?_
  · intro b w1 hb hc hle
    exact (M1 b w.heap.size (w.heap.size + 1) w1 hb ((hc.block _ (by simp <;> omega) (by simp)).trans (by simp [go_sem])) ((hc.block _ (by simp) (by simp)).trans (by simp [go_sem]))).mono fun e w2 ⟨he, hc2⟩ => ⟨he, hc2⟩
  · rintro e w1 ⟨rfl, hc1⟩
    clear M1 T1
    simp only [tupOr]
    go_wp2
    go_ret2
    exact ⟨rfl, (((Ch.refl [] w).alloc _).alloc _).trans hc1⟩
def setsOf (c : BitVec 64) : BitVec 8 × BitVec 8 × BitVec 8 := (fullM c, emptyM c, delM c)
theorem sets1_any (b : Nat) (c : BitVec 64) (w : World) (hb : w.heap[b]? = some (.cells #[U c] 299 (0, 0))) :
    Calls Tryz.prog 228 #[.pointer (some ⟨b, 0, none⟩)] w fun e w' => e = .returned (M3 (setsOf c)) ∧ Ch [] w w' := by
  have hbl := (Array.getElem?_eq_some_iff.1 hb).1
  go_enter Tryz.func228, Tryz.ntmps228
  go_wp2_with fail
  obtain ⟨W0, hW0⟩ : ∃ W0, w.alloc (.cells #[.int .u8 0, .int .u8 0, .int .u8 0] 307) = W0 := ⟨_, rfl⟩
  have hC0 : Ch [] w W0 := by rw [← hW0]; exact (Ch.refl [] w).alloc _
  have hz0 : W0.heap.size = w.heap.size + 1 := by rw [← hW0]; simp
  have b0 : W0.heap[w.heap.size]? = some (.cells #[.int .u8 0, .int .u8 0, .int .u8 0] 307 (0, 0)) := by rw [← hW0]; simp [go_sem]
  have hg : ∀ g : Gar W0, (g.1).heap[b]? = some (.cells #[U c] 299 (0, 0)) := fun g => (g.2.block b (by omega) (by simp)).trans ((hC0.block b hbl (by simp)).trans hb)
  rw [hW0]
  clear hW0 hbl hb
  refine zdb 16 (by kernel_rfl) (by kernel_rfl) ?_
  simp only [List.take_succ_cons, List.take_zero, List.drop_succ_cons, List.drop_zero]
  repeat (go_big_quiet_step ((first | (go_at_call 224; exact garL (full_any _ _)) | (go_at_call 225; exact garL (empty_any _ _)) | (go_at_call 226; exact garL (del_any _ _)))))
  refine wpQuiet_nil ?_
  rintro w1 ⟨g1, hw1⟩
  have hc1 : Ch [] W0 w1 := by rw [hw1]; exact g1.2
  clear hw1 g1
  have b1 : w1.heap[w.heap.size]? = some (.cells #[.int .u8 0, .int .u8 0, .int .u8 0] 307 (0, 0)) := (hc1.block _ (by omega) (by simp)).trans b0
  clear hg b0
  go_wp2
  refine bodyPost_ret (results_cell_row Tryz.results228 _ _ w.heap.size 307 #[Y (fullM c), Y (emptyM c), Y (delM c)] (0, 0) _ rfl ?_ Tryz.underlying307 rfl (by kernel_rfl)) rfl ⟨rfl, ?_⟩
  · simp only [zaa, b1, if_true, Option.map_some, zaf]
    simp
  · exact ((((hC0.trans hc1).setCell (p := ⟨w.heap.size, 0, none⟩) (.inr (by simp)) _).setCell (p := ⟨w.heap.size, 1, none⟩) (.inr (by simp)) _).setCell (p := ⟨w.heap.size, 2, none⟩) (.inr (by simp)) _)
theorem sets_ok (c : BitVec 64) (hok : ctrlOk c = true) (w : World) :
    Calls Tryz.prog 166 #[U c] w fun e w' => e = .returned (.tuple #[Y (fullM c), Y (emptyM c), Y (delM c)]) ∧ Ch [] w w' := by
  have M1 := fun b w => sets1_any b c w
  have T1 := fun (r : BitVec 8 × BitVec 8 × BitVec 8) (cap : Array Value) (w : World) => ctriess_ok c hok 228 cap (.ok r) w enters_sets
  unfold setsOf at M1
  generalize fullM c = rf at *
  generalize emptyM c = re at *
  generalize delM c = rd at *
  clear hok
  go_enter Tryz.func166, Tryz.ntmps166
  go_wp2_with fail
  refine (T1 (rf, re, rd) #[] _ ?_).mono ?_
  · intro b w1 hb hc hle
    exact (M1 b w1 hb).mono fun e w2 ⟨he, hc2⟩ => ⟨he, hc2.of_nil⟩
  · rintro e w1 ⟨rfl, hc1⟩
    clear M1 T1
    simp only [tupOr, M3]
    go_wp2
    go_quiet (fail)
    go_wp2
    go_ret3
    exact ⟨rfl, ((hc1.alloc _).drewN nq)⟩
theorem stops_ok (c : BitVec 64) (hok : ctrlOk c = true) (w : World) :
    Calls Tryz.prog 139 #[U c] w fun e w' => e = .returned (.bool (emptyM c != 0#8)) ∧ Ch [] w w' := by
  have M1 := fun w => sets_ok c hok w
  generalize fullM c = rf at *
  generalize emptyM c = re at *
  generalize delM c = rd at *
  clear hok
  go_enter Tryz.func139, Tryz.ntmps139
  go_wp2_with (go_at_call 166; refine (M1 _).mono ?_; rintro e w1 ⟨rfl, hc1⟩)
  go_ret
  refine ⟨?_, hc1⟩
  rw [← neN]; rfl
end Go.Proofs.Hc
namespace Go.Proofs.Hc
open Go.RowKit
attribute [local go_sem] zbu zcc zax zbf zbo zbd zbn zbp zbw signed64 signed8 zap BitVec.ofInt_add BitVec.ofInt_mul ofInt_sub' zbb zbc wide8 eqN neN zca shr1 shr7 shr56
attribute [local go_sem high] zbe zbv
attribute [local go_sem] zaw zby zaj zas zaf zaz zar zak zbm zal zay zba
attribute [local go_sem] load26 load73 load23 store26 build73
attribute [local go_sem ↓] lrow26 lrow73 lrow23 srow26 zero26 brow73 zae zbk zbg zaa zab
attribute [local go_sem] zai zav zat zbj zbl zbr zaq zau zbs zbi zbh
attribute [local go_sem] nn2 nm2 nn3 nm3 nn4 nm4 nn5 nm5 nn6 nm6 nn7 nm7 nn8 nm8
section
attribute [local go_sem] zap
def accB (l : List (BitVec 8)) : BitVec 64 := l.foldr (fun b y => 256#64 * y + b.setWidth 64) 0#64
theorem acc_zero (y : BitVec 64) (b : BitVec 8) : byteAt (256#64 * y + b.setWidth 64) 0 = b := by
  apply BitVec.eq_of_toNat_eq
  rw [byteAt_nat, BitVec.toNat_add, BitVec.toNat_mul, BitVec.toNat_setWidth, BitVec.toNat_ofNat]
  have := b.isLt
  have := y.isLt
  omega
theorem acc_succ (y : BitVec 64) (b : BitVec 8) : ∀ n, n < 7 → byteAt (256#64 * y + b.setWidth 64) (n + 1) = byteAt y n := by
  intro n hn
  apply BitVec.eq_of_toNat_eq
  rw [byteAt_nat, byteAt_nat, BitVec.toNat_add, BitVec.toNat_mul, BitVec.toNat_setWidth, BitVec.toNat_ofNat]
  have hb := b.isLt
  have hy := y.isLt
  generalize b.toNat = b at *
  generalize y.toNat = y at *
  match n, hn with
  | 0, _ => omega
  | 1, _ => omega
  | 2, _ => omega
  | 3, _ => omega
  | 4, _ => omega
  | 5, _ => omega
  | 6, _ => omega
theorem acc_byte : ∀ (l : List (BitVec 8)) (n : Nat), n < 8 → byteAt (accB l) n = (l[n]?).getD 0#8
  | [], n, hn => by
    have e : accB [] = 0#64 := rfl
    rw [e]
    apply BitVec.eq_of_toNat_eq
    rw [byteAt_nat]; simp
  | b :: l, 0, _ => acc_zero (accB l) b
  | b :: l, n + 1, hn => by
    have e : accB (b :: l) = 256#64 * accB l + b.setWidth 64 := rfl
    rw [e, acc_succ _ _ _ (by omega), acc_byte l n (by omega)]
    simp
theorem bytesOf_len (x : BitVec 64) : (bytesOf x).length = 8 := by simp [bytesOf]
theorem bytesOf_get (x : BitVec 64) (n : Nat) (h : n < 8) : (bytesOf x)[n]? = some (byteAt x n) := by
  unfold bytesOf
  rw [List.getElem?_map, List.getElem?_range h]; rfl
theorem acc_put (x : BitVec 64) (n : Nat) (hn : n < 8) (b : BitVec 8) : accB ((bytesOf x).set n b) = withB x n b := by
  apply ext_bytes
  intro m hm
  rw [acc_byte _ m hm, byteAt_withB x n m b hn hm, List.getElem?_set]
  by_cases h : n = m
  · subst h
    rw [if_pos rfl, if_pos rfl, if_pos (by rw [bytesOf_len]; exact hn)]; rfl
  · rw [if_neg h, if_neg (fun e => h e.symm), bytesOf_get x m hm]; rfl
theorem acc_drop {l : List (BitVec 8)} {k : Nat} {b : BitVec 8} (h : l[k]? = some b) : accB (l.drop k) = 256#64 * accB (l.drop (k + 1)) + b.setWidth 64 := by
  have hk := (List.getElem?_eq_some_iff.1 h).1
  have e : l.drop k = b :: l.drop (k + 1) := by
    rw [List.drop_eq_getElem_cons hk]
    have := (List.getElem?_eq_some_iff.1 h).2
    rw [this]
  rw [e]; rfl
theorem rOf_any (l : List (BitVec 8)) (hl : l.length ≤ 8) (g c : Nat) (cur : Array Value) (w : World) (hW : w.heap[g]? = some (.cells cur 5 (0, 0))) (hcur : ∀ (j : Nat) (b : BitVec 8), l[j]? = some b → cur[j]? = some (Y b)) :
    Calls Tryz.prog 156 #[.slice (some ⟨g, 0, none⟩) l.length c] w fun e w' => e = .returned (U (accB l)) ∧ w = w' := by
  have HC := Lib.hid hcur
  clear hcur
  go_enter Tryz.func156, Tryz.ntmps156
  go_wp2
  go_loop [3, 4] (fun v i => ∃ (j : Nat) (x : Int), j ≤ l.length ∧ x + 1 = j ∧ i = .int .i64 x ∧ v = U (accB (l.drop j))) (fun _ i => (intOf i + 1).toNat)
  case atStart => exact ⟨l.length, _, Nat.le_refl _, by omega, rfl, by rw [List.drop_length]; rfl⟩
  case round =>
    obtain ⟨j, x, hj, hx, rfl, rfl⟩ := hrel
    cases j with
    | zero =>
      obtain rfl : x = -1 := by omega
      go_wp2
      go_ret
      exact ⟨rfl, rfl⟩
    | succ k =>
      obtain rfl : x = (k : Int) := by omega
      have hlt : k < l.length := by omega
      have hk8 : k < 8 := by omega
      obtain ⟨b, hb⟩ : ∃ b, l[k]? = some b := ⟨l[k]'hlt, List.getElem?_eq_getElem hlt⟩
      have hc := HC.out k b hb
      have HD := Lib.hid (acc_drop hb)
      clear hb hx
      go_wp2
      go_round
      case rel => exact ⟨k, _, by omega, by omega, rfl, by rw [HD.out]⟩
      case measure => simp [intOf]
end
section
attribute [local go_sem] zap
theorem rPut_any (x : BitVec 64) (b : BitVec 8) (n : Nat) (hn : n < 8) (w : World) : Calls Tryz.prog 158 #[U x, Y b, I n] w fun e w' => e = .returned (U (withB x n b)) ∧ Ch [] w w' := by
  have HE := Lib.hid (acc_put x n hn b)
  go_enter Tryz.func158, Tryz.ntmps158
  go_wp2_with fail
  refine (rBytes_any x w).mono ?_
  rintro e w1 ⟨a, c, rfl, hown, hc1⟩
  obtain ⟨_, ⟨hv, h0⟩ | ⟨g, cap, cur, hv, hg, hW, hle, _, hsz, hx⟩⟩ := hown
  · cases hv
  · simp only [Value.slice.injEq] at hv
    obtain ⟨rfl, -, rfl⟩ := hv
    have hnc : n < cur.size := by omega
    have hC : Ch [] w (w1.setCell ⟨g, n, none⟩ (Y b)) := hc1.setCell (p := ⟨g, n, none⟩) (.inr hg) _
    have O1 := rOf_any ((bytesOf x).set n b) (by rw [List.length_set, bytesOf_len]; omega) g c (cur.setIfInBounds n (Y b)) (w1.setCell ⟨g, n, none⟩ (Y b)) (by rw [zaa, if_pos rfl, hW]; rfl) (fun j y hj => by
      rw [List.getElem?_set] at hj
      rw [Array.getElem?_setIfInBounds]
      by_cases h : n = j
      · subst h
        rw [if_pos rfl, if_pos (by rw [bytesOf_len]; exact hn)] at hj
        rw [if_pos rfl, if_pos hnc]
        rw [← Option.some.inj hj]
      · rw [if_neg h] at hj ⊢
        have h1 : (ycells (bytesOf x))[j]? = some (Y y) := by unfold ycells; rw [List.getElem?_map, hj]; rfl
        rw [← hx, List.getElem?_take] at h1
        split at h1
        · simpa using h1
        · cases h1)
    rw [List.length_set, bytesOf_len, HE.out] at O1
    have hn0 : (0 : Int) ≤ (n : Int) := by omega
    have hn8 : (n : Int) < 8 := by omega
    have hsome : cur[n]? = some (cur[n]'hnc) := Array.getElem?_eq_getElem hnc
    have HC := Lib.hid hC
    clear hx hle hg hsz hC hc1
    go_wp2_with (go_at_call 156; refine O1.mono ?_; rintro e w' ⟨rfl, rfl⟩)
    go_ret
    exact ⟨rfl, HC.out⟩
theorem two_mul8 (n : Nat) : BitVec.ofInt 8 (2 * N (laneM n)) = laneM (n + 1) := by
  unfold laneM
  rw [BitVec.ofInt_mul, zap]
  apply BitVec.eq_of_toNat_eq
  rw [BitVec.toNat_mul, BitVec.toNat_shiftLeft, BitVec.toNat_shiftLeft, Nat.shiftLeft_eq, Nat.shiftLeft_eq, Nat.pow_succ]
  show (2 * (1 * 2 ^ n % 256)) % 256 = 1 * (2 ^ n * 2) % 256
  omega
theorem rWith_any (m : BitVec 8) (n : Nat) (hn : n ≤ 64) (w : World) : Calls Tryz.prog 274 #[Y m, I n] w fun e w' => e = .returned (Y (m + laneM n)) ∧ w = w' := by
  go_enter Tryz.func274, Tryz.ntmps274
  go_wp2
  go_loop [5, 7] (fun v i => ∃ j : Nat, j ≤ n ∧ i = .int .i64 j ∧ v = Y (laneM j)) (fun _ i => n - (intOf i).toNat)
  case atStart => exact ⟨0, Nat.zero_le _, rfl, rfl⟩
  case round =>
    obtain ⟨j, hj, rfl, rfl⟩ := hrel
    by_cases hlt : j < n
    · have HS := Lib.hid (two_mul8 j)
      go_wp2
      go_round
      case rel => exact ⟨j + 1, by omega, by go_num, by first | rw [HS.out] | (rw [← HS.out]; rfl) | (rw [← HS.out, BitVec.ofInt_mul, zap]; rfl)⟩
      case measure => simp [intOf]; omega
    · have hjn : j = n := by omega
      have HJ := Lib.hid hjn
      clear hjn
      go_wp2
      go_ret
      refine ⟨?_, rfl⟩
      rw [← HJ.out]; rfl
end
section
attribute [local go_sem] zap
theorem Y128 (b : BitVec 8) : (N b == 128) = (b == 128#8) := by rw [← eqN]; rfl
theorem rFull9_any (x : BitVec 64) (n : Nat) (hn : n ≤ 64) (w : World) : Calls Tryz.prog 218 #[U x, I n] w fun e w' => e = .returned (.bool (decide ((byteAt x n).toNat < 128))) ∧ w = w' := by
  have A1 := fun w => rAt_any x n hn w
  have HD : Hid (decide (N (byteAt x n) < 128) = decide ((byteAt x n).toNat < 128)) := Lib.hid (by rw [decide_eq_decide]; unfold N; omega)
  generalize byteAt x n = y at *
  go_enter Tryz.func218, Tryz.ntmps218
  go_wp2_with (go_at_call 88; refine (A1 _).mono ?_; rintro e w' ⟨rfl, rfl⟩)
  all_goals
    go_ret
    refine ⟨?_, rfl⟩
    first | (rw [← HD.out]; rfl) | (rw [← HD.out]; simp; omega)
def setM (p : Nat → Bool) : Nat → BitVec 8
  | 0 => 0#8
  | j + 1 => if p j then setM p j + laneM j else setM p j
theorem setM_ne (p : Nat → Bool) : (setM p 8 != 0#8) = (p 0 || p 1 || p 2 || p 3 || p 4 || p 5 || p 6 || p 7) := by
  simp only [setM]
  generalize p 0 = a0, p 1 = a1, p 2 = a2, p 3 = a3, p 4 = a4, p 5 = a5, p 6 = a6, p 7 = a7
  revert a0 a1 a2 a3 a4 a5 a6 a7
  decide
theorem setM_empty (c : BitVec 64) : (setM (fun n => byteAt c n == 128#8) 8 != 0#8) = (emptyM c != 0#8) := by
  rw [setM_ne]
  have h : ∀ m : BitVec 8, (m != 0#8) = (m.getLsbD 0 || m.getLsbD 1 || m.getLsbD 2 || m.getLsbD 3 || m.getLsbD 4 || m.getLsbD 5 || m.getLsbD 6 || m.getLsbD 7) := by decide +kernel
  rw [h]
  simp only [emptyM_bit c _ (show 0 < 8 by omega), emptyM_bit c _ (show 1 < 8 by omega), emptyM_bit c _ (show 2 < 8 by omega), emptyM_bit c _ (show 3 < 8 by omega), emptyM_bit c _ (show 4 < 8 by omega), emptyM_bit c _ (show 5 < 8 by omega), emptyM_bit c _ (show 6 < 8 by omega), emptyM_bit c _ (show 7 < 8 by omega)]
theorem rSet1_any (c : BitVec 64) (w : World) : Calls Tryz.prog 222 #[U c, .int .i64 1] w fun e w' => e = .returned (Y (setM (fun n => byteAt c n == 128#8) 8)) ∧ w = w' := by
  go_enter Tryz.func222, Tryz.ntmps222
  go_wp2
  go_loop [5, 8] (fun v i => ∃ j : Nat, j ≤ 8 ∧ i = .int .i64 j ∧ v = Y (setM (fun n => byteAt c n == 128#8) j)) (fun _ i => 8 - (intOf i).toNat)
  case atStart => exact ⟨0, by omega, rfl, rfl⟩
  case round =>
    obtain ⟨j, hj, rfl, rfl⟩ := hrel
    by_cases hlt : j < 8
    · have A1 := fun w => rAt_any c j (by omega) w
      have e1 := Y128 (byteAt c j)
      have HS : Hid (setM (fun n => byteAt c n == 128#8) (j + 1) = if byteAt c j == 128#8 then setM (fun n => byteAt c n == 128#8) j + laneM j else setM (fun n => byteAt c n == 128#8) j) := Lib.hid rfl
      have W1 := fun w => rWith_any (setM (fun n => byteAt c n == 128#8) j) j (by omega) w
      generalize setM (fun n => byteAt c n == 128#8) j = m at *
      cases hy : (byteAt c j == 128#8)
      all_goals
        rw [hy] at e1 HS
        clear hy
        generalize byteAt c j = y at *
        go_wp2_with (first
          | (go_at_call 88; refine (A1 _).mono ?_; rintro e w' ⟨rfl, rfl⟩)
          | (go_at_call 274; refine (W1 _).mono ?_; rintro e w' ⟨rfl, rfl⟩))
        go_round
        case rel => exact ⟨j + 1, by omega, by go_num, by rw [HS.out]; simp⟩
        case measure => simp [intOf]; omega
    · have hjn : j = 8 := by omega
      subst hjn
      go_wp2
      go_ret
      exact ⟨rfl, rfl⟩
end
end Go.Proofs.Hc
