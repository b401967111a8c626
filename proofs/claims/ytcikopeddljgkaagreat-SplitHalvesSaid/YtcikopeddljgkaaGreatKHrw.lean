/- Package ctrl: a lane that is put, filled, erased; the sets of a word. -/
import Derived.Test.YtcikopeddljgkaaGreatKHea
import Derived.Test.YtcikopeddljgkaaGreatKHlan
import Derived.Test.YtcikopeddljgkaaGreatKHrx
set_option linter.unusedSimpArgs false
set_option linter.unusedVariables false
set_option maxHeartbeats 4000000
set_option maxRecDepth 100000
namespace Go.Proofs.Hc
open Go.RowKit
attribute [local go_sem] zbr zcd zat zaz zbn zax zbm zbo zbw signed64 signed8 zar BitVec.ofInt_add BitVec.ofInt_mul ofInt_sub' zav zaw wide8 eqN neN zcc shr1 shr7 shr56
attribute [local go_sem high] zay zbv
attribute [local go_sem] nn2 nm2 nn3 nm3 nn4 nm4 nn5 nm5 nn6 nm6 nn7 nm7 nn8 nm8
attribute [local go_sem] zak
attribute [local go_sem] zau zbx zai zal zac zaj
attribute [local go_sem ↓] zab zba zbb zaa
theorem is_yes (n : Nat) (h : n < 8) (w : World) : Calls Tryz.prog 230 #[I n] w fun e w' => e = .returned (.bool true) ∧ w = w' := by
  go_enter Tryz.func230, Tryz.ntmps230
  go_wp2
  go_ret
  exact ⟨by simp; omega, rfl⟩
theorem get_yes (c : BitVec 64) (n : Nat) (h : n < 8) (w : World) : Calls Tryz.prog 168 #[U c, I n] w fun e w' => e = .returned (.tuple #[Y (byteAt c n), I 0]) ∧ w = w' := by
  go_enter Tryz.func168, Tryz.ntmps168
  go_wp2_with (first
    | (go_at_call 230; refine (is_yes _ h _).mono ?_; rintro e w' ⟨rfl, rfl⟩)
    | (go_at_call 231; refine (word_at_any _ _ _ h).mono ?_; rintro e w' ⟨rfl, rfl⟩))
  go_ret2
  exact ⟨rfl, rfl⟩
theorem lay_yes (b : Nat) (c : BitVec 64) (n : Nat) (x : BitVec 8) (h : n < 8) (w : World) (hb : w.heap[b]? = some (.cells #[U c] 352 (0, 0))) :
    Calls Tryz.prog 318 #[.pointer (some ⟨b, 0, none⟩), I n, Y x] w fun e w' => e = .returned (.bool true) ∧ Ch [b] w w' ∧ w'.heap[b]? = some (.cells #[U (withB c n x)] 352 (0, 0)) := by
  go_enter Tryz.func318, Tryz.ntmps318
  go_wp2_with (first
    | (go_at_call 230; refine (is_yes _ h _).mono ?_; rintro e w' ⟨rfl, rfl⟩)
    | (go_at_call 321; refine (with_any _ _ _ _ h).mono ?_; rintro e w1 ⟨rfl, hc1⟩; have hb1 := (hc1.block b (Array.getElem?_eq_some_iff.1 hb).1 (by simp)).trans hb))
  go_ret
  refine ⟨rfl, (hc1.of_nil).setCell (p := ⟨b, 0, none⟩) (.inl (by simp)) _, ?_⟩
  rw [zaa, if_pos rfl, hb1]; rfl
theorem put1_yes (c : BitVec 64) (x : BitVec 8) (n : Nat) (h : n < 8) (g : Nat) (w : World) (hg : w.heap[g]? = some (.cells #[I n] 3 (0, 0))) :
    Calls Tryz.prog 306 #[U c, Y x, .slice (some ⟨g, 0, none⟩) 1 1] w fun e w' => e = .returned (.tuple #[U (withB c n x), I 0]) ∧ Ch [] w w' := by
  have hgn : (g = w.heap.size) = False := by have := (Array.getElem?_eq_some_iff.1 hg).1; simp; omega
  go_enter Tryz.func306, Tryz.ntmps306
  go_wp2
  go_step3
  go_wp2
  go_step3
  go_wp2_with fail
  refine wp_loop_rounds 2 ?_
  rw [rounds_succ]
  go_wp2_with fail
  refine (lay_yes w.heap.size c n x h _ (by simp [go_sem])).mono ?_
  rintro e w1 ⟨rfl, hc1, hb1⟩
  go_wp2_with fail
  rw [rounds_succ]
  go_wp2_with fail
  rw [Exit.noGoto_ret]
  go_ret2
  exact ⟨rfl, ((Ch.refl [] w).alloc _).trans2 hc1 (by simp)⟩
def laneM (n : Nat) : BitVec 8 := 1#8 <<< n
theorem zbj (n : Nat) : BitVec.ofInt 8 (2 ^ n) = laneM n := by
  have h2 : ((2 : Int) ^ n) = ((2 ^ n : Nat) : Int) := by simp
  unfold laneM
  rw [h2, BitVec.ofInt_natCast]
  apply BitVec.eq_of_toNat_eq; simp [Nat.shiftLeft_eq]
attribute [local go_sem] zbj
theorem clane_yes (b : Nat) (n : Nat) (h : n < 8) (w : World) : Calls Tryz.prog 270 #[.pointer (some ⟨b, 0, none⟩), I n] w fun e w' => e = .returned (Y (laneM n)) ∧ w = w' := by
  have hd : decide ((n : Int) < 8) = true := by simp; omega
  go_enter Tryz.func270, Tryz.ntmps270
  go_wp2_with (go_at_call 263; refine (cneed_yes _ _).mono ?_; rintro e w' ⟨rfl, rfl⟩)
  go_ret
  exact ⟨rfl, rfl⟩
theorem cput_yes (b : Nat) (c : BitVec 64) (n : Nat) (x : BitVec 8) (h : n < 8) (w : World) (hb : w.heap[b]? = some (.cells #[U c] 299 (0, 0))) :
    Calls Tryz.prog 271 #[.pointer (some ⟨b, 0, none⟩), I n, Y x] w fun e w' => e = .returned (.tuple #[]) ∧ Ch [b] w w' ∧ w'.heap[b]? = some (.cells #[U (withB c n x)] 299 (0, 0)) := by
  have hb1 := (Array.getElem?_eq_some_iff.1 hb).1
  have hbn : (b = w.heap.size) = False := by simp; omega
  clear hb1
  go_enter Tryz.func271, Tryz.ntmps271
  go_wp2_with fail
  refine (put1_yes c x n h w.heap.size _ (by simp [go_sem])).mono ?_
  rintro e w1 ⟨rfl, hc1⟩
  have hb2 : w1.heap[b]? = some (.cells #[U c] 299 (0, 0)) := by
    have hb1 := (Array.getElem?_eq_some_iff.1 hb).1
    exact (hc1.block b (by simp; omega) (by simp)).trans (by rw [zab, if_neg (by omega)]; exact hb)
  go_wp2_with (go_at_call 263; refine (cneed_yes _ _).mono ?_; rintro e w' ⟨rfl, rfl⟩)
  go_end0
  refine ⟨rfl, ((((Ch.refl [] w).alloc _).pure hc1).of_nil).setCell (p := ⟨b, 0, none⟩) (.inl (by simp)) _, ?_⟩
  rw [zaa, if_pos rfl, hb2]; rfl
theorem cfill_yes (b : Nat) (c : BitVec 64) (n : Nat) (x : BitVec 8) (h : n < 8) (hx : N x ≤ 127) (hf : fullM c &&& laneM n = 0#8) (w : World) (hb : w.heap[b]? = some (.cells #[U c] 299 (0, 0))) :
    Calls Tryz.prog 268 #[.pointer (some ⟨b, 0, none⟩), I n, Y x] w fun e w' => e = .returned (.tuple #[]) ∧ Ch [b] w w' ∧ w'.heap[b]? = some (.cells #[U (withB c n x)] 299 (0, 0)) := by
  have hz : (N (fullM c &&& laneM n) == 0) = true := by rw [hf]; decide
  have hd : decide (N x ≤ 127) = true := by simpa using hx
  clear hf
  go_enter Tryz.func268, Tryz.ntmps268
  go_wp2_with (first
    | (go_at_call 263; refine (cneed_yes _ _).mono ?_; rintro e w' ⟨rfl, rfl⟩)
    | (go_at_call 270; refine (clane_yes _ _ h _).mono ?_; rintro e w' ⟨rfl, rfl⟩)
    | (go_at_call 224; refine (full_any _ _).mono ?_; rintro e w' ⟨rfl, rfl⟩)
    | (go_at_call 271; refine (cput_yes b c n x h _ hb).mono ?_; rintro e w1 ⟨rfl, hc1, hb1⟩))
  go_end0
  exact ⟨rfl, hc1, hb1⟩
theorem cnew_any (w : World) : Calls Tryz.prog 143 #[] w fun e w' => e = .returned (U tops) ∧ w = w' := by
  have F1 : ∀ w, Calls Tryz.prog 216 #[.int .u8 128] w fun e w' => e = .returned (U tops) ∧ w = w' := fun w => (fillB_any 128#8 w).mono fun e w' ⟨he, hw⟩ => ⟨by rw [he]; rfl, hw⟩
  go_enter Tryz.func143, Tryz.ntmps143
  go_wp2_with (go_at_call 216; refine (F1 _).mono ?_; rintro e w' ⟨rfl, rfl⟩)
  go_ret
  exact ⟨rfl, rfl⟩
end Go.Proofs.Hc
namespace Go.Proofs.Hc
open Go.RowKit
attribute [local go_sem] zbr zcd zat zaz zbn zax zbm zbo zbw signed64 signed8 zar BitVec.ofInt_add BitVec.ofInt_mul ofInt_sub' zav zaw wide8 eqN neN zcc shr1 shr7 shr56
attribute [local go_sem high] zay zbv
attribute [local go_sem] nn2 nm2 nn3 nm3 nn4 nm4 nn5 nm5 nn6 nm6 nn7 nm7 nn8 nm8
attribute [local go_sem] zak
attribute [local go_sem] zau zbx zai zal zac zaj
attribute [local go_sem ↓] zab zba zbb zaa
theorem enters_fill (args : Array Value) (w : World) : (callFunc 267 args).run Tryz.prog w = .ok (.enter 267 args) w := by kernel_rfl
theorem enters_sets (args : Array Value) (w : World) : (callFunc 228 args).run Tryz.prog w = .ok (.enter 228 args) w := by kernel_rfl
theorem fill1_yes (b p q : Nat) (c : BitVec 64) (n : Nat) (x : BitVec 8) (h : n < 8) (hx : N x ≤ 127) (hf : fullM c &&& laneM n = 0#8) (w : World) (hb : w.heap[b]? = some (.cells #[U c] 299 (0, 0)))
    (hp : w.heap[p]? = some (.cells #[I n] 3 (0, 0))) (hq : w.heap[q]? = some (.cells #[Y x] 5 (0, 0))) :
    Calls Tryz.prog 267 #[.pointer (some ⟨b, 0, none⟩), .pointer (some ⟨p, 0, none⟩), .pointer (some ⟨q, 0, none⟩)] w fun e w' => e = .returned (U (withB c n x)) ∧ Ch [b] w w' := by
  go_enter Tryz.func267, Tryz.ntmps267
  go_wp2_with (go_at_call 268; refine (cfill_yes b c n x h hx hf _ hb).mono ?_; rintro e w1 ⟨rfl, hc1, hb1⟩)
  go_ret
  exact ⟨rfl, hc1⟩
theorem fill_ok (c : BitVec 64) (n : Nat) (x : BitVec 8) (h : n < 8) (hx : N x ≤ 127) (hf : fullM c &&& laneM n = 0#8) (hok : ctrlOk c = true) (w : World) :
    Calls Tryz.prog 211 #[U c, I n, Y x] w fun e w' => e = .returned (.tuple #[U (withB c n x), I 0]) ∧ Ch [] w w' := by
  have M1 := fun b p q w => fill1_yes b p q c n x h hx hf w
  have T1 := fun (r : BitVec 64) (cap : Array Value) (w : World) => ctriesw_ok c hok 267 cap (.ok r) w enters_fill
  generalize withB c n x = r at *
  clear hok hx hf
  go_enter Tryz.func211, Tryz.ntmps211
  go_wp2_with fail
  refine (T1 r #[.pointer (some ⟨w.heap.size, 0, none⟩), .pointer (some ⟨w.heap.size + 1, 0, none⟩)] _ ?_).mono ?_
  · intro b w1 hb hc hle
    exact (M1 b w.heap.size (w.heap.size + 1) w1 hb ((hc.block _ (by simp <;> omega) (by simp)).trans (by simp [go_sem])) ((hc.block _ (by simp) (by simp)).trans (by simp [go_sem]))).mono fun e w2 ⟨he, hc2⟩ => ⟨he, hc2⟩
  · rintro e w1 ⟨rfl, hc1⟩
    clear M1 T1
    simp only [tupOr]
    go_wp2
    go_ret2
    exact ⟨rfl, (((Ch.refl [] w).alloc _).alloc _).trans hc1⟩
def setsOf (c : BitVec 64) : BitVec 8 × BitVec 8 × BitVec 8 := (fullM c, emptyM c, delM c)
theorem sets1_any (b : Nat) (c : BitVec 64) (w : World) (hb : w.heap[b]? = some (.cells #[U c] 299 (0, 0))) :
    Calls Tryz.prog 228 #[.pointer (some ⟨b, 0, none⟩)] w fun e w' => e = .returned (M3 (setsOf c)) ∧ Ch [] w w' := by
  have hbl := (Array.getElem?_eq_some_iff.1 hb).1
  go_enter Tryz.func228, Tryz.ntmps228
  go_wp2_with fail
  obtain ⟨W0, hW0⟩ : ∃ W0, w.alloc (.cells #[.int .u8 0, .int .u8 0, .int .u8 0] 307) = W0 := ⟨_, rfl⟩
  have hC0 : Ch [] w W0 := by rw [← hW0]; exact (Ch.refl [] w).alloc _
  have hz0 : W0.heap.size = w.heap.size + 1 := by rw [← hW0]; simp
  have b0 : W0.heap[w.heap.size]? = some (.cells #[.int .u8 0, .int .u8 0, .int .u8 0] 307 (0, 0)) := by rw [← hW0]; simp [go_sem]
  have hg : ∀ g : Gar W0, (g.1).heap[b]? = some (.cells #[U c] 299 (0, 0)) := fun g => (g.2.block b (by omega) (by simp)).trans ((hC0.block b hbl (by simp)).trans hb)
  rw [hW0]
  clear hW0 hbl hb
  refine zdj 16 (by kernel_rfl) (by kernel_rfl) ?_
  simp only [List.take_succ_cons, List.take_zero, List.drop_succ_cons, List.drop_zero]
  repeat (go_big_quiet_step ((first | (go_at_call 224; exact garL (full_any _ _)) | (go_at_call 225; exact garL (empty_any _ _)) | (go_at_call 226; exact garL (del_any _ _)))))
  refine wpQuiet_nil ?_
  rintro w1 ⟨g1, hw1⟩
  have hc1 : Ch [] W0 w1 := by rw [hw1]; exact g1.2
  clear hw1 g1
  have b1 : w1.heap[w.heap.size]? = some (.cells #[.int .u8 0, .int .u8 0, .int .u8 0] 307 (0, 0)) := (hc1.block _ (by omega) (by simp)).trans b0
  clear hg b0
  go_wp2
  refine bodyPost_ret (results_cell_row Tryz.results228 _ _ w.heap.size 307 #[Y (fullM c), Y (emptyM c), Y (delM c)] (0, 0) _ rfl ?_ Tryz.underlying307 rfl (by kernel_rfl)) rfl ⟨rfl, ?_⟩
  · simp only [zaa, b1, if_true, Option.map_some, zac]
    simp
  · exact ((((hC0.trans hc1).setCell (p := ⟨w.heap.size, 0, none⟩) (.inr (by simp)) _).setCell (p := ⟨w.heap.size, 1, none⟩) (.inr (by simp)) _).setCell (p := ⟨w.heap.size, 2, none⟩) (.inr (by simp)) _)
theorem sets_ok (c : BitVec 64) (hok : ctrlOk c = true) (w : World) :
    Calls Tryz.prog 166 #[U c] w fun e w' => e = .returned (.tuple #[Y (fullM c), Y (emptyM c), Y (delM c)]) ∧ Ch [] w w' := by
  have M1 := fun b w => sets1_any b c w
  have T1 := fun (r : BitVec 8 × BitVec 8 × BitVec 8) (cap : Array Value) (w : World) => ctriess_ok c hok 228 cap (.ok r) w enters_sets
  unfold setsOf at M1
  generalize fullM c = rf at *
  generalize emptyM c = re at *
  generalize delM c = rd at *
  clear hok
  go_enter Tryz.func166, Tryz.ntmps166
  go_wp2_with fail
  refine (T1 (rf, re, rd) #[] _ ?_).mono ?_
  · intro b w1 hb hc hle
    exact (M1 b w1 hb).mono fun e w2 ⟨he, hc2⟩ => ⟨he, hc2.of_nil⟩
  · rintro e w1 ⟨rfl, hc1⟩
    clear M1 T1
    simp only [tupOr, M3]
    go_wp2
    go_quiet (fail)
    go_wp2
    go_ret3
    exact ⟨rfl, ((hc1.alloc _).drewN nq)⟩
theorem stops_ok (c : BitVec 64) (hok : ctrlOk c = true) (w : World) :
    Calls Tryz.prog 139 #[U c] w fun e w' => e = .returned (.bool (emptyM c != 0#8)) ∧ Ch [] w w' := by
  have M1 := fun w => sets_ok c hok w
  generalize fullM c = rf at *
  generalize emptyM c = re at *
  generalize delM c = rd at *
  clear hok
  go_enter Tryz.func139, Tryz.ntmps139
  go_wp2_with (go_at_call 166; refine (M1 _).mono ?_; rintro e w1 ⟨rfl, hc1⟩)
  go_ret
  refine ⟨?_, hc1⟩
  rw [← neN]; rfl
end Go.Proofs.Hc
namespace Go.Proofs.Hc
open Go.RowKit
attribute [local go_sem] zbr zcd zat zaz zbn zax zbm zbo zbw signed64 signed8 zar BitVec.ofInt_add BitVec.ofInt_mul ofInt_sub' zav zaw wide8 eqN neN zcc shr1 shr7 shr56
attribute [local go_sem high] zay zbv
attribute [local go_sem] zau zbx zai zal zac zbd zan zah zbk zaj zbc zbe
attribute [local go_sem] load26 load73 load23 store26 build73
attribute [local go_sem ↓] lrow26 lrow73 lrow23 srow26 zero26 brow73 zab zba zbb zaa zae
attribute [local go_sem] zag zap zaf zbf zbi zbp zam zaq zbq zbh zbg
attribute [local go_sem] nn2 nm2 nn3 nm3 nn4 nm4 nn5 nm5 nn6 nm6 nn7 nm7 nn8 nm8
section
attribute [local go_sem] Oper.semAt_some zak
attribute [local go_sem] box26 zbz cell0 cell1 cell2 cell3 cell4 zcb zca
def gOf (s k : BitVec 64) : Nat := g0 (hash1 (hashOf s k))
def rowT (t : Tab) (s k : BitVec 64) : List Nat := if emptyM (t.c (gOf s k)) != 0#8 then [gOf s k] else [gOf s k, 1 - gOf s k]
theorem hcells_ctrl_at (t : Tab) (s : BitVec 64) (g : Nat) (h : g < 2) : (hcells t s)[5 + g]? = some (U (t.c g)) := by
  rw [zbf, if_pos (by omega), if_neg (by omega)]
  match g, h with
  | 0, _ => rfl
  | 1, _ => rfl
theorem lt_two {g : Nat} (h : g < 2) : g = 0 ∨ g = 1 := by omega
theorem cell5 (t : Tab) : t.cell 5 = U (t.c 0) := rfl
theorem cell6 (t : Tab) : t.cell 6 = U (t.c 1) := rfl
attribute [local go_sem] cell5 cell6
theorem pick_ok (t : Tab) (g : Nat) (h : g < 2) (h0 : ctrlOk (t.c 0) = true) (h1 : ctrlOk (t.c 1) = true) : ctrlOk (t.c g) = true := by
  match g, h with
  | 0, _ => exact h0
  | 1, _ => exact h1
theorem enters_row (args : Array Value) (w : World) : (callFunc 258 args).run Tryz.prog w = .ok (.enter 258 args) w := by kernel_rfl
theorem row_yields (t : Tab) (s k : BitVec 64) (b p q : Nat) (w : World) (hok0 : ctrlOk (t.c 0) = true) (hok1 : ctrlOk (t.c 1) = true) (hb : w.heap[b]? = some (.cells (hcells t s) 141 (0, 0)))
    (hp : w.heap[p]? = some (.cells #[.pointer (some ⟨b, 0, none⟩)] 137 (0, 0))) (hq : w.heap[q]? = some (.cells #[U k] 22 (0, 0))) :
    YieldsO Tryz.prog 258 #[.pointer (some ⟨p, 0, none⟩), .pointer (some ⟨q, 0, none⟩)] (fun g : Nat => #[I g]) (rowT t s k) [] [b, p, q] w := by
  intro n l J Jx W O0 hW hk hO hJ hJx hY h0
  have hb' := (hk b (by simp)).trans hb
  have hp' := (hk p (by simp)).trans hp
  have hq' := (hk q (by simp)).trans hq
  clear hb hp hq hk hW
  have H1 := fun w => hashOf_any s k w
  have H2 := fun w => hash1_any (hashOf s k) w
  have H3 := fun w => row_any (hash1 (hashOf s k)) w
  have hg2 := g0_lt (hash1 (hashOf s k))
  unfold rowT gOf at hY ⊢
  generalize g0 (hash1 (hashOf s k)) = g at *
  generalize hash1 (hashOf s k) = h1 at *
  generalize hashOf s k = h0' at *
  have S1 : ∀ w, Calls Tryz.prog 139 #[U (t.c g)] w fun e w' => e = .returned (.bool (emptyM (t.c g) != 0#8)) ∧ Ch [] w w' := fun w => stops_ok (t.c g) (pick_ok t g hg2 hok0 hok1) w
  have S2 : ∀ w, Calls Tryz.prog 139 #[U (t.c (1 - g))] w fun e w' => e = .returned (.bool (emptyM (t.c (1 - g)) != 0#8)) ∧ Ch [] w w' := fun w => stops_ok (t.c (1 - g)) (pick_ok t (1 - g) (Nat.lt_of_le_of_lt (Nat.sub_le 1 g) (Nat.lt_succ_self 1)) hok0 hok1) w
  clear hok0 hok1
  generalize (emptyM (t.c g) != 0#8) = st at *
  generalize (emptyM (t.c (1 - g)) != 0#8) = st2 at *
  have hgW : ∀ g : Gar W, (g.1).heap[b]? = some (.cells (hcells t s) 141 (0, 0)) ∧ (g.1).heap[p]? = some (.cells #[.pointer (some ⟨b, 0, none⟩)] 137 (0, 0)) ∧ (g.1).heap[q]? = some (.cells #[U k] 22 (0, 0)) :=
    fun g => ⟨(g.2.block b (Array.getElem?_eq_some_iff.1 hb').1 (by simp)).trans hb', (g.2.block p (Array.getElem?_eq_some_iff.1 hp').1 (by simp)).trans hp', (g.2.block q (Array.getElem?_eq_some_iff.1 hq').1 (by simp)).trans hq'⟩
  have hgb := fun g => (hgW g).1
  have hgp := fun g => (hgW g).2.1
  have hgq := fun g => (hgW g).2.2
  have hkk : ∀ W' : World, Ch [] W W' → W'.heap[b]? = some (.cells (hcells t s) 141 (0, 0)) ∧ W'.heap[p]? = some (.cells #[.pointer (some ⟨b, 0, none⟩)] 137 (0, 0)) := fun W' c => ⟨hgb ⟨W', c⟩, hgp ⟨W', c⟩⟩
  clear hgW hb' hp' hq'
  refine callsIn_of_wp Tryz.func258 rfl trivial ?_
  simp only [Tryz.ntmps258, List.size_toArray, List.length_cons, List.length_nil, Nat.reduceAdd, Nat.reduceSub, Array.replicate_succ, Array.replicate_zero, List.push_toArray, List.append_toArray, List.nil_append, List.cons_append]
  gi_wp2
  refine wpIn_wide.2 (wp_region_gar_mid 5 2 (by kernel_rfl) (by kernel_rfl) ?_)
  simp only [List.take_succ_cons, List.take_zero, List.drop_succ_cons, List.drop_zero]
  repeat (go_big_quiet_step (fail))
  refine wpQuiet_nil ?_
  rintro W1 ⟨g1, hw1⟩
  have hc1 : Ch [] W W1 := by rw [hw1]; exact g1.2
  clear hw1 g1 hgb hgp hgq
  go_wp2_with (first
    | (go_at_call 67; refine (H1 _).mono ?_; rintro e w' ⟨rfl, rfl⟩)
    | (go_at_call 260; refine (H2 _).mono ?_; rintro e w' ⟨rfl, rfl⟩)
    | (go_at_call 259; refine (H3 _).mono ?_; rintro e W2 ⟨v, rfl, hown, hc2⟩))
  have hC2 : Ch [] W W2 := hc1.trans hc2
  obtain ⟨r, cap, rfl⟩ := ownsRow_succ hown
  have hown' := hown
  obtain ⟨_, ⟨hx, _⟩ | ⟨r', cap', cur, hv, hrW, hr, hc2', hcm, hsz, hcur⟩⟩ := hown'
  · cases hx
  cases hv
  have hrow : W2.heap[r]? = some (.cells cur 3 (0, 0)) := hr
  have hcur0 : cur[0]? = some (I g) := by
    have : (cur.toList.take (2 * 1))[0]? = some (I g) := by rw [hcur]; rfl
    simpa using this
  have hcur1 : cur[1]? = some (I (1 - g : Nat)) := by
    have : (cur.toList.take (2 * 1))[1]? = some (I (1 - g : Nat)) := by rw [hcur]; rfl
    simpa using this
  repeat (go_big_quiet_step (fail))
  refine wpQuiet_nil ?_
  rintro W3 ⟨g3, hw3⟩
  have hc3 : Ch [] W2 W3 := by rw [hw3]; exact g3.2
  clear hw3 g3
  have hrow3 : W3.heap[r]? = some (.cells cur 3 (0, 0)) := (hc3.block r (Array.getElem?_eq_some_iff.1 hrow).1 (by simp)).trans hrow
  have hC3 : Ch [] W W3 := hC2.trans hc3
  obtain ⟨hb3, hp3⟩ := hkk W3 hC3
  have hJ3 := hJ _ _ _ _ h0 hC3
  have hrO : ¬ O0 r := fun h => by have := (hO _ _ _ h0 r h).1; have := hc1.size; omega
  clear hown hr hrow hc1 hc2 hc3 hC2 hcur hsz
  have hnb : b ∈ [b, p, q] ∧ p ∈ [b, p, q] := by simp
  have ob0 : ¬ O0 b := fun h => (hO _ _ _ h0 b h).2 hnb.1
  have op0 : ¬ O0 p := fun h => (hO _ _ _ h0 p h).2 hnb.2
  rcases lt_two hg2 with rfl | rfl
  · have hcur0 : cur[0]? = some (.int .i64 0) := hcur0
    have hcur1 : cur[1]? = some (.int .i64 1) := hcur1
    have S1 : ∀ w, Calls Tryz.prog 139 #[U (t.c 0)] w fun e w' => e = .returned (.bool st) ∧ Ch [] w w' := S1
    have S2 : ∀ w, Calls Tryz.prog 139 #[U (t.c 1)] w fun e w' => e = .returned (.bool st2) ∧ Ch [] w w' := S2
    gi_wp2
    refine wpIn_loop_rounds 3 ?_
    rw [roundsIn_succ]
    gi_wp2
    cases st with
    | true =>
      obtain ⟨fn, tmps, assign, body, hy, hR⟩ := hY [] O0 0 [] W3 rfl hJ3
      have hy : Sem.run Tryz.prog (Instr.yield l #[.int .i64 0]) W3 = .ok (.round l fn tmps assign body) W3 := hy
      gi_wp2
      first
        | refine hR.mono ?_
        | (rw [show Sem.run Tryz.prog (Instr.yield l #[I 0]) W3 = _ from hy]
           gi_wp2
           refine hR.mono ?_)
      clear hy hR
      rintro e W4 (⟨rfl, ⟨O', hJ4, hO'⟩, hz4, hk4⟩ | ⟨rfl, hJx4⟩)
      · have hb4 := (hk4 b (Array.getElem?_eq_some_iff.1 hb3).1 ob0).trans hb3
        have hp4 := (hk4 p (Array.getElem?_eq_some_iff.1 hp3).1 op0).trans hp3
        have hrow4 := (hk4 r (Array.getElem?_eq_some_iff.1 hrow3).1 hrO).trans hrow3
        have hl3 : b < W3.heap.size ∧ p < W3.heap.size ∧ r < W3.heap.size := ⟨(Array.getElem?_eq_some_iff.1 hb3).1, (Array.getElem?_eq_some_iff.1 hp3).1, (Array.getElem?_eq_some_iff.1 hrow3).1⟩
        have bO' : ¬ O' b ∧ ¬ O' p ∧ ¬ O' r := ⟨fun h => (hO' b h).elim ob0 (fun h => Nat.lt_irrefl _ (Nat.lt_of_lt_of_le hl3.1 h)), fun h => (hO' p h).elim op0 (fun h => Nat.lt_irrefl _ (Nat.lt_of_lt_of_le hl3.2.1 h)), fun h => (hO' r h).elim hrO (fun h => Nat.lt_irrefl _ (Nat.lt_of_lt_of_le hl3.2.2 h))⟩
        clear hk4 hl3
        gi_wp2_with (refine ⟨trivial, ?_⟩; gi_at_call 139; refine (callsIn_wide.2 (S1 _)).mono ?_; rintro e W5 ⟨rfl, hc5⟩)
        refine bodyPost_ret (results_none rfl _ _ _) rfl ?_
        exact ⟨⟨_, rfl⟩, .inl ⟨_, hJ _ _ _ _ hJ4 hc5⟩⟩
      · gi_wp2
        refine ⟨trivial, ?_⟩
        gi_wp2
        refine bodyPost_ret (results_none rfl _ _ _) rfl ?_
        exact ⟨⟨_, rfl⟩, .inr hJx4⟩
    | false =>
      obtain ⟨fn, tmps, assign, body, hy, hR⟩ := hY [] O0 0 [1 - 0] W3 rfl hJ3
      have hy : Sem.run Tryz.prog (Instr.yield l #[.int .i64 0]) W3 = .ok (.round l fn tmps assign body) W3 := hy
      gi_wp2
      first
        | refine hR.mono ?_
        | (rw [show Sem.run Tryz.prog (Instr.yield l #[I 0]) W3 = _ from hy]
           gi_wp2
           refine hR.mono ?_)
      clear hy hR
      rintro e W4 (⟨rfl, ⟨O', hJ4, hO'⟩, hz4, hk4⟩ | ⟨rfl, hJx4⟩)
      · have hb4 := (hk4 b (Array.getElem?_eq_some_iff.1 hb3).1 ob0).trans hb3
        have hp4 := (hk4 p (Array.getElem?_eq_some_iff.1 hp3).1 op0).trans hp3
        have hrow4 := (hk4 r (Array.getElem?_eq_some_iff.1 hrow3).1 hrO).trans hrow3
        have hl3 : b < W3.heap.size ∧ p < W3.heap.size ∧ r < W3.heap.size := ⟨(Array.getElem?_eq_some_iff.1 hb3).1, (Array.getElem?_eq_some_iff.1 hp3).1, (Array.getElem?_eq_some_iff.1 hrow3).1⟩
        have bO' : ¬ O' b ∧ ¬ O' p ∧ ¬ O' r := ⟨fun h => (hO' b h).elim ob0 (fun h => Nat.lt_irrefl _ (Nat.lt_of_lt_of_le hl3.1 h)), fun h => (hO' p h).elim op0 (fun h => Nat.lt_irrefl _ (Nat.lt_of_lt_of_le hl3.2.1 h)), fun h => (hO' r h).elim hrO (fun h => Nat.lt_irrefl _ (Nat.lt_of_lt_of_le hl3.2.2 h))⟩
        clear hk4 hl3
        gi_wp2_with (refine ⟨trivial, ?_⟩; gi_at_call 139; refine (callsIn_wide.2 (S1 _)).mono ?_; rintro e W5 ⟨rfl, hc5⟩)
        have hb5 := (hc5.block b (Array.getElem?_eq_some_iff.1 hb4).1 (by simp)).trans hb4
        have hp5 := (hc5.block p (Array.getElem?_eq_some_iff.1 hp4).1 (by simp)).trans hp4
        have hrow5 := (hc5.block r (Array.getElem?_eq_some_iff.1 hrow4).1 (by simp)).trans hrow4
        obtain ⟨fn2, tmps2, assign2, body2, hy2, hR2⟩ := hY [0] O' (1 - 0) [] W5 rfl (hJ _ _ _ _ hJ4 hc5)
        have hy2 : Sem.run Tryz.prog (Instr.yield l #[.int .i64 1]) W5 = .ok (.round l fn2 tmps2 assign2 body2) W5 := hy2
        clear hb4 hp4 hrow4
        rw [roundsIn_succ]
        gi_wp2
        first
          | refine hR2.mono ?_
          | (rw [show Sem.run Tryz.prog (Instr.yield l #[I 1]) W5 = _ from hy2]
             gi_wp2
             refine hR2.mono ?_)
        clear hy2 hR2
        rintro e W6 (⟨rfl, ⟨O6, hJ6, hO6⟩, hz6, hk6⟩ | ⟨rfl, hJx6⟩)
        · have hb6 := (hk6 b (Array.getElem?_eq_some_iff.1 hb5).1 bO'.1).trans hb5
          have hp6 := (hk6 p (Array.getElem?_eq_some_iff.1 hp5).1 bO'.2.1).trans hp5
          clear hk6
          cases st2
          all_goals
            gi_wp2_with (refine ⟨trivial, ?_⟩; gi_at_call 139; refine (callsIn_wide.2 (S2 _)).mono ?_; rintro e W7 ⟨rfl, hc7⟩)
            first
              | (refine bodyPost_ret (results_none rfl _ _ _) rfl ?_
                 exact ⟨⟨_, rfl⟩, .inl ⟨_, hJ _ _ _ _ hJ6 hc7⟩⟩)
              | (rw [roundsIn_succ]
                 gi_wp2
                 refine bodyPost_end (results_none rfl _ _ _) rfl ?_
                 exact ⟨⟨_, rfl⟩, .inl ⟨_, hJ _ _ _ _ hJ6 hc7⟩⟩)
        · gi_wp2
          refine ⟨trivial, ?_⟩
          gi_wp2
          refine bodyPost_ret (results_none rfl _ _ _) rfl ?_
          exact ⟨⟨_, rfl⟩, .inr hJx6⟩
      · gi_wp2
        refine ⟨trivial, ?_⟩
        gi_wp2
        refine bodyPost_ret (results_none rfl _ _ _) rfl ?_
        exact ⟨⟨_, rfl⟩, .inr hJx4⟩
  · have hcur0 : cur[0]? = some (.int .i64 1) := hcur0
    have hcur1 : cur[1]? = some (.int .i64 0) := hcur1
    have S1 : ∀ w, Calls Tryz.prog 139 #[U (t.c 1)] w fun e w' => e = .returned (.bool st) ∧ Ch [] w w' := S1
    have S2 : ∀ w, Calls Tryz.prog 139 #[U (t.c 0)] w fun e w' => e = .returned (.bool st2) ∧ Ch [] w w' := S2
    gi_wp2
    refine wpIn_loop_rounds 3 ?_
    rw [roundsIn_succ]
    gi_wp2
    cases st with
    | true =>
      obtain ⟨fn, tmps, assign, body, hy, hR⟩ := hY [] O0 1 [] W3 rfl hJ3
      have hy : Sem.run Tryz.prog (Instr.yield l #[.int .i64 1]) W3 = .ok (.round l fn tmps assign body) W3 := hy
      gi_wp2
      first
        | refine hR.mono ?_
        | (rw [show Sem.run Tryz.prog (Instr.yield l #[I 1]) W3 = _ from hy]
           gi_wp2
           refine hR.mono ?_)
      clear hy hR
      rintro e W4 (⟨rfl, ⟨O', hJ4, hO'⟩, hz4, hk4⟩ | ⟨rfl, hJx4⟩)
      · have hb4 := (hk4 b (Array.getElem?_eq_some_iff.1 hb3).1 ob0).trans hb3
        have hp4 := (hk4 p (Array.getElem?_eq_some_iff.1 hp3).1 op0).trans hp3
        have hrow4 := (hk4 r (Array.getElem?_eq_some_iff.1 hrow3).1 hrO).trans hrow3
        have hl3 : b < W3.heap.size ∧ p < W3.heap.size ∧ r < W3.heap.size := ⟨(Array.getElem?_eq_some_iff.1 hb3).1, (Array.getElem?_eq_some_iff.1 hp3).1, (Array.getElem?_eq_some_iff.1 hrow3).1⟩
        have bO' : ¬ O' b ∧ ¬ O' p ∧ ¬ O' r := ⟨fun h => (hO' b h).elim ob0 (fun h => Nat.lt_irrefl _ (Nat.lt_of_lt_of_le hl3.1 h)), fun h => (hO' p h).elim op0 (fun h => Nat.lt_irrefl _ (Nat.lt_of_lt_of_le hl3.2.1 h)), fun h => (hO' r h).elim hrO (fun h => Nat.lt_irrefl _ (Nat.lt_of_lt_of_le hl3.2.2 h))⟩
        clear hk4 hl3
        gi_wp2_with (refine ⟨trivial, ?_⟩; gi_at_call 139; refine (callsIn_wide.2 (S1 _)).mono ?_; rintro e W5 ⟨rfl, hc5⟩)
        refine bodyPost_ret (results_none rfl _ _ _) rfl ?_
        exact ⟨⟨_, rfl⟩, .inl ⟨_, hJ _ _ _ _ hJ4 hc5⟩⟩
      · gi_wp2
        refine ⟨trivial, ?_⟩
        gi_wp2
        refine bodyPost_ret (results_none rfl _ _ _) rfl ?_
        exact ⟨⟨_, rfl⟩, .inr hJx4⟩
    | false =>
      obtain ⟨fn, tmps, assign, body, hy, hR⟩ := hY [] O0 1 [1 - 1] W3 rfl hJ3
      have hy : Sem.run Tryz.prog (Instr.yield l #[.int .i64 1]) W3 = .ok (.round l fn tmps assign body) W3 := hy
      gi_wp2
      first
        | refine hR.mono ?_
        | (rw [show Sem.run Tryz.prog (Instr.yield l #[I 1]) W3 = _ from hy]
           gi_wp2
           refine hR.mono ?_)
      clear hy hR
      rintro e W4 (⟨rfl, ⟨O', hJ4, hO'⟩, hz4, hk4⟩ | ⟨rfl, hJx4⟩)
      · have hb4 := (hk4 b (Array.getElem?_eq_some_iff.1 hb3).1 ob0).trans hb3
        have hp4 := (hk4 p (Array.getElem?_eq_some_iff.1 hp3).1 op0).trans hp3
        have hrow4 := (hk4 r (Array.getElem?_eq_some_iff.1 hrow3).1 hrO).trans hrow3
        have hl3 : b < W3.heap.size ∧ p < W3.heap.size ∧ r < W3.heap.size := ⟨(Array.getElem?_eq_some_iff.1 hb3).1, (Array.getElem?_eq_some_iff.1 hp3).1, (Array.getElem?_eq_some_iff.1 hrow3).1⟩
        have bO' : ¬ O' b ∧ ¬ O' p ∧ ¬ O' r := ⟨fun h => (hO' b h).elim ob0 (fun h => Nat.lt_irrefl _ (Nat.lt_of_lt_of_le hl3.1 h)), fun h => (hO' p h).elim op0 (fun h => Nat.lt_irrefl _ (Nat.lt_of_lt_of_le hl3.2.1 h)), fun h => (hO' r h).elim hrO (fun h => Nat.lt_irrefl _ (Nat.lt_of_lt_of_le hl3.2.2 h))⟩
        clear hk4 hl3
        gi_wp2_with (refine ⟨trivial, ?_⟩; gi_at_call 139; refine (callsIn_wide.2 (S1 _)).mono ?_; rintro e W5 ⟨rfl, hc5⟩)
        have hb5 := (hc5.block b (Array.getElem?_eq_some_iff.1 hb4).1 (by simp)).trans hb4
        have hp5 := (hc5.block p (Array.getElem?_eq_some_iff.1 hp4).1 (by simp)).trans hp4
        have hrow5 := (hc5.block r (Array.getElem?_eq_some_iff.1 hrow4).1 (by simp)).trans hrow4
        obtain ⟨fn2, tmps2, assign2, body2, hy2, hR2⟩ := hY [1] O' (1 - 1) [] W5 rfl (hJ _ _ _ _ hJ4 hc5)
        have hy2 : Sem.run Tryz.prog (Instr.yield l #[.int .i64 0]) W5 = .ok (.round l fn2 tmps2 assign2 body2) W5 := hy2
        clear hb4 hp4 hrow4
        rw [roundsIn_succ]
        gi_wp2
        first
          | refine hR2.mono ?_
          | (rw [show Sem.run Tryz.prog (Instr.yield l #[I 0]) W5 = _ from hy2]
             gi_wp2
             refine hR2.mono ?_)
        clear hy2 hR2
        rintro e W6 (⟨rfl, ⟨O6, hJ6, hO6⟩, hz6, hk6⟩ | ⟨rfl, hJx6⟩)
        · have hb6 := (hk6 b (Array.getElem?_eq_some_iff.1 hb5).1 bO'.1).trans hb5
          have hp6 := (hk6 p (Array.getElem?_eq_some_iff.1 hp5).1 bO'.2.1).trans hp5
          clear hk6
          cases st2
          all_goals
            gi_wp2_with (refine ⟨trivial, ?_⟩; gi_at_call 139; refine (callsIn_wide.2 (S2 _)).mono ?_; rintro e W7 ⟨rfl, hc7⟩)
            first
              | (refine bodyPost_ret (results_none rfl _ _ _) rfl ?_
                 exact ⟨⟨_, rfl⟩, .inl ⟨_, hJ _ _ _ _ hJ6 hc7⟩⟩)
              | (rw [roundsIn_succ]
                 gi_wp2
                 refine bodyPost_end (results_none rfl _ _ _) rfl ?_
                 exact ⟨⟨_, rfl⟩, .inl ⟨_, hJ _ _ _ _ hJ6 hc7⟩⟩)
        · gi_wp2
          refine ⟨trivial, ?_⟩
          gi_wp2
          refine bodyPost_ret (results_none rfl _ _ _) rfl ?_
          exact ⟨⟨_, rfl⟩, .inr hJx6⟩
      · gi_wp2
        refine ⟨trivial, ?_⟩
        gi_wp2
        refine bodyPost_ret (results_none rfl _ _ _) rfl ?_
        exact ⟨⟨_, rfl⟩, .inr hJx4⟩
end
end Go.Proofs.Hc
