/- Package table: Puts. -/
import Derived.Test.YtcikopeddljgkaaGreatJPg
import Derived.Test.YtcikopeddljgkaaGreatJVa
import Derived.Test.YtcikopeddljgkaaGreatJ0
set_option linter.unusedSimpArgs false
set_option linter.unusedVariables false
set_option maxHeartbeats 8000000
set_option maxRecDepth 100000
namespace Go.Proofs.Hc
open Go.RowKit
attribute [local go_sem] zbu zcc zax zbf zbo zbd zbn zbp zbw signed64 signed8 zap BitVec.ofInt_add BitVec.ofInt_mul ofInt_sub' zbb zbc wide8 eqN neN zca shr1 shr7 shr56
attribute [local go_sem high] zbe zbv
attribute [local go_sem] zaw zby zaj zas zaf zaz zar zak zbm zal zay zba
attribute [local go_sem] load26 load73 load23 store26 build73
attribute [local go_sem ↓] lrow26 lrow73 lrow23 srow26 zero26 brow73 zae zbk zbg zaa zab
attribute [local go_sem] zai zav zat zbj zbl zbr zaq zau zbs zbi zbh
attribute [local go_sem] nn2 nm2 nn3 nm3 nn4 nm4 nn5 nm5 nn6 nm6 nn7 nm7 nn8 nm8
section
attribute [local go_sem] loadA loadT2 storeA storeT2 buildA_ts buildA_sm zdd make_func zda zcd acells_get zcz acells_one t2cells_one zcy acells_all t2cells_all t2cells_l t2cells_r
attribute [local go_sem ↓] lrowA lrowT2 srowA srowT2 browA zeroA_run zeroT2_run
attribute [local go_sem] Oper.semAt_some zao zbq
attribute [local go_sem] box26 zcb cell0 cell1 cell2 cell3 cell4 zcn zcm
attribute [local go_sem] cell5 cell6
attribute [local go_sem high] zco
theorem enters_puts1 (args : Array Value) (w : World) : (callFunc 85 args).run Tryz.prog w = .ok (.enter 85 args) w := by kernel_rfl
theorem puts1_any (t : Tab) (s : BitVec 64) (l : List (BitVec 64 × BitVec 64)) (a : Option Addr) (c : Nat) (cur : Array Value) (b p : Nat) (w : World) (hok : OkT t 0) (hn : l.length ≤ 900)
    (hb : w.heap[b]? = some (.cells (hcells t s) 141 (0, 0))) (hp : w.heap[p]? = some (.cells #[.slice a l.length c] 27 (0, 0)))
    (hpa : PairsAt cur l) (ha : 0 < l.length → ∃ r, a = some ⟨r, 0, none⟩) (hr : ∀ r, a = some ⟨r, 0, none⟩ → w.heap[r]? = some (.cells cur 31 (0, 0))) :
    Calls Tryz.prog 85 #[.pointer (some ⟨b, 0, none⟩), .pointer (some ⟨p, 0, none⟩)] w fun e w' => e = retOr (fun y => .agg (tcells y)) (laidT s t l) ∧ Ch [] w w' := by
  have hbl := (Array.getElem?_eq_some_iff.1 hb).1
  have hpl := (Array.getElem?_eq_some_iff.1 hp).1
  obtain ⟨W0, hW0⟩ : ∃ W0, w.alloc (.cells (tcells zeroT) 26) = W0 := ⟨_, rfl⟩
  have hC0 : Ch [] w W0 := by rw [← hW0]; exact (Ch.refl [] w).alloc _
  have b0 : W0.heap[w.heap.size]? = some (.cells (tcells zeroT) 26 (0, 0)) := by rw [← hW0]; simp [go_sem]
  have bb := hkeep hC0 hb
  have bp := hkeep hC0 hp
  have hgb : ∀ q : Gar W0, (q.1).heap[b]? = some (.cells (hcells t s) 141 (0, 0)) := fun q => hkeep q.2 bb
  have hgp : ∀ q : Gar W0, (q.1).heap[p]? = some (.cells #[.slice a l.length c] 27 (0, 0)) := fun q => hkeep q.2 bp
  have L1 : ∀ (W : World), Ch [] w W → W.heap[b]? = some (.cells (hcells t s) 141 (0, 0)) → Calls Tryz.prog 78 #[.pointer (some ⟨b, 0, none⟩), .agg (tcells t), .slice a l.length c] W fun e w' => e = retOr (fun x => .agg (tcells x)) (laidT s t l) ∧ Ch [] W w' :=
    fun W hc hb => laid_walk t t s l 0 a c cur b W hok (by omega) hb hpa ha (fun r hra => hkeep hc (hr r hra))
  generalize laidT s t l = r at *
  generalize l.length = n at *
  clear hr ha hpa hb hp hn hok hbl hpl bb bp
  go_enter Tryz.func85, Tryz.ntmps85
  go_wp2
  refine zdb 6 (by kernel_rfl) (by kernel_rfl) ?_
  simp only [List.take_succ_cons, List.take_zero, List.drop_succ_cons, List.drop_zero]
  repeat (go_big_quiet_step (fail))
  refine wpQuiet_nil ?_
  rintro W6 ⟨g6, hw6⟩
  have hc6 : Ch [] W0 W6 := by rw [hw6]; exact g6.2
  have e0 := hkeep hc6 b0
  have eb : W6.heap[b]? = some (.cells (hcells t s) 141 (0, 0)) := by rw [hw6]; exact hgb g6
  clear hw6 g6 hgb hgp b0
  have hCw : Ch [] w W6 := hC0.trans hc6
  cases r with
  | error e =>
    go_wp2_with (go_at_call 78; refine (L1 _ hCw eb).mono ?_; rintro e w1 ⟨rfl, hc1⟩; simp only [retOr])
    exact ⟨rfl, rfl, hCw.trans hc1⟩
  | ok y =>
    go_wp2_with (go_at_call 78; refine (L1 _ hCw eb).mono ?_; rintro e w1 ⟨rfl, hc1⟩; simp only [retOr]; have f0 := hkeep hc1 e0)
    refine bodyPost_ret (v := .agg (tcells y)) (zdi Tryz.results85 _ _ _ rfl (run_loadVar_row _ _ 26 26 (tcells y) (0, 0) _ ?_ Tryz.underlying26 rfl (by rw [zai]; kernel_rfl))) rfl ⟨rfl, ?_⟩
    · simp only [zab, if_true, f0, Option.map_some, zco]
    · exact (hCw.trans hc1).onObj (.inr (Nat.le_refl _)) _
theorem Puts_any (t : Tab) (s : BitVec 64) (l : List (BitVec 64 × BitVec 64)) (a : Option Addr) (c : Nat) (cur : Array Value) (w : World) (hn : l.length ≤ 900)
    (hpa : PairsAt cur l) (ha : 0 < l.length → ∃ r, a = some ⟨r, 0, none⟩) (hr : ∀ r, a = some ⟨r, 0, none⟩ → w.heap[r]? = some (.cells cur 31 (0, 0))) :
    Calls Tryz.prog 17 #[U s, .agg (tcells t), .slice a l.length c] w fun e w' => e = .returned (tupOr (fun v => .agg (tcells v)) (.agg (tcells zeroT)) (ifMay t s (laidT s t l))) ∧ Ch [] w w' := by
  have T1 : ∀ (w : World) (cap : Array Value), _ → Calls Tryz.prog 76 #[U s, .agg (tcells t), .func (.func 85) #[] cap] w fun e w' => e = .returned (tupOr (fun v => .agg (tcells v)) (.agg (tcells zeroT)) (ifMay t s (laidT s t l))) ∧ Ch [] w w' := fun w cap hd => tries26_any t s 85 cap (laidT s t l) w enters_puts1 hd
  have D1 := fun b p w hok hb hp hr => puts1_any t s l a c cur b p w hok hn hb hp hpa ha hr
  have hm := fun h => may_okT (t := t) (s := s) h
  generalize ifMay t s (laidT s t l) = R at *
  generalize laidT s t l = r at *
  generalize l.length = n at *
  obtain ⟨y, e0, htup⟩ := tup26 R
  rw [htup]
  have HR := Lib.hid hr
  clear hr ha hpa hn
  obtain ⟨W0, hW0⟩ : ∃ W0, ((w.alloc (.cells (tcells t) 26)).alloc (.cells #[.slice a n c] 27)).alloc (.cells (tcells zeroT) 26) = W0 := ⟨_, rfl⟩
  have hC0 : Ch [] w W0 := by rw [← hW0]; exact (((Ch.refl [] w).alloc _).alloc _).alloc _
  have b0 : W0.heap[w.heap.size]? = some (.cells (tcells t) 26 (0, 0)) := by rw [← hW0]; simp [go_sem]
  have b1 : W0.heap[w.heap.size + 1]? = some (.cells #[.slice a n c] 27 (0, 0)) := by rw [← hW0]; simp [go_sem]
  have b2 : W0.heap[w.heap.size + 1 + 1]? = some (.cells (tcells zeroT) 26 (0, 0)) := by rw [← hW0]; simp [go_sem]
  go_enter Tryz.func17, Tryz.ntmps17
  go_wp2_with fail
  refine (T1 W0 #[.pointer (some ⟨w.heap.size + 1, 0, none⟩)] ?_).mono ?_
  · intro hmt b w1 hb hc hle
    refine (D1 b (w.heap.size + 1) w1 (hm hmt) hb (hkeep hc b1) (fun r hra => hkeep (hC0.trans hc) (HR.out r hra))).mono ?_
    rintro e w2 ⟨rfl, hc2⟩
    exact ⟨rfl, hc2.of_nil⟩
  · rintro e w1 ⟨rfl, hc1⟩
    have d2 := hkeep hc1 b2
    clear T1 D1 hm b0 b1 b2
    rw [htup]
    clear htup
    go_wp2
    refine bodyPost_ret (v := .tuple #[.agg (tcells y), I e0]) (results_c0t Tryz.results17 _ _ _ rfl rfl (run_loadVar_row _ _ 26 26 (tcells y) (0, 0) _ ?_ Tryz.underlying26 rfl (by rw [zai]; kernel_rfl))) rfl ⟨rfl, ?_⟩
    · simp only [zab, if_true, d2, Option.map_some, zco]
    · exact (hC0.trans hc1).onObj (.inr (by omega)) _
end
section
attribute [local go_sem] zap zbq
attribute [local go_sem] Oper.semAt_some zao
attribute [local go_sem] zcj pacell0 pacell1 pacell2 pacell3 pacell4 pacell5 pacell6 pacell7 pacell42
attribute [local go_sem] zcs zcx zcp zcw zcv zdg zcu zdf zce zcr zdj zdc zch zbt zci zck boxPart loadPart storePart zcf zct buildPart0 buildPart4
attribute [local go_sem ↓] lrowPart srowPart browPart zcl zbz
attribute [local go_sem high] zag
attribute [local irreducible] partC
attribute [local go_sem] loadL storeL lcells_size lcells_one lcells_all
attribute [local go_sem ↓] lrowL srowL zeroL
attribute [local go_sem ↓] mul2_64
attribute [local irreducible] lcells tcells
def HalfTo (p : PartT) (k : Nat) (f : Nat → BitVec 64) : Prop := ∀ j, j < k → ∃ X, halfS p j = .ok X ∧ ∀ m, m < 40 → f (40 * j + m) = tword X m
theorem halfTo_put {p : PartT} {k : Nat} {f : Nat → BitVec 64} {X : Tab} (h : HalfTo p k f) (hX : halfS p k = .ok X) : HalfTo p (k + 1) (putF f k X) := by
  intro j hj
  by_cases e : j = k
  · subst e
    refine ⟨X, hX, fun m hm => ?_⟩
    unfold putF
    rw [if_pos (by omega), show 40 * j + m - 40 * j = m by omega]
  · obtain ⟨Y, hY, hf⟩ := h j (by omega)
    refine ⟨Y, hY, fun m hm => ?_⟩
    unfold putF
    rw [if_neg (by omega)]
    exact hf m hm
theorem halfTo_all {p : PartT} {f : Nat → BitVec 64} (h : HalfTo p 2 f) : (halvesS p).isSome = true ∧ partC (halvedS p (halvesS p)) = partC { p with ws := f } := by
  obtain ⟨X, hX, hf⟩ := h 0 (by omega)
  obtain ⟨Y, hY, hg⟩ := h 1 (by omega)
  rw [halvesS_eq, hX, hY, joinE_ok]
  refine ⟨rfl, partC_same p _ _ fun i hi => ?_⟩
  unfold wordsS
  by_cases h4 : i < 40
  · rw [if_pos h4]
    have := hf i h4
    rw [Nat.mul_zero, Nat.zero_add] at this
    exact this.symm
  · rw [if_neg h4]
    have := hg (i - 40) (by omega)
    rw [show 40 * 1 + (i - 40) = i by omega] at this
    exact this.symm
theorem halvesS_err {p : PartT} {k : Nat} (hk : k < 2) {e : Int} (h : halfS p k = .error e) : halvesS p = none := by
  rw [halvesS_eq]
  rcases (show k = 0 ∨ k = 1 by omega) with rfl | rfl
  · rw [h, joinE_l]; rfl
  · rw [h, joinE_r]; rfl
theorem s22halves_any (p : PartT) (g : Nat) (w : World) (hg : w.heap[g]? = some (.cells (partC p) 179 (0, 0))) :
    Calls Tryz.prog 281 #[.pointer (some ⟨g, 0, none⟩)] w fun e w' => e = .returned (.bool (halvesS p).isSome) ∧ w'.heap[g]? = some (.cells (partC (halvedS p (halvesS p))) 179 (0, 0)) ∧ Ch [g] w w' := by
  have P1 : ∀ w, w.heap[g]? = some (.cells (partC p) 179 (0, 0)) → Calls Tryz.prog 233 #[.pointer (some ⟨g, 0, none⟩)] w fun e w' => e = .returned (.tuple #[I (deepS p), U (preS p)]) ∧ Ch [] w w' := fun w h => s22parts_any p g w h
  have HP := Lib.hid (halfS_prog p)
  have HE := Lib.hid (fun k hk e h => @halvesS_err p k hk e h)
  have HA := Lib.hid (fun f h => @halfTo_all p f h)
  have HT := Lib.hid (fun k f X h hX => @halfTo_put p k f X h hX)
  have G1 := fun i S q1 q2 a1 a2 w hS h1 h2 ha1 ha2 => s22gathered_any p i S q1 q2 a1 a2 w hS h1 h2 ha1 ha2
  have GL := Lib.hid (fun i => Nat.le_trans (gathL_len p i (toldS (gotS p) 0 16)) (told_len (gotS p) 0))
  have hdp : 0 ≤ deepS p ∧ deepS p ≤ 255 := ⟨deepS_0 p, by unfold deepS; have := and255_lt p.head; unfold N at this; omega⟩
  have esd := zdg p
  generalize deepS p = d at *
  generalize preS p = pr at *
  generalize halvesS p = hv at *
  generalize gathL p = gl at *
  generalize toldS (gotS p) 0 16 = tl at *
  obtain ⟨hd0, hd1⟩ := hdp
  have hwd : IntKind.i64.wrap (d + 1) = d + 1 := by rw [IntKind.wrap_i64]; omega
  obtain ⟨W0, hW0⟩ : ∃ W0, (w.alloc (.cells #[.pointer (some ⟨g, 0, none⟩)] 177)) = W0 := ⟨_, rfl⟩
  have C0 : Ch [] w W0 := by rw [← hW0]; exact (Ch.refl [] w).alloc _
  have a0 : W0.heap[w.heap.size]? = some (.cells #[.pointer (some ⟨g, 0, none⟩)] 177 (0, 0)) := by rw [← hW0]; simp [go_sem]
  have g0 := hkeep C0 hg
  have lg := Lib.hid (Array.getElem?_eq_some_iff.1 hg).1
  clear hg
  go_enter Tryz.func281, Tryz.ntmps281
  go_wp2_with fail
  try rw [hW0]
  clear hW0
  refine (P1 _ g0).mono ?_
  rintro e W1 ⟨rfl, hc1⟩
  have a1 := hkeep hc1 a0
  have g1 := hkeep hc1 g0
  have C1 := C0.trans hc1
  clear a0 g0 C0 P1
  obtain ⟨B, hB⟩ : ∃ B, w.heap.size = B := ⟨_, rfl⟩
  rw [hB] at a1 lg
  have hBw : w.heap.size ≤ B := by omega
  try rw [hB]
  obtain ⟨L, hL⟩ : ∃ L, W1.heap.size = L := ⟨_, rfl⟩
  obtain ⟨W2, hW2⟩ : ∃ W, W1.alloc (.cells (lcells fun _ => 0#64) 49) = W := ⟨_, rfl⟩
  have l2 : W2.heap[L]? = some (.cells (lcells fun _ => 0#64) 49 (0, 0)) := by rw [← hW2, zae, if_pos hL.symm]
  have hc2 : Ch [] W1 W2 := by rw [← hW2]; exact (Ch.refl [] W1).alloc _
  have a2 := hkeep hc2 a1
  have g2 := hkeep hc2 g1
  have C2 := C1.trans hc2
  have hBL : B < L := by have := zad a1; omega
  have hgB : g < B := lg.out
  clear a1 g1 C1 hc1 hc2 lg hB
  go_upto_region 3 with (fail)
  try rw [hL]
  try rw [hW2]
  clear hW2 hL
  have T0 : HalfTo p 0 (fun _ => 0#64) := fun j hj => by omega
  go_wp2_with fail
  go_loopw [17] (fun i wr => ∃ (k : Nat) (f : Nat → BitVec 64), i = .int .i64 k ∧ k ≤ 2 ∧ HalfTo p k f ∧ wr.heap[L]? = some (.cells (lcells f) 49 (0, 0)) ∧ wr.heap[g]? = some (.cells (partC p) 179 (0, 0)) ∧ wr.heap[B]? = some (.cells #[.pointer (some ⟨g, 0, none⟩)] 177 (0, 0)) ∧ Ch [] w wr) (fun i _ => 2 - (intOf i).toNat)
  case atStart => exact ⟨0, _, rfl, by omega, T0, l2, g2, a2, C2⟩
  case round =>
    obtain ⟨k, f, hi, hk2, hT, lr, gr, ar, Cr⟩ := hrel
    subst hi
    clear l2 g2 a2 C2 T0
    rcases (show k = 2 ∨ k < 2 by omega) with rfl | hk
    · have E := Lib.hid (HA.out f hT)
      clear hT HA HE HT GL G1 HP
      go_wp2
      go_ret
      refine ⟨by rw [E.out.1]; rfl, ?_, (Cr.of_nil).onObj (.inl (by simp)) _⟩
      rw [E.out.2, zab, if_pos rfl, gr, Option.map_some, partC_ws]
    · have hHP := HP.out k
      obtain ⟨rN, hrN⟩ : ∃ r, newE (d + 1) (2#64 * pr + BitVec.ofNat 64 k) = r := ⟨_, rfl⟩
      have N1 := fun w => New_any (d + 1) (2#64 * pr + BitVec.ofNat 64 k) w
      have hmay : Hid (∀ t, rN = .ok t → May t p.seed) := Lib.hid fun t h => newE_may (hrN.trans h)
      have hnn : Hid (∀ e, rN = .error e → (e != 0) = true) := Lib.hid fun e h => newE_ne (hrN.trans h)
      rw [hrN] at N1 hHP
      have GK := fun q1 q2 a2 w hS h1 h2 ha1 ha2 => G1 (k : Int) g q1 q2 B a2 w hS h1 h2 ha1 ha2
      have hgl := GL.out (k : Int)
      obtain ⟨lk, hlk⟩ : ∃ l, gl (k : Int) tl = l := ⟨_, rfl⟩
      rw [hlk] at GK hgl hHP
      have HHP := Lib.hid hHP
      have HGL := Lib.hid hgl
      have HT1 := Lib.hid hT
      clear HP GL G1 hrN hHP HA hgl hlk hT
      have lgr := Lib.hid (zad gr)
      have lar := Lib.hid (zad ar)
      have llr := Lib.hid (zad lr)
      rcases (show k = 0 ∨ k = 1 by omega) with rfl | rfl
      all_goals
        first
        | (have N2 : ∀ w, Calls Tryz.prog 75 #[I (d + 1), U (2#64 * pr)] w fun e w' => e = .returned (tupOr (fun v => .agg (tcells v)) (.agg (tcells zeroT)) rN) ∧ Ch [] w w' := fun w => by have := N1 w; rw [BitVec.add_zero] at this; exact this)
        | (have N2 := N1)
        clear N1
        go_wp2_with fail
        first
        | (obtain ⟨w5, hw5⟩ : ∃ W, wr.alloc (.cells #[.int .i64 0] 3) = W := ⟨_, rfl⟩
           rw [hw5]
           have i5 : w5.heap[wr.heap.size]? = some (.cells #[I ((0 : Nat) : Int)] 3 (0, 0)) := by rw [← hw5, zae, if_pos rfl]; rfl)
        | (obtain ⟨w5, hw5⟩ : ∃ W, wr.alloc (.cells #[.int .i64 1] 3) = W := ⟨_, rfl⟩
           rw [hw5]
           have i5 : w5.heap[wr.heap.size]? = some (.cells #[I ((1 : Nat) : Int)] 3 (0, 0)) := by rw [← hw5, zae, if_pos rfl]; rfl)
        have hc5 : Ch [] wr w5 := by rw [← hw5]; exact (Ch.refl [] wr).alloc _
        have l5 := hkeep hc5 lr
        have g5 := hkeep hc5 gr
        have a5 := hkeep hc5 ar
        have C5 := Cr.trans hc5
        clear hw5 hc5 lr gr ar Cr
        obtain ⟨J, hJ⟩ : ∃ b, wr.heap.size = b := ⟨_, rfl⟩
        rw [hJ] at i5 ⊢
        have hJL : Hid (L < J) := Lib.hid (by rw [← hJ]; exact llr.out)
        have hJg : Hid (g < J) := Lib.hid (by rw [← hJ]; exact lgr.out)
        clear hJ lgr lar llr
        refine (N2 _).mono ?_
        rintro e w6 ⟨rfl, hc6⟩
        have l6 := hkeep hc6 l5
        have g6 := hkeep hc6 g5
        have a6 := hkeep hc6 a5
        have i6 := hkeep hc6 i5
        have C6 := C5.trans hc6
        clear N2 hc6 l5 g5 a5 i5 C5
        obtain ⟨y, e0, htup, HY⟩ := tup22 rN hnn.out
        rw [htup]
        have HY' := Lib.hid HY
        clear htup HY
        go_upto_region 7 with (fail)
        have t7 := tab_block22 w6 zeroT y
        have hc7 := tab_ch22 w6 zeroT y
        have lj6 := zad i6
        obtain ⟨w7, hw7⟩ : ∃ W, World.onObj (w6.alloc (.cells (tcells zeroT) 26)) w6.heap.size (laidAt 0 (tcells y)) = W := ⟨_, rfl⟩
        rw [hw7] at t7 hc7 ⊢
        have l7 := hkeep hc7 l6
        have g7 := hkeep hc7 g6
        have a7 := hkeep hc7 a6
        have i7 := hkeep hc7 i6
        have C7 := C6.trans hc7
        have hw6 := C6.size
        clear hw7 hc7 l6 g6 a6 i6 C6
        obtain ⟨T, hT⟩ : ∃ b, w6.heap.size = b := ⟨_, rfl⟩
        rw [hT] at t7 lj6 hw6 ⊢
        clear hT
        go_wp2_with fail
        refine (s22full_any g 0 w7 (zad g7)).mono ?_
        rintro e w8 ⟨q1, q2, rfl, h1, h2, -, -, hc8⟩
        have l8 := hkeep hc8 l7
        have g8 := hkeep hc8 g7
        have a8 := hkeep hc8 a7
        have i8 := hkeep hc8 i7
        have t8 := hkeep hc8 t7
        have C8 := C7.trans hc8
        clear hc8 l7 g7 a7 i7 t7 C7
        go_wp2_with fail
        refine (GK q1 q2 J w8 g8 h1 h2 a8 i8).mono ?_
        rintro e w9 ⟨ga, gc, rfl, hown, hc9⟩
        obtain ⟨cur, hp1, hp2, hp3⟩ := pairs_at rfl hown
        have l9 := hkeep hc9 l8
        have g9 := hkeep hc9 g8
        have a9 := hkeep hc9 a8
        have i9 := hkeep hc9 i8
        have t9 := hkeep hc9 t8
        have C9 := C8.trans hc9
        clear hc9 l8 g8 a8 i8 t8 C8 h1 h2 hown GK
        rcases HY'.out with ⟨hne, -, en, hen⟩ | ⟨rfl, hok⟩
        · subst hen
          have hv0 : hv = none := HE.out _ hk en HHP.out
          subst hv0
          clear hp1 hp2 hp3 HE HHP hnn hmay HY' HT HT1
          go_wp2
          go_ret
          exact ⟨rfl, g9, C9.of_nil⟩
        · have hm := hmay.out y hok
          subst hok
          have PU := fun w hr => Puts_any y p.seed lk ga gc cur w (by have := HGL.out; omega) hp1 hp2 hr
          rw [show ifMay y p.seed (laidT p.seed y lk) = laidT p.seed y lk by unfold ifMay; rw [if_pos ((may_iff _ _).2 hm)]] at PU
          have hlm := Lib.hid (laidT_may (s := p.seed) lk y)
          have hln := Lib.hid (laid_ne (s := p.seed) lk y)
          have HHQ : Hid (halfS p _ = laidT p.seed y lk) := Lib.hid HHP.out
          obtain ⟨rL, hrL⟩ : ∃ r, laidT p.seed y lk = r := ⟨_, rfl⟩
          obtain ⟨z, e1, htup2, HZ⟩ := tup22 rL (fun e h => hln.out e (hrL.trans h))
          have hfz : Hid (flatT z = true) := Lib.hid (by
            rcases HZ with ⟨_, rfl, _⟩ | ⟨_, h⟩
            · exact flat_zeroT
            · exact (hlm.out z hm (hrL.trans h)).flat)
          rw [hrL] at HHQ PU
          rw [htup2] at PU
          have HZ' := Lib.hid HZ
          have HP3 := Lib.hid fun r hr => (hp3 r hr).2
          clear hrL hlm hln HHP HY' hnn hmay hm htup2 hp1 hp2 hp3 HZ
          go_upto_region 10 with (fail)
          have s1 : (fun W' : World => W'.heap[B]? = some (.cells #[.pointer (some ⟨g, 0, none⟩)] 177 (0, 0)) ∧ W'.heap[g]? = some (.cells (partC p) 179 (0, 0))) w9.drew := ⟨a9, g9⟩
          have t10 : w9.drew.heap[T]? = some (.cells (tcells y) 26 (0, 0)) := t9
          have l10 : w9.drew.heap[L]? = _ := l9
          have i10 : w9.drew.heap[J]? = _ := i9
          have C10 : Ch [] w w9.drew := C9.drew
          have HP4 : Hid (∀ r, ga = some ⟨r, 0, none⟩ → w9.drew.heap[r]? = some (.cells cur 31 (0, 0))) := Lib.hid HP3.out
          refine wp_region_held_drew (S := fun W' => W'.heap[B]? = some (.cells #[.pointer (some ⟨g, 0, none⟩)] 177 (0, 0)) ∧ W'.heap[g]? = some (.cells (partC p) 179 (0, 0))) (by kernel_rfl) s1 ?_
          intro _
          simp only [List.size_toArray, List.length_cons, List.length_nil, Nat.reduceAdd]
          obtain ⟨w10, hw10⟩ : ∃ W, w9.drew = W := ⟨_, rfl⟩
          rw [hw10] at s1 t10 l10 i10 C10 HP4 ⊢
          clear hw10 l9 g9 a9 i9 t9 C9 HP3
          refine tk 0 38 ?_ rfl s1 ?_ ?_; rotate_left
          · intro wq hSq; obtain ⟨hSa, hSb⟩ := hSq; go_simp; try with_reducible rfl
          try go_frame
          refine tk 1 39 ?_ rfl s1 ?_ ?_; rotate_left
          · intro wq hSq; obtain ⟨hSa, hSb⟩ := hSq; go_simp; try with_reducible rfl
          try go_frame
          refine tk 2 40 ?_ rfl s1 ?_ ?_; rotate_left
          · intro wq hSq; obtain ⟨hSa, hSb⟩ := hSq; go_simp; try with_reducible rfl
          try go_frame
          refine tk 3 41 ?_ rfl s1 ?_ ?_; rotate_left
          · intro wq hSq; obtain ⟨hSa, hSb⟩ := hSq; go_simp; try with_reducible rfl
          try go_frame
          refine tk 4 42 ?_ rfl s1 ?_ ?_; rotate_left
          · intro wq hSq; obtain ⟨hSa, hSb⟩ := hSq; go_simp; try with_reducible rfl
          try go_frame
          refine tk 6 44 ?_ rfl s1 ?_ ?_; rotate_left
          · intro wq hSq; obtain ⟨hSa, hSb⟩ := hSq; go_simp; try with_reducible rfl
          try go_frame
          refine rd (o := ⟨some 43, _, _, _, _, none⟩) 5 rfl (fun K hK => ?_); go_simp
          refine hK.out _ _ s1 (fun _ => ?_)
          clear hK K
          refine rd (o := ⟨some 45, _, _, _, _, none⟩) 7 rfl (fun K hK => ?_); go_simp
          refine (PU _ HP4.out).mono ?_
          rintro e w11 ⟨rfl, hc11⟩
          have s2 : (fun W' : World => W'.heap[B]? = some (.cells #[.pointer (some ⟨g, 0, none⟩)] 177 (0, 0)) ∧ W'.heap[g]? = some (.cells (partC p) 179 (0, 0))) w11 := ⟨hkeep hc11 s1.1, hkeep hc11 s1.2⟩
          have t11 := hkeep hc11 t10
          have l11 := hkeep hc11 l10
          have i11 := hkeep hc11 i10
          have C11 := C10.trans hc11
          refine hK.out _ _ s2 (fun _ => ?_)
          clear hK K hc11 s1 t10 l10 i10 C10 PU HP4
          refine tk 8 37 ?_ rfl s2 ?_ ?_; rotate_left
          · intro _ _; go_simp; try with_reducible rfl
          try go_frame
          refine tk 9 46 ?_ rfl s2 ?_ ?_; rotate_left
          · intro _ _; go_simp; try with_reducible rfl
          try go_frame
          refine tk 10 47 ?_ rfl s2 ?_ ?_; rotate_left
          · intro _ _; go_simp; try with_reducible rfl
          try go_frame
          refine rd 11 rfl (fun K hK => ?_); go_simp
          have nB : ¬ B = T := zcq s2.1 t11 (by decide)
          have ng : ¬ g = T := zcq s2.2 t11 (by decide)
          have nL : ¬ L = T := zcq l11 t11 (by decide)
          have nJ : ¬ J = T := zcq i11 t11 (by decide)
          have s3 : (fun W' : World => W'.heap[B]? = some (.cells #[.pointer (some ⟨g, 0, none⟩)] 177 (0, 0)) ∧ W'.heap[g]? = some (.cells (partC p) 179 (0, 0))) (World.onObj w11 T (laidAt 0 (tcells z))) := ⟨by rw [zab, if_neg nB]; exact s2.1, by rw [zab, if_neg ng]; exact s2.2⟩
          have t12 : (World.onObj w11 T (laidAt 0 (tcells z))).heap[T]? = some (.cells (tcells z) 26 (0, 0)) := by rw [zab, if_pos rfl, t11, Option.map_some, zco]
          have l12 := (zan (w := w11) (F := T) (laidAt 0 (tcells z)) nL).trans l11
          have i12 := (zan (w := w11) (F := T) (laidAt 0 (tcells z)) nJ).trans i11
          have C12 : Ch [] w (World.onObj w11 T (laidAt 0 (tcells z))) := C11.onObj (p := T) (.inr hw6) _
          refine hK.out _ _ s3 (fun _ => ?_)
          clear hK K s2 t11 l11 i11 C11 nB ng nL nJ
          obtain ⟨w12, hw12⟩ : ∃ W, World.onObj w11 T (laidAt 0 (tcells z)) = W := ⟨_, rfl⟩
          rw [hw12] at s3 t12 l12 i12 C12 ⊢
          clear hw12
          refine tk 12 8 ?_ rfl s3 ?_ ?_; rotate_left
          · intro _ _; go_simp; try with_reducible rfl
          try go_frame
          refine wpAnyH_done (by kernel_rfl) ?_ _
          go_wp2_with fail
          refine (words_row2 z hfz.out w12).mono ?_
          rintro e w13 ⟨R, c, cu, rfl, hRw, hcu, hc40, r13, hc13⟩
          have a13 := hkeep hc13 s3.1
          have g13 := hkeep hc13 s3.2
          have l13 := hkeep hc13 l12
          have i13 := hkeep hc13 i12
          have C13 := C12.trans hc13
          clear hc13 s3 t12 l12 i12 C12 hRw
          have HCU := Lib.hid hcu
          clear hcu
          rcases HZ'.out with ⟨hne, -, en, hen⟩ | ⟨rfl, hok⟩
          · subst hen
            have hv0 : hv = none := HE.out _ hk en HHQ.out
            subst hv0
            clear HE HHQ HZ' HT HT1 HCU
            go_wp2
            go_ret
            exact ⟨rfl, g13, C13.of_nil⟩
          · subst hok
            have hc40' : (40 : Int) ≤ c := by omega
            go_upto_region 14 with (fail)
            first
            | (have s4 : (fun W' : World => W'.heap[J]? = some (.cells #[.int .i64 0] 3 (0, 0))) w13.drew := i13
               refine wp_region_held_drew (S := fun W' => W'.heap[J]? = some (.cells #[.int .i64 0] 3 (0, 0))) (by kernel_rfl) s4 ?_)
            | (have s4 : (fun W' : World => W'.heap[J]? = some (.cells #[.int .i64 1] 3 (0, 0))) w13.drew := i13
               refine wp_region_held_drew (S := fun W' => W'.heap[J]? = some (.cells #[.int .i64 1] 3 (0, 0))) (by kernel_rfl) s4 ?_)
            intro _
            simp only [List.size_toArray, List.length_cons, List.length_nil, Nat.reduceAdd]
            obtain ⟨w14, hw14⟩ : ∃ W, w13.drew = W := ⟨_, rfl⟩
            rw [hw14] at s4 ⊢
            have l14 : w14.heap[L]? = some (.cells (lcells f) 49 (0, 0)) := by rw [← hw14]; exact l13
            have r14 : w14.heap[R]? = some (.cells cu 22 (0, 0)) := by rw [← hw14]; exact r13
            have a14 : w14.heap[B]? = some (.cells #[.pointer (some ⟨g, 0, none⟩)] 177 (0, 0)) := by rw [← hw14]; exact a13
            have g14 : w14.heap[g]? = some (.cells (partC p) 179 (0, 0)) := by rw [← hw14]; exact g13
            have C14 : Ch [] w w14 := by rw [← hw14]; exact C13.drew
            clear hw14 l13 r13 a13 g13 i13 C13
            refine tk 0 59 ?_ rfl s4 ?_ ?_; rotate_left
            · intro _ _; go_simp; try with_reducible rfl
            try go_frame
            refine tk 1 60 ?_ rfl s4 ?_ ?_; rotate_left
            · intro _ _; go_simp; try with_reducible rfl
            try go_frame
            refine tk 2 61 ?_ rfl s4 ?_ ?_; rotate_left
            · intro _ _; go_simp; try with_reducible rfl
            try go_frame
            refine tk 3 62 ?_ rfl s4 ?_ ?_; rotate_left
            · intro _ _; go_simp; try with_reducible rfl
            try go_frame
            refine tk 4 63 ?_ rfl s4 ?_ ?_; rotate_left
            · intro _ _; go_simp; try with_reducible rfl
            try go_frame
            obtain ⟨w15, hcp, l15, hc15⟩ := copy_l f L _ R hk cu z w14 l14 r14 HCU.out 40 40
            simp only [Nat.mul_zero, Nat.mul_one] at hcp
            refine rd (o := ⟨some 64, _, _, _, _, none⟩) 5 rfl (fun K hK => ?_); go_simp
            have hn15 : ∀ {q : Nat} {o : Obj}, ¬ q = L → w14.heap[q]? = some o → w15.heap[q]? = some o := fun {q o} hq h => (hc15.block q (zad h) (by simpa using hq)).trans h
            have s5 := hn15 (by have := hJL.out; omega) s4
            have g15 := hn15 (by omega) g14
            have a15 := hn15 (by omega) a14
            have C15 : Ch [] w w15 := C14.trans2 hc15 (by intro t ht; right; simp at ht; omega)
            refine hK.out _ _ s5 (fun _ => ?_)
            clear hK K hn15 hc15 s4 l14 r14 a14 g14 C14 hcp
            refine wpAnyH_done (by kernel_rfl) ?_ _
            go_wp2
            go_roundw
            case rel =>
              first
              | exact ⟨1, _, rfl, by omega, HT.out 0 f z HT1.out HHQ.out, l15, g15, a15, C15⟩
              | exact ⟨2, _, rfl, by omega, HT.out 1 f z HT1.out HHQ.out, l15, g15, a15, C15⟩
            case measure => simp [intOf]
end
section
attribute [local go_sem] acc_g0 acc_g1 acc_g2 acc_g4 acc_s0 acc_s1 acc_s2 acc_s4 accC_size accC_one accC_all loadAcc storeAcc bacc0 bacc2 bacc3 bacc3u bacc4
attribute [local go_sem ↓] lrowAcc srowAcc browAcc zeroAcc_run
attribute [local go_sem high] zah
attribute [local go_sem] zap zbq
attribute [local go_sem] Oper.semAt_some zao
attribute [local go_sem] zcj pacell0 pacell1 pacell2 pacell3 pacell4 pacell5 pacell6 pacell7 pacell42
attribute [local go_sem] zcs zcx zcp zcw zcv zdg zcu zdf zce zcr zdj zdc zch zbt zci zck boxPart loadPart storePart zcf zct buildPart0 buildPart4
attribute [local go_sem ↓] lrowPart srowPart browPart zcl zbz
attribute [local go_sem high] zag
attribute [local irreducible] partC
attribute [local irreducible] accC
theorem s22need_any (p : PartT) (a : AccT) (h : needS p = some a) (g : Nat) (w : World) (hg : w.heap[g]? = some (.cells (partC p) 179 (0, 0))) :
    Calls Tryz.prog 114 #[.pointer (some ⟨g, 0, none⟩)] w fun e w' => e = .returned (.agg (accC p.who a.kind a.at_ (N a.new))) ∧ Ch [] w w' := by
  obtain ⟨R, h6, rfl⟩ := needS_right h
  have h0 := R.ph0
  dsimp only
  by_cases h5 : p.ph = 5
  · rw [if_pos (Or.inl h5), if_pos h5, show whereS p = 16 + 40 * p.sl by unfold whereS; rw [h5]; rfl]
    exact s22Need_shut p R h5 g w hg
  · by_cases h6' : p.ph = 6
    · rw [if_pos (Or.inr h6'), if_neg h5, if_pos h6']
      have ha := R.at6 h6'
      have hw : whereS p = 16 + 40 * (if p.at_.toNat < 40 then p.t0 else p.t1) + ((p.at_.toNat % 40 : Nat) : Int) := by
        have e1 : p.at_ % 40 = ((p.at_.toNat % 40 : Nat) : Int) := by omega
        unfold whereS
        rw [h6', e1]
        by_cases h40 : p.at_ < 40
        · rw [if_pos h40, if_pos (show p.at_.toNat < 40 by omega)]; rfl
        · rw [if_neg h40, if_neg (show ¬ p.at_.toNat < 40 by omega)]; rfl
      rw [hw]
      exact s22Need_lay p R h6' p.at_.toNat _ _ (by omega) (by omega) rfl rfl _ rfl g w hg
    · rw [if_neg (by omega), if_neg h5, if_neg h6']
      exact s22Need_load p R p.ph.toNat (by omega) (by omega) g w hg
def needSV (who : Int) : Option AccT → Value
  | none => .tuple #[.agg (accC 0 0 0 0), .bool false]
  | some x => .tuple #[.agg (accC who x.kind x.at_ (N x.new)), .bool true]
theorem snew_part (p : PartT) (w : World) : ∃ W, (w.alloc (.cells (partC p) 51)).alloc (.cells (accC 0 0 0 0) 87) = W ∧ Ch [] w W ∧ W.heap[w.heap.size]? = some (.cells (partC p) 51 (0, 0)) ∧ W.heap[w.heap.size + 1]? = some (.cells (accC 0 0 0 0) 87 (0, 0)) :=
  ⟨_, rfl, ((Ch.refl [] w).alloc _).alloc _, by rw [zae, if_neg (by simp), zae, if_pos rfl], by rw [zae, if_pos (by simp)]⟩
theorem acct_results {fn : Func} {p q : Tmp} (h : fn.results = #[.cell p 87, .tmp q]) (tmps : Array Value) (b : Nat) (w : World) (x y z u : Int) (v : Value) (hp : tmps.getD p undef = .pointer (some ⟨b, 0, none⟩)) (hq : tmps.getD q undef = v)
    (hb : w.heap[b]? = some (.cells (accC x y z u) 87 (0, 0))) : (results fn tmps).run Tryz.prog w = .ok (.tuple #[.agg (accC x y z u), v]) w := by
  have hl := run_loadVar_row (P := Tryz.prog) w b 87 87 (accC x y z u) (0, 0) _ hb Tryz.underlying87 rfl (by rw [accC_size]; kernel_rfl)
  have hp' : tmps[p]?.getD undef = .pointer (some ⟨b, 0, none⟩) := by simpa using hp
  have hq' : tmps[q]?.getD undef = v := by simpa using hq
  simp [results, h, hp', hq', asAddr, hl]
theorem s22Need_no (p : PartT) (h : needS p = none) (w : World) : Calls Tryz.prog 47 #[.agg (partC p)] w fun e w' => e = .returned (.tuple #[.agg (accC 0 0 0 0), .bool false]) ∧ Ch [] w w' := by
  have C1 := fun w => pCheck_any p w
  have hc : checkS p = 320 ∨ checkS p = 0 ∧ 6 < p.ph := by
    unfold needS at h
    unfold checkS
    cases hr : rightS p with
    | false => left; rfl
    | true =>
      right
      rw [hr, Bool.true_and] at h
      refine ⟨rfl, ?_⟩
      by_cases h6 : p.ph ≤ 6
      · rw [decide_eq_true h6, if_pos rfl] at h; cases h
      · omega
  obtain ⟨c, hcc⟩ : ∃ c, checkS p = c := ⟨_, rfl⟩
  rw [hcc] at C1 hc
  clear hcc h
  obtain ⟨w0, hw0, C0, b0, z0⟩ := snew_part p w
  rcases hc with rfl | ⟨rfl, h6⟩
  all_goals
    go_enter Tryz.func47, Tryz.ntmps47
    go_wp2_with fail
    try rw [hw0]
    clear hw0
    obtain ⟨B, hB⟩ : ∃ B, w.heap.size = B := ⟨_, rfl⟩
    rw [hB] at b0 z0 ⊢
    have hBw : w.heap.size ≤ B := by omega
    clear hB
    refine (C1 _).mono ?_
    rintro e w1 ⟨rfl, hc1⟩
    have b1 := hkeep hc1 b0
    have z1 := hkeep hc1 z0
    have D1 := C0.trans hc1
    clear b0 z0 C0 hc1 C1
    go_wp2
    refine bodyPost_ret (acct_results Tryz.results47 _ (B + 1) _ 0 0 0 0 _ rfl rfl ?_) rfl ⟨rfl, D1.onObj (p := B + 1) (.inr (by omega)) _⟩
    rw [zab, if_pos rfl, z1, Option.map_some, zah]
theorem s22Need_yes (p : PartT) (a : AccT) (h : needS p = some a) (w : World) : Calls Tryz.prog 47 #[.agg (partC p)] w fun e w' => e = .returned (.tuple #[.agg (accC p.who a.kind a.at_ (N a.new)), .bool true]) ∧ Ch [] w w' := by
  have C1 := fun w => pCheck_any p w
  obtain ⟨R, h6, _⟩ := needS_right h
  rw [show checkS p = 0 by unfold checkS; rw [(zdk p).2 R]; rfl] at C1
  have N1 := fun g w hg => s22need_any p a h g w hg
  obtain ⟨w0, hw0, C0, b0, z0⟩ := snew_part p w
  obtain ⟨wh, hwh⟩ : ∃ x, p.who = x := ⟨_, rfl⟩
  obtain ⟨kd, hkd⟩ : ∃ x, a.kind = x := ⟨_, rfl⟩
  obtain ⟨at_, hat_⟩ : ∃ x, a.at_ = x := ⟨_, rfl⟩
  obtain ⟨nw, hnw⟩ : ∃ x, N a.new = x := ⟨_, rfl⟩
  rw [hwh, hkd, hat_, hnw] at N1 ⊢
  clear hwh hkd hat_ hnw h R
  go_enter Tryz.func47, Tryz.ntmps47
  go_wp2_with fail
  try rw [hw0]
  clear hw0
  obtain ⟨B, hB⟩ : ∃ B, w.heap.size = B := ⟨_, rfl⟩
  rw [hB] at b0 z0 ⊢
  have hBw : w.heap.size ≤ B := by omega
  clear hB
  refine (C1 _).mono ?_
  rintro e w1 ⟨rfl, hc1⟩
  have b1 := hkeep hc1 b0
  have z1 := hkeep hc1 z0
  have D1 := C0.trans hc1
  clear b0 z0 C0 hc1 C1
  go_wp2_with fail
  have hc2 : Ch [] w1 (w1.alloc (.cells (partC p) 179)) := (Ch.refl [] w1).alloc _
  have g2 : (w1.alloc (.cells (partC p) 179)).heap[w1.heap.size]? = some (.cells (partC p) 179 (0, 0)) := by rw [zae, if_pos rfl]
  have z2 := hkeep hc2 z1
  have D2 := D1.trans hc2
  refine (N1 _ _ g2).mono ?_
  rintro e w3 ⟨rfl, hc3⟩
  have z3 := hkeep hc3 z2
  have D3 := D2.trans hc3
  clear b1 z1 D1 hc2 g2 z2 D2 hc3 N1
  go_wp2
  refine bodyPost_ret (acct_results Tryz.results47 _ (B + 1) _ wh kd at_ nw _ rfl rfl ?_) rfl ⟨rfl, D3.onObj (p := B + 1) (.inr (by omega)) _⟩
  rw [zab, if_pos rfl, z3, Option.map_some, zah]
theorem s22Need_any (p : PartT) (w : World) : Calls Tryz.prog 47 #[.agg (partC p)] w fun e w' => e = .returned (needSV p.who (needS p)) ∧ Ch [] w w' := by
  cases h : needS p with
  | none => exact s22Need_no p h w
  | some a => exact s22Need_yes p a h w
end
end Go.Proofs.Hc
