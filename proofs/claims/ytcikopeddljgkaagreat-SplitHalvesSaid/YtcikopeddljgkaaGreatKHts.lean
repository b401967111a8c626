/- Package table: a table, and pairs that are put in it. -/
import Derived.Test.YtcikopeddljgkaaGreatKHtw
set_option linter.unusedSimpArgs false
set_option linter.unusedVariables false
set_option maxHeartbeats 2000000
set_option maxRecDepth 100000
namespace Go.Proofs.Hc
open Go.RowKit
attribute [local go_sem] zbr zcd zat zaz zbn zax zbm zbo zbw signed64 signed8 zar BitVec.ofInt_add BitVec.ofInt_mul ofInt_sub' zav zaw wide8 eqN neN zcc shr1 shr7 shr56
attribute [local go_sem high] zay zbv
attribute [local go_sem] zau zbx zai zal zac zbd zan zah zbk zaj zbc zbe
attribute [local go_sem] load26 load73 load23 store26 build73
attribute [local go_sem ↓] lrow26 lrow73 lrow23 srow26 zero26 brow73 zab zba zbb zaa zae
attribute [local go_sem] zag zap zaf zbf zbi zbp zam zaq zbq zbh zbg
attribute [local go_sem] nn2 nm2 nn3 nm3 nn4 nm4 nn5 nm5 nn6 nm6 nn7 nm7 nn8 nm8
section
attribute [local go_sem] Oper.semAt_some zak zbj
attribute [local go_sem] box26 zbz cell0 cell1 cell2 cell3 cell4 zcb zca
attribute [local go_sem] cell5 cell6
theorem loadP (g o : Nat) (w : World) : (loadRow 31 ⟨g, o, none⟩).run Tryz.prog w = rowRes Tryz.prog 31 g o w ((w.heap[g]?).bind (rowAt o 2)) :=
  run_row Tryz.underlying31 rfl (by kernel_rfl) g o w
theorem storeP (g o : Nat) (vs : Array Value) (w : World) : (storeRow 31 ⟨g, o, none⟩ (.agg vs)).run Tryz.prog w = layRes Tryz.prog 31 g o vs w (((w.heap[g]?).map (canLay o 2 vs)).getD false) :=
  run_lay (by kernel_rfl) g o vs w
theorem lrowP (a : Addr) : loadVar 31 a = loadRow 31 a := rfl
theorem srowP (a : Addr) (v : Value) : storeVar 31 a v = storeRow 31 a v := rfl
theorem zeroP (w : World) : (zeroValue 31).run Tryz.prog w = .ok (.agg #[U 0#64, U 0#64]) w := by kernel_rfl
def PairsAt (cur : Array Value) (l : List (BitVec 64 × BitVec 64)) : Prop := ∀ (i : Nat) (p : BitVec 64 × BitVec 64), l[i]? = some p → rowAt (2 * i) 2 (.cells cur 31 (0, 0)) = some #[U p.1, U p.2]
theorem pcells_at : ∀ (l : List (BitVec 64 × BitVec 64)) (i : Nat) (p : BitVec 64 × BitVec 64), l[i]? = some p → (pcells l)[2 * i]? = some (U p.1) ∧ (pcells l)[2 * i + 1]? = some (U p.2)
  | [], i, p, h => by cases h
  | q :: l, 0, p, h => by
    have : q = p := by simpa using h
    subst this; exact ⟨rfl, rfl⟩
  | q :: l, i + 1, p, h => by
    have := pcells_at l i p (by simpa using h)
    have e : pcells (q :: l) = U q.1 :: U q.2 :: pcells l := rfl
    rw [e, show 2 * (i + 1) = 2 * i + 1 + 1 by omega]
    simpa using this
theorem pairs_at {W : World} {base n : Nat} {a : Option Addr} {c : Nat} {l : List (BitVec 64 × BitVec 64)} (hn : n = l.length) (h : W.ownsRow base 31 2 (.slice a n c) n (pcells l)) :
    ∃ cur, PairsAt cur l ∧ (0 < l.length → ∃ r, a = some ⟨r, 0, none⟩) ∧ ∀ r, a = some ⟨r, 0, none⟩ → base ≤ r ∧ W.heap[r]? = some (.cells cur 31 (0, 0)) := by
  subst hn
  obtain ⟨_, ⟨hv, h0⟩ | ⟨g, cap, cur, hv, hg, hW, hle, _, hsz, hx⟩⟩ := h
  · refine ⟨#[], fun i p hp => ?_, fun hl => by omega, fun r hr => by rw [hr] at hv; simp at hv⟩
    have := (List.getElem?_eq_some_iff.1 hp).1
    omega
  · refine ⟨cur, fun i p hp => ?_, fun _ => ⟨g, by simp only [Value.slice.injEq] at hv; exact hv.1⟩, fun r hr => ?_⟩
    · have hi := (List.getElem?_eq_some_iff.1 hp).1
      obtain ⟨h1, h2⟩ := pcells_at l i p hp
      rw [← hx, List.getElem?_take] at h1 h2
      rw [if_pos (by omega)] at h1 h2
      have h1' : cur[2 * i]? = some (U p.1) := by simpa using h1
      have h2' : cur[2 * i + 1]? = some (U p.2) := by simpa using h2
      rw [zbd, if_pos (by omega)]
      congr 1
      apply Array.ext_getElem?
      intro j
      rw [Array.getElem?_extract]
      match j with
      | 0 => rw [if_pos (by omega)]; simpa using h1'
      | 1 => rw [if_pos (by omega)]; simpa using h2'
      | j + 2 => rw [if_neg (by omega)]; simp
    · rw [hr] at hv
      simp only [Value.slice.injEq] at hv
      have hrg : r = g := by simpa using hv.1
      subst hrg
      exact ⟨hg, hW⟩
theorem allOne_pair (x y : BitVec 64) : allOne #[U x, U y] = true := by simp [allOne, Value.oneCell']
theorem laidAt_p (a b c d : Value) (T : TypeId) (fr : Nat × Nat) : laidAt 0 #[a, b] (.cells #[c, d] T fr) = .cells #[a, b] T fr := by
  have h := laid_whole (#[a, b] : Array Value) #[c, d] rfl
  show Obj.cells (((#[c, d] : Array Value).extract 0 0 ++ #[a, b]) ++ (#[c, d] : Array Value).extract (0 + (#[a, b] : Array Value).size) (#[c, d] : Array Value).size) T fr = _
  rw [h]
attribute [local go_sem] loadP storeP allOne_pair
attribute [local go_sem high] laidAt_p
attribute [local go_sem high] zcu
attribute [local go_sem ↓] lrowP srowP zeroP
theorem drop_one {α : Type} {l : List α} {m : Nat} (h : m < l.length) : ∃ p, l[m]? = some p ∧ l.drop m = p :: l.drop (m + 1) :=
  ⟨l[m]'h, List.getElem?_eq_getElem h, List.drop_eq_getElem_cons h⟩
theorem laid_walk (t t0 : Tab) (s : BitVec 64) (l : List (BitVec 64 × BitVec 64)) (n : Nat) (a : Option Addr) (c : Nat) (cur : Array Value) (b : Nat) (w : World) (hok : OkT t0 n) (hn : n + l.length ≤ 900)
    (hb : w.heap[b]? = some (.cells (hcells t s) 141 (0, 0))) (hp : PairsAt cur l) (ha : 0 < l.length → ∃ r, a = some ⟨r, 0, none⟩) (hr : ∀ r, a = some ⟨r, 0, none⟩ → w.heap[r]? = some (.cells cur 31 (0, 0))) :
    Calls Tryz.prog 78 #[.pointer (some ⟨b, 0, none⟩), .agg (tcells t0), .slice a l.length c] w fun e w' => e = retOr (fun x => .agg (tcells x)) (laidT s t0 l) ∧ Ch [] w w' := by
  have hbl := (Array.getElem?_eq_some_iff.1 hb).1
  have hs39 : (hcells t s)[39]? = some (U s) := by rw [zbf]; rfl
  obtain ⟨W0, hW0⟩ : ∃ W0, (w.alloc (.cells (tcells t0) 26)).alloc (.cells (tcells zeroT) 26) = W0 := ⟨_, rfl⟩
  have hC0 : Ch [] w W0 := by rw [← hW0]; exact ((Ch.refl [] w).alloc _).alloc _
  have hs0 : W0.heap.size = w.heap.size + 1 + 1 := by rw [← hW0]; simp
  have b0 : W0.heap[w.heap.size]? = some (.cells (tcells t0) 26 (0, 0)) := by rw [← hW0]; simp [go_sem]
  have b1 : W0.heap[w.heap.size + 1]? = some (.cells (tcells zeroT) 26 (0, 0)) := by rw [← hW0]; simp [go_sem]
  have bb := hkeep hC0 hb
  have hg0 : ∀ q : Gar W0, (q.1).heap[w.heap.size]? = some (.cells (tcells t0) 26 (0, 0)) := fun q => hkeep q.2 b0
  have hg1 : ∀ q : Gar W0, (q.1).heap[b]? = some (.cells (hcells t s) 141 (0, 0)) := fun q => hkeep q.2 bb
  have HR := Lib.hid hr
  have HA := Lib.hid ha
  have HP := Lib.hid hp
  clear hr ha hp hb
  go_enter Tryz.func78, Tryz.ntmps78
  go_wp2
  refine zdj 6 (by kernel_rfl) (by kernel_rfl) ?_
  simp only [List.take_succ_cons, List.take_zero, List.drop_succ_cons, List.drop_zero]
  repeat (go_big_quiet_step (fail))
  refine wpQuiet_nil ?_
  rintro W6 ⟨g6, hw6⟩
  have hc6 : Ch [] W0 W6 := by rw [hw6]; exact g6.2
  clear hw6 g6 hg0 hg1
  have d1 := hkeep hc6 b1
  go_wp2
  have hX : w.heap.size + 1 < W6.heap.size := by have := hc6.size; omega
  have hbX : b < W6.heap.size := by omega
  obtain ⟨X, hXe⟩ : ∃ X, W6.heap.size = X := ⟨_, rfl⟩
  obtain ⟨Wb, hWb⟩ : ∃ Wb, W6.alloc (.cells (hcells t0 s) 141) = Wb := ⟨_, rfl⟩
  have eX : Wb.heap[X]? = some (.cells (hcells t0 s) 141 (0, 0)) := by rw [← hWb, zab, if_pos hXe.symm]
  have hCb : Ch [] W6 Wb := by rw [← hWb]; exact (Ch.refl [] W6).alloc _
  have e1 := hkeep hCb d1
  have hCw : Ch [] w Wb := (hC0.trans hc6).trans hCb
  rw [hWb, hXe]
  rw [hXe] at hX hbX
  have HX := Lib.hid hXe
  clear hWb hXe d1 hCb b0 b1 bb hs0 hs39 hW0
  go_loopw [22] (fun i wr => ∃ (m : Nat) (tm : Tab), i = .int .i64 m ∧ m ≤ l.length ∧ OkT tm (n + m) ∧ laidT s t0 l = laidT s tm (l.drop m) ∧ wr.heap[X]? = some (.cells (hcells tm s) 141 (0, 0)) ∧ Ch [X] Wb wr) (fun i _ => l.length - (intOf i).toNat)
  case atStart => exact ⟨0, t0, rfl, Nat.zero_le _, hok, rfl, eX, Ch.refl _ _⟩
  case round =>
    obtain ⟨m, tm, hm, hml, hokm, hlaid, hxm, hcm⟩ := hrel
    subst hm
    have HL := Lib.hid hlaid
    clear hlaid eX
    rcases Nat.lt_or_ge m l.length with hlt | hge
    · obtain ⟨r, hra⟩ := HA.out (by omega)
      obtain ⟨p, hpm, hdrop⟩ := drop_one hlt
      have hrow := HP.out m p hpm
      have hrow' : rowAt (m * 2) 2 (.cells cur 31 (0, 0)) = some #[U p.1, U p.2] := by rw [Nat.mul_comm]; exact hrow
      subst hra
      have hrr : wr.heap[r]? = some (.cells cur 31 (0, 0)) := by
        have h1 := HR.out r rfl
        have h2 := hkeep hCw h1
        exact hkeepS hcm (by have := (Array.getElem?_eq_some_iff.1 h1).1; simp; omega) h2
      have hdec : decide (m < l.length) = true := by simpa using hlt
      have hne : ¬ X = wr.heap.size := by have := (Array.getElem?_eq_some_iff.1 hxm).1; omega
      have hne2 : ¬ r = wr.heap.size := by have := (Array.getElem?_eq_some_iff.1 hrr).1; omega
      have HXM := Lib.hid hxm
      have HD := Lib.hid hdrop
      clear hdrop hpm
      have P1 := fun (w : World) hb => put_any tm (n + m) s p.1 p.2 X w hokm (by omega) hb
      go_wp2_with fail
      cases hP : placeT tm s p.1 with
      | error e0 =>
        have HPP := Lib.hid hP
        rw [hP] at P1
        clear hP
        refine (P1 _ ?_).mono ?_
        · simp [go_sem, hne, HXM.out]
        · rintro e w2 ⟨rfl, hc2, _⟩
          simp only [retOr]
          have hc2' : Ch [X] Wb w2 := ((hcm.alloc (.cells #[U 0#64, U 0#64] 31)).onObj (.inr (by have := hcm.size; exact this)) _).trans hc2
          exact ⟨rfl, by rw [HL.out, HD.out, laidT_err HPP.out]; rfl, hCw.trans2 hc2' (by simp; omega)⟩
      | ok sl =>
        have HPP := Lib.hid hP
        have hfill := hokm.fill s p.1 p.2 sl (by obtain ⟨g, x, hsl, hg, hx, _⟩ := place_ok hP; omega)
        rw [hP] at P1
        clear hP
        refine (P1 _ ?_).mono ?_
        · simp [go_sem, hne, HXM.out]
        · rintro e w2 ⟨rfl, hc2, hh⟩
          have hx2 := hh sl rfl
          clear hh
          simp only [retOr]
          go_wp2
          go_roundw
          case rel => exact ⟨m + 1, _, by go_num, hlt, by rw [← Nat.add_assoc]; exact hfill, by rw [HL.out, HD.out, laidT_ok HPP.out], hx2, ((hcm.alloc (.cells #[U 0#64, U 0#64] 31)).onObj (.inr (by have := hcm.size; exact this)) _).trans hc2⟩
          case measure => simp [intOf]; omega
    · have hme : m = l.length := Nat.le_antisymm hml hge
      have hdec : decide (m < l.length) = false := by simpa using hge
      have HM := Lib.hid hme
      have e1' := hkeepS hcm (by simp; omega) e1
      clear hme hge
      go_wp2
      refine bodyPost_ret (v := .agg (tcells tm)) (zcp Tryz.results78 _ _ _ rfl (run_loadVar_row _ _ 26 26 (tcells tm) (0, 0) _ ?_ Tryz.underlying26 rfl (by rw [zag]; kernel_rfl))) rfl ⟨?_, ?_⟩
      · rw [zae, if_pos rfl, e1', Option.map_some, zcu]
      · rw [HL.out, HM.out, List.drop_length, laidT_nil]; rfl
      · exact (hCw.trans2 hcm (by simp; omega)).onObj (.inr (by show w.heap.size ≤ w.heap.size + 1; omega)) _
end
section
attribute [local go_sem] loadA loadT2 storeA storeT2 buildA_ts buildA_sm zcm make_func zcl zbt zcw zcg zdd zcr zcn zde zcs t2cells_l t2cells_r
attribute [local go_sem ↓] lrowA lrowT2 srowA srowT2 browA zeroA_run zcz
attribute [local go_sem] Oper.semAt_some zak zbj
attribute [local go_sem] box26 zbz cell0 cell1 cell2 cell3 cell4 zcb zca
attribute [local go_sem] cell5 cell6
attribute [local go_sem high] zcu
theorem enters_puts1 (args : Array Value) (w : World) : (callFunc 85 args).run Tryz.prog w = .ok (.enter 85 args) w := by kernel_rfl
theorem puts1_any (t : Tab) (s : BitVec 64) (l : List (BitVec 64 × BitVec 64)) (a : Option Addr) (c : Nat) (cur : Array Value) (b p : Nat) (w : World) (hok : OkT t 0) (hn : l.length ≤ 900)
    (hb : w.heap[b]? = some (.cells (hcells t s) 141 (0, 0))) (hp : w.heap[p]? = some (.cells #[.slice a l.length c] 27 (0, 0)))
    (hpa : PairsAt cur l) (ha : 0 < l.length → ∃ r, a = some ⟨r, 0, none⟩) (hr : ∀ r, a = some ⟨r, 0, none⟩ → w.heap[r]? = some (.cells cur 31 (0, 0))) :
    Calls Tryz.prog 85 #[.pointer (some ⟨b, 0, none⟩), .pointer (some ⟨p, 0, none⟩)] w fun e w' => e = retOr (fun y => .agg (tcells y)) (laidT s t l) ∧ Ch [] w w' := by
  have hbl := (Array.getElem?_eq_some_iff.1 hb).1
  have hpl := (Array.getElem?_eq_some_iff.1 hp).1
  obtain ⟨W0, hW0⟩ : ∃ W0, w.alloc (.cells (tcells zeroT) 26) = W0 := ⟨_, rfl⟩
  have hC0 : Ch [] w W0 := by rw [← hW0]; exact (Ch.refl [] w).alloc _
  have b0 : W0.heap[w.heap.size]? = some (.cells (tcells zeroT) 26 (0, 0)) := by rw [← hW0]; simp [go_sem]
  have bb := hkeep hC0 hb
  have bp := hkeep hC0 hp
  have hgb : ∀ q : Gar W0, (q.1).heap[b]? = some (.cells (hcells t s) 141 (0, 0)) := fun q => hkeep q.2 bb
  have hgp : ∀ q : Gar W0, (q.1).heap[p]? = some (.cells #[.slice a l.length c] 27 (0, 0)) := fun q => hkeep q.2 bp
  have L1 : ∀ (W : World), Ch [] w W → W.heap[b]? = some (.cells (hcells t s) 141 (0, 0)) → Calls Tryz.prog 78 #[.pointer (some ⟨b, 0, none⟩), .agg (tcells t), .slice a l.length c] W fun e w' => e = retOr (fun x => .agg (tcells x)) (laidT s t l) ∧ Ch [] W w' :=
    fun W hc hb => laid_walk t t s l 0 a c cur b W hok (by omega) hb hpa ha (fun r hra => hkeep hc (hr r hra))
  generalize laidT s t l = r at *
  generalize l.length = n at *
  clear hr ha hpa hb hp hn hok hbl hpl bb bp
  go_enter Tryz.func85, Tryz.ntmps85
  go_wp2
  refine zdj 6 (by kernel_rfl) (by kernel_rfl) ?_
  simp only [List.take_succ_cons, List.take_zero, List.drop_succ_cons, List.drop_zero]
  repeat (go_big_quiet_step (fail))
  refine wpQuiet_nil ?_
  rintro W6 ⟨g6, hw6⟩
  have hc6 : Ch [] W0 W6 := by rw [hw6]; exact g6.2
  have e0 := hkeep hc6 b0
  have eb : W6.heap[b]? = some (.cells (hcells t s) 141 (0, 0)) := by rw [hw6]; exact hgb g6
  clear hw6 g6 hgb hgp b0
  have hCw : Ch [] w W6 := hC0.trans hc6
  cases r with
  | error e =>
    go_wp2_with (go_at_call 78; refine (L1 _ hCw eb).mono ?_; rintro e w1 ⟨rfl, hc1⟩; simp only [retOr])
    exact ⟨rfl, rfl, hCw.trans hc1⟩
  | ok y =>
    go_wp2_with (go_at_call 78; refine (L1 _ hCw eb).mono ?_; rintro e w1 ⟨rfl, hc1⟩; simp only [retOr]; have f0 := hkeep hc1 e0)
    refine bodyPost_ret (v := .agg (tcells y)) (zcp Tryz.results85 _ _ _ rfl (run_loadVar_row _ _ 26 26 (tcells y) (0, 0) _ ?_ Tryz.underlying26 rfl (by rw [zag]; kernel_rfl))) rfl ⟨rfl, ?_⟩
    · simp only [zae, if_true, f0, Option.map_some, zcu]
    · exact (hCw.trans hc1).onObj (.inr (Nat.le_refl _)) _
theorem Puts_any (t : Tab) (s : BitVec 64) (l : List (BitVec 64 × BitVec 64)) (a : Option Addr) (c : Nat) (cur : Array Value) (w : World) (hn : l.length ≤ 900)
    (hpa : PairsAt cur l) (ha : 0 < l.length → ∃ r, a = some ⟨r, 0, none⟩) (hr : ∀ r, a = some ⟨r, 0, none⟩ → w.heap[r]? = some (.cells cur 31 (0, 0))) :
    Calls Tryz.prog 17 #[U s, .agg (tcells t), .slice a l.length c] w fun e w' => e = .returned (tupOr (fun v => .agg (tcells v)) (.agg (tcells zeroT)) (ifMay t s (laidT s t l))) ∧ Ch [] w w' := by
  have T1 : ∀ (w : World) (cap : Array Value), _ → Calls Tryz.prog 76 #[U s, .agg (tcells t), .func (.func 85) #[] cap] w fun e w' => e = .returned (tupOr (fun v => .agg (tcells v)) (.agg (tcells zeroT)) (ifMay t s (laidT s t l))) ∧ Ch [] w w' := fun w cap hd => tries26_any t s 85 cap (laidT s t l) w enters_puts1 hd
  have D1 := fun b p w hok hb hp hr => puts1_any t s l a c cur b p w hok hn hb hp hpa ha hr
  have hm := fun h => may_okT (t := t) (s := s) h
  generalize ifMay t s (laidT s t l) = R at *
  generalize laidT s t l = r at *
  generalize l.length = n at *
  obtain ⟨y, e0, htup⟩ := tup26 R
  rw [htup]
  have HR := Lib.hid hr
  clear hr ha hpa hn
  obtain ⟨W0, hW0⟩ : ∃ W0, ((w.alloc (.cells (tcells t) 26)).alloc (.cells #[.slice a n c] 27)).alloc (.cells (tcells zeroT) 26) = W0 := ⟨_, rfl⟩
  have hC0 : Ch [] w W0 := by rw [← hW0]; exact (((Ch.refl [] w).alloc _).alloc _).alloc _
  have b0 : W0.heap[w.heap.size]? = some (.cells (tcells t) 26 (0, 0)) := by rw [← hW0]; simp [go_sem]
  have b1 : W0.heap[w.heap.size + 1]? = some (.cells #[.slice a n c] 27 (0, 0)) := by rw [← hW0]; simp [go_sem]
  have b2 : W0.heap[w.heap.size + 1 + 1]? = some (.cells (tcells zeroT) 26 (0, 0)) := by rw [← hW0]; simp [go_sem]
  go_enter Tryz.func17, Tryz.ntmps17
  go_wp2_with fail
  refine (T1 W0 #[.pointer (some ⟨w.heap.size + 1, 0, none⟩)] ?_).mono ?_
  · intro hmt b w1 hb hc hle
    refine (D1 b (w.heap.size + 1) w1 (hm hmt) hb (hkeep hc b1) (fun r hra => hkeep (hC0.trans hc) (HR.out r hra))).mono ?_
    rintro e w2 ⟨rfl, hc2⟩
    exact ⟨rfl, hc2.of_nil⟩
  · rintro e w1 ⟨rfl, hc1⟩
    have d2 := hkeep hc1 b2
    clear T1 D1 hm b0 b1 b2
    rw [htup]
    clear htup
    go_wp2
    refine bodyPost_ret (v := .tuple #[.agg (tcells y), I e0]) (results_c0t Tryz.results17 _ _ _ rfl rfl (run_loadVar_row _ _ 26 26 (tcells y) (0, 0) _ ?_ Tryz.underlying26 rfl (by rw [zag]; kernel_rfl))) rfl ⟨rfl, ?_⟩
    · simp only [zae, if_true, d2, Option.map_some, zcu]
    · exact (hC0.trans hc1).onObj (.inr (by omega)) _
end
end Go.Proofs.Hc
