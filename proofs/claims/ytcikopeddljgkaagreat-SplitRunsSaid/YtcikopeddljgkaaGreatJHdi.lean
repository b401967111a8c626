/- Package table: a table, and pairs that are put in it. -/
import Derived.Test.YtcikopeddljgkaaGreatJPa
set_option linter.unusedSimpArgs false
set_option linter.unusedVariables false
set_option maxHeartbeats 2000000
set_option maxRecDepth 100000
namespace Go.Proofs.Hc
open Go.RowKit
attribute [local go_sem] zbu zcc zax zbf zbo zbd zbn zbp zbw signed64 signed8 zap BitVec.ofInt_add BitVec.ofInt_mul ofInt_sub' zbb zbc wide8 eqN neN zca shr1 shr7 shr56
attribute [local go_sem high] zbe zbv
attribute [local go_sem] zaw zby zaj zas zaf zaz zar zak zbm zal zay zba
attribute [local go_sem] load26 load73 load23 store26 build73
attribute [local go_sem ↓] lrow26 lrow73 lrow23 srow26 zero26 brow73 zae zbk zbg zaa zab
attribute [local go_sem] zai zav zat zbj zbl zbr zaq zau zbs zbi zbh
attribute [local go_sem] nn2 nm2 nn3 nm3 nn4 nm4 nn5 nm5 nn6 nm6 nn7 nm7 nn8 nm8
section
attribute [local go_sem] Oper.semAt_some zao zbq
attribute [local go_sem] box26 zcb cell0 cell1 cell2 cell3 cell4 zcn zcm
attribute [local go_sem] cell5 cell6
theorem loadP (g o : Nat) (w : World) : (loadRow 31 ⟨g, o, none⟩).run Tryz.prog w = rowRes Tryz.prog 31 g o w ((w.heap[g]?).bind (rowAt o 2)) :=
  run_row Tryz.underlying31 rfl (by kernel_rfl) g o w
theorem storeP (g o : Nat) (vs : Array Value) (w : World) : (storeRow 31 ⟨g, o, none⟩ (.agg vs)).run Tryz.prog w = layRes Tryz.prog 31 g o vs w (((w.heap[g]?).map (canLay o 2 vs)).getD false) :=
  run_lay (by kernel_rfl) g o vs w
theorem lrowP (a : Addr) : loadVar 31 a = loadRow 31 a := rfl
theorem srowP (a : Addr) (v : Value) : storeVar 31 a v = storeRow 31 a v := rfl
theorem zeroP (w : World) : (zeroValue 31).run Tryz.prog w = .ok (.agg #[U 0#64, U 0#64]) w := by kernel_rfl
def PairsAt (cur : Array Value) (l : List (BitVec 64 × BitVec 64)) : Prop := ∀ (i : Nat) (p : BitVec 64 × BitVec 64), l[i]? = some p → rowAt (2 * i) 2 (.cells cur 31 (0, 0)) = some #[U p.1, U p.2]
theorem pcells_at : ∀ (l : List (BitVec 64 × BitVec 64)) (i : Nat) (p : BitVec 64 × BitVec 64), l[i]? = some p → (pcells l)[2 * i]? = some (U p.1) ∧ (pcells l)[2 * i + 1]? = some (U p.2)
  | [], i, p, h => by cases h
  | q :: l, 0, p, h => by
    have : q = p := by simpa using h
    subst this; exact ⟨rfl, rfl⟩
  | q :: l, i + 1, p, h => by
    have := pcells_at l i p (by simpa using h)
    have e : pcells (q :: l) = U q.1 :: U q.2 :: pcells l := rfl
    rw [e, show 2 * (i + 1) = 2 * i + 1 + 1 by omega]
    simpa using this
theorem pairs_at {W : World} {base n : Nat} {a : Option Addr} {c : Nat} {l : List (BitVec 64 × BitVec 64)} (hn : n = l.length) (h : W.ownsRow base 31 2 (.slice a n c) n (pcells l)) :
    ∃ cur, PairsAt cur l ∧ (0 < l.length → ∃ r, a = some ⟨r, 0, none⟩) ∧ ∀ r, a = some ⟨r, 0, none⟩ → base ≤ r ∧ W.heap[r]? = some (.cells cur 31 (0, 0)) := by
  subst hn
  obtain ⟨_, ⟨hv, h0⟩ | ⟨g, cap, cur, hv, hg, hW, hle, _, hsz, hx⟩⟩ := h
  · refine ⟨#[], fun i p hp => ?_, fun hl => by omega, fun r hr => by rw [hr] at hv; simp at hv⟩
    have := (List.getElem?_eq_some_iff.1 hp).1
    omega
  · refine ⟨cur, fun i p hp => ?_, fun _ => ⟨g, by simp only [Value.slice.injEq] at hv; exact hv.1⟩, fun r hr => ?_⟩
    · have hi := (List.getElem?_eq_some_iff.1 hp).1
      obtain ⟨h1, h2⟩ := pcells_at l i p hp
      rw [← hx, List.getElem?_take] at h1 h2
      rw [if_pos (by omega)] at h1 h2
      have h1' : cur[2 * i]? = some (U p.1) := by simpa using h1
      have h2' : cur[2 * i + 1]? = some (U p.2) := by simpa using h2
      rw [zaz, if_pos (by omega)]
      congr 1
      apply Array.ext_getElem?
      intro j
      rw [Array.getElem?_extract]
      match j with
      | 0 => rw [if_pos (by omega)]; simpa using h1'
      | 1 => rw [if_pos (by omega)]; simpa using h2'
      | j + 2 => rw [if_neg (by omega)]; simp
    · rw [hr] at hv
      simp only [Value.slice.injEq] at hv
      have hrg : r = g := by simpa using hv.1
      subst hrg
      exact ⟨hg, hW⟩
theorem allOne_pair (x y : BitVec 64) : allOne #[U x, U y] = true := by simp [allOne, Value.oneCell']
theorem laidAt_p (a b c d : Value) (T : TypeId) (fr : Nat × Nat) : laidAt 0 #[a, b] (.cells #[c, d] T fr) = .cells #[a, b] T fr := by
  have h := laid_whole (#[a, b] : Array Value) #[c, d] rfl
  show Obj.cells (((#[c, d] : Array Value).extract 0 0 ++ #[a, b]) ++ (#[c, d] : Array Value).extract (0 + (#[a, b] : Array Value).size) (#[c, d] : Array Value).size) T fr = _
  rw [h]
attribute [local go_sem] loadP storeP allOne_pair
attribute [local go_sem high] laidAt_p
attribute [local go_sem high] zco
attribute [local go_sem ↓] lrowP srowP zeroP
theorem drop_one {α : Type} {l : List α} {m : Nat} (h : m < l.length) : ∃ p, l[m]? = some p ∧ l.drop m = p :: l.drop (m + 1) :=
  ⟨l[m]'h, List.getElem?_eq_getElem h, List.drop_eq_getElem_cons h⟩
theorem laid_walk (t t0 : Tab) (s : BitVec 64) (l : List (BitVec 64 × BitVec 64)) (n : Nat) (a : Option Addr) (c : Nat) (cur : Array Value) (b : Nat) (w : World) (hok : OkT t0 n) (hn : n + l.length ≤ 900)
    (hb : w.heap[b]? = some (.cells (hcells t s) 141 (0, 0))) (hp : PairsAt cur l) (ha : 0 < l.length → ∃ r, a = some ⟨r, 0, none⟩) (hr : ∀ r, a = some ⟨r, 0, none⟩ → w.heap[r]? = some (.cells cur 31 (0, 0))) :
    Calls Tryz.prog 78 #[.pointer (some ⟨b, 0, none⟩), .agg (tcells t0), .slice a l.length c] w fun e w' => e = retOr (fun x => .agg (tcells x)) (laidT s t0 l) ∧ Ch [] w w' := by
  have hbl := (Array.getElem?_eq_some_iff.1 hb).1
  have hs39 : (hcells t s)[39]? = some (U s) := by rw [zbj]; rfl
  obtain ⟨W0, hW0⟩ : ∃ W0, (w.alloc (.cells (tcells t0) 26)).alloc (.cells (tcells zeroT) 26) = W0 := ⟨_, rfl⟩
  have hC0 : Ch [] w W0 := by rw [← hW0]; exact ((Ch.refl [] w).alloc _).alloc _
  have hs0 : W0.heap.size = w.heap.size + 1 + 1 := by rw [← hW0]; simp
  have b0 : W0.heap[w.heap.size]? = some (.cells (tcells t0) 26 (0, 0)) := by rw [← hW0]; simp [go_sem]
  have b1 : W0.heap[w.heap.size + 1]? = some (.cells (tcells zeroT) 26 (0, 0)) := by rw [← hW0]; simp [go_sem]
  have bb := hkeep hC0 hb
  have hg0 : ∀ q : Gar W0, (q.1).heap[w.heap.size]? = some (.cells (tcells t0) 26 (0, 0)) := fun q => hkeep q.2 b0
  have hg1 : ∀ q : Gar W0, (q.1).heap[b]? = some (.cells (hcells t s) 141 (0, 0)) := fun q => hkeep q.2 bb
  have HR := Lib.hid hr
  have HA := Lib.hid ha
  have HP := Lib.hid hp
  clear hr ha hp hb
  go_enter Tryz.func78, Tryz.ntmps78
  go_wp2
  refine zdb 6 (by kernel_rfl) (by kernel_rfl) ?_
  simp only [List.take_succ_cons, List.take_zero, List.drop_succ_cons, List.drop_zero]
  repeat (go_big_quiet_step (fail))
  refine wpQuiet_nil ?_
  rintro W6 ⟨g6, hw6⟩
  have hc6 : Ch [] W0 W6 := by rw [hw6]; exact g6.2
  clear hw6 g6 hg0 hg1
  have d1 := hkeep hc6 b1
  go_wp2
  have hX : w.heap.size + 1 < W6.heap.size := by have := hc6.size; omega
  have hbX : b < W6.heap.size := by omega
  obtain ⟨X, hXe⟩ : ∃ X, W6.heap.size = X := ⟨_, rfl⟩
  obtain ⟨Wb, hWb⟩ : ∃ Wb, W6.alloc (.cells (hcells t0 s) 141) = Wb := ⟨_, rfl⟩
  have eX : Wb.heap[X]? = some (.cells (hcells t0 s) 141 (0, 0)) := by rw [← hWb, zae, if_pos hXe.symm]
  have hCb : Ch [] W6 Wb := by rw [← hWb]; exact (Ch.refl [] W6).alloc _
  have e1 := hkeep hCb d1
  have hCw : Ch [] w Wb := (hC0.trans hc6).trans hCb
  rw [hWb, hXe]
  rw [hXe] at hX hbX
  have HX := Lib.hid hXe
  clear hWb hXe d1 hCb b0 b1 bb hs0 hs39 hW0
  go_loopw [22] (fun i wr => ∃ (m : Nat) (tm : Tab), i = .int .i64 m ∧ m ≤ l.length ∧ OkT tm (n + m) ∧ laidT s t0 l = laidT s tm (l.drop m) ∧ wr.heap[X]? = some (.cells (hcells tm s) 141 (0, 0)) ∧ Ch [X] Wb wr) (fun i _ => l.length - (intOf i).toNat)
  case atStart => exact ⟨0, t0, rfl, Nat.zero_le _, hok, rfl, eX, Ch.refl _ _⟩
  case round =>
    obtain ⟨m, tm, hm, hml, hokm, hlaid, hxm, hcm⟩ := hrel
    subst hm
    have HL := Lib.hid hlaid
    clear hlaid eX
    rcases Nat.lt_or_ge m l.length with hlt | hge
    · obtain ⟨r, hra⟩ := HA.out (by omega)
      obtain ⟨p, hpm, hdrop⟩ := drop_one hlt
      have hrow := HP.out m p hpm
      have hrow' : rowAt (m * 2) 2 (.cells cur 31 (0, 0)) = some #[U p.1, U p.2] := by rw [Nat.mul_comm]; exact hrow
      subst hra
      have hrr : wr.heap[r]? = some (.cells cur 31 (0, 0)) := by
        have h1 := HR.out r rfl
        have h2 := hkeep hCw h1
        exact hkeepS hcm (by have := (Array.getElem?_eq_some_iff.1 h1).1; simp; omega) h2
      have hdec : decide (m < l.length) = true := by simpa using hlt
      have hne : ¬ X = wr.heap.size := by have := (Array.getElem?_eq_some_iff.1 hxm).1; omega
      have hne2 : ¬ r = wr.heap.size := by have := (Array.getElem?_eq_some_iff.1 hrr).1; omega
      have HXM := Lib.hid hxm
      have HD := Lib.hid hdrop
      clear hdrop hpm
      have P1 := fun (w : World) hb => put_any tm (n + m) s p.1 p.2 X w hokm (by omega) hb
      go_wp2_with fail
      cases hP : placeT tm s p.1 with
      | error e0 =>
        have HPP := Lib.hid hP
        rw [hP] at P1
        clear hP
        refine (P1 _ ?_).mono ?_
        · simp [go_sem, hne, HXM.out]
        · rintro e w2 ⟨rfl, hc2, _⟩
          simp only [retOr]
          have hc2' : Ch [X] Wb w2 := ((hcm.alloc (.cells #[U 0#64, U 0#64] 31)).onObj (.inr (by have := hcm.size; exact this)) _).trans hc2
          exact ⟨rfl, by rw [HL.out, HD.out, laidT_err HPP.out]; rfl, hCw.trans2 hc2' (by simp; omega)⟩
      | ok sl =>
        have HPP := Lib.hid hP
        have hfill := hokm.fill s p.1 p.2 sl (by obtain ⟨g, x, hsl, hg, hx, _⟩ := place_ok hP; omega)
        rw [hP] at P1
        clear hP
        refine (P1 _ ?_).mono ?_
        · simp [go_sem, hne, HXM.out]
        · rintro e w2 ⟨rfl, hc2, hh⟩
          have hx2 := hh sl rfl
          clear hh
          simp only [retOr]
          go_wp2
          go_roundw
          case rel => exact ⟨m + 1, _, by go_num, hlt, by rw [← Nat.add_assoc]; exact hfill, by rw [HL.out, HD.out, laidT_ok HPP.out], hx2, ((hcm.alloc (.cells #[U 0#64, U 0#64] 31)).onObj (.inr (by have := hcm.size; exact this)) _).trans hc2⟩
          case measure => simp [intOf]; omega
    · have hme : m = l.length := Nat.le_antisymm hml hge
      have hdec : decide (m < l.length) = false := by simpa using hge
      have HM := Lib.hid hme
      have e1' := hkeepS hcm (by simp; omega) e1
      clear hme hge
      go_wp2
      refine bodyPost_ret (v := .agg (tcells tm)) (zdi Tryz.results78 _ _ _ rfl (run_loadVar_row _ _ 26 26 (tcells tm) (0, 0) _ ?_ Tryz.underlying26 rfl (by rw [zai]; kernel_rfl))) rfl ⟨?_, ?_⟩
      · rw [zab, if_pos rfl, e1', Option.map_some, zco]
      · rw [HL.out, HM.out, List.drop_length, laidT_nil]; rfl
      · exact (hCw.trans2 hcm (by simp; omega)).onObj (.inr (by show w.heap.size ≤ w.heap.size + 1; omega)) _
end
end Go.Proofs.Hc
namespace Go.Proofs.Hc
open Go.RowKit
def PartT.cell (p : PartT) : Nat → Value
  | 0 => I p.ph
  | 1 => I p.who
  | 2 => I p.sl
  | 3 => I p.t0
  | 4 => I p.t1
  | 5 => U p.seed
  | 6 => U p.count
  | 7 => U p.head
  | i + 8 => if i < 2 then U (p.c i) else if i < 18 then U (p.k (i - 2)) else if i < 34 then U (p.v (i - 18)) else if i < 35 then I p.at_ else U (p.ws (i - 35))
def partC (p : PartT) : Array Value := Array.ofFn (n := 123) fun i => p.cell i.1
theorem zbt (p : PartT) : (partC p).size = 123 := by simp [partC]
theorem zdl (p : PartT) (i : Nat) : (partC p)[i]? = if i < 123 then some (p.cell i) else none := by
  unfold partC; rw [Array.getElem?_ofFn]; simp
theorem partCell_one (p : PartT) (i : Nat) : (p.cell i).oneCell' = true := by
  unfold PartT.cell; split <;> try rfl
  split <;> try rfl
  split <;> try rfl
  split <;> try rfl
  split <;> rfl
theorem zci (p : PartT) : allOne (partC p) = true := by
  unfold allOne
  simp only [partC, Array.all_eq_true_iff_forall_mem, Array.mem_ofFn]; rintro v ⟨i, rfl⟩; exact partCell_one ..
theorem zck (p : PartT) : (partC p).extract 0 123 = partC p := by
  have := Array.extract_size (xs := partC p); rwa [zbt] at this
theorem zcs (p : PartT) : (partC p)[0]? = some (I p.ph) := by rw [zdl]; rfl
theorem zcx (p : PartT) : (partC p)[1]? = some (I p.who) := by rw [zdl]; rfl
theorem zcp (p : PartT) : (partC p)[2]? = some (I p.sl) := by rw [zdl]; rfl
theorem zcw (p : PartT) : (partC p)[3]? = some (I p.t0) := by rw [zdl]; rfl
theorem zcv (p : PartT) : (partC p)[4]? = some (I p.t1) := by rw [zdl]; rfl
theorem zdg (p : PartT) : (partC p)[5]? = some (U p.seed) := by rw [zdl]; rfl
theorem zcu (p : PartT) : (partC p)[6]? = some (U p.count) := by rw [zdl]; rfl
theorem zdf (p : PartT) : (partC p)[7]? = some (U p.head) := by rw [zdl]; rfl
theorem zce (p : PartT) : (partC p)[42]? = some (I p.at_) := by rw [zdl]; rfl
theorem part_gc (p : PartT) (j : Nat) (h : j < 2) : (partC p)[8 + j]? = some (U (p.c j)) := by
  rw [zdl, if_pos (by omega), Nat.add_comm]; simp [PartT.cell, h]
theorem part_gk (p : PartT) (j : Nat) (h : j < 16) : (partC p)[10 + j]? = some (U (p.k j)) := by
  rw [zdl, if_pos (by omega), show 10 + j = (j + 2) + 8 by omega]; simp [PartT.cell, show j + 2 < 18 by omega, show ¬ j + 2 < 2 by omega]
theorem part_gv (p : PartT) (j : Nat) (h : j < 16) : (partC p)[26 + j]? = some (U (p.v j)) := by
  rw [zdl, if_pos (by omega), show 26 + j = (j + 18) + 8 by omega]; simp [PartT.cell, show ¬ j + 18 < 2 by omega, show ¬ j + 18 < 18 by omega, show j + 18 < 34 by omega]
theorem part_gw (p : PartT) (j : Nat) (h : j < 80) : (partC p)[43 + j]? = some (U (p.ws j)) := by
  rw [zdl, if_pos (by omega), show 43 + j = (j + 35) + 8 by omega]; simp [PartT.cell, show ¬ j + 35 < 2 by omega, show ¬ j + 35 < 18 by omega, show ¬ j + 35 < 34 by omega]
theorem zcj (p : PartT) (i : Nat) (h : i < (partC p).size) : (partC p)[i] = p.cell i := by simp [partC]
theorem pacell0 (p : PartT) : p.cell 0 = I p.ph := rfl
theorem pacell1 (p : PartT) : p.cell 1 = I p.who := rfl
theorem pacell2 (p : PartT) : p.cell 2 = I p.sl := rfl
theorem pacell3 (p : PartT) : p.cell 3 = I p.t0 := rfl
theorem pacell4 (p : PartT) : p.cell 4 = I p.t1 := rfl
theorem pacell5 (p : PartT) : p.cell 5 = U p.seed := rfl
theorem pacell6 (p : PartT) : p.cell 6 = U p.count := rfl
theorem pacell7 (p : PartT) : p.cell 7 = U p.head := rfl
theorem pacell42 (p : PartT) : p.cell 42 = I p.at_ := rfl
theorem paset {p p' : PartT} {j : Nat} {x : Value} (hj : j < 123) (hx : p'.cell j = x) (ho : ∀ i, i < 123 → i ≠ j → p'.cell i = p.cell i) :
    (partC p).setIfInBounds j x = partC p' := by
  apply Array.ext_getElem?; intro i
  rw [Array.getElem?_setIfInBounds, zdl, zdl, zbt]
  by_cases h : j = i
  · subst h; simp [hj, hx]
  · rw [if_neg h]
    by_cases h2 : i < 123
    · simp only [h2, if_true]; rw [ho i h2 (fun e => h e.symm)]
    · simp [h2]
theorem zcr (p : PartT) (x : Int) : (partC p).setIfInBounds 0 (I x) = partC { p with ph := x } :=
  paset (by omega) rfl (fun i _ h => by unfold PartT.cell; split <;> first | rfl | omega)
theorem zdj (p : PartT) (x : BitVec 64) : (partC p).setIfInBounds 6 (U x) = partC { p with count := x } :=
  paset (by omega) rfl (fun i _ h => by unfold PartT.cell; split <;> first | rfl | omega)
theorem zdc (p : PartT) (x : BitVec 64) : (partC p).setIfInBounds 7 (U x) = partC { p with head := x } :=
  paset (by omega) rfl (fun i _ h => by unfold PartT.cell; split <;> first | rfl | omega)
theorem zch (p : PartT) (x : Int) : (partC p).setIfInBounds 42 (I x) = partC { p with at_ := x } := by
  refine paset (by omega) rfl (fun i hi h => ?_)
  unfold PartT.cell
  split <;> first | rfl | skip
  rename_i i
  by_cases h35 : i < 34
  · by_cases a : i < 2
    · simp [a]
    · by_cases b : i < 18
      · simp [a, b]
      · simp [a, b, h35]
  · simp [show ¬ i < 2 by omega, show ¬ i < 18 by omega, h35, show ¬ i < 35 by omega]
theorem part_sc (p : PartT) (j : Nat) (hj : j < 2) (x : BitVec 64) : (partC p).setIfInBounds (8 + j) (U x) = partC { p with c := updW p.c j x } := by
  refine paset (by omega) ?_ (fun i hi h => ?_)
  · rw [Nat.add_comm]; simp [PartT.cell, hj, updW]
  · unfold PartT.cell
    split <;> first | rfl | skip
    rename_i i
    by_cases a : i < 2
    · simp [a, updW, show i ≠ j by omega]
    · simp [a]
theorem part_sk (p : PartT) (j : Nat) (hj : j < 16) (x : BitVec 64) : (partC p).setIfInBounds (10 + j) (U x) = partC { p with k := updW p.k j x } := by
  refine paset (by omega) ?_ (fun i hi h => ?_)
  · rw [show 10 + j = (j + 2) + 8 by omega]; simp [PartT.cell, show j + 2 < 18 by omega, show ¬ j + 2 < 2 by omega, updW]
  · unfold PartT.cell
    split <;> first | rfl | skip
    rename_i i
    by_cases a : i < 2
    · simp [a]
    · by_cases b : i < 18
      · simp [a, b, updW, show ¬ i - 2 = j by omega]
      · simp [a, b]
theorem part_sv (p : PartT) (j : Nat) (hj : j < 16) (x : BitVec 64) : (partC p).setIfInBounds (26 + j) (U x) = partC { p with v := updW p.v j x } := by
  refine paset (by omega) ?_ (fun i hi h => ?_)
  · rw [show 26 + j = (j + 18) + 8 by omega]; simp [PartT.cell, show ¬ j + 18 < 2 by omega, show ¬ j + 18 < 18 by omega, show j + 18 < 34 by omega, updW]
  · unfold PartT.cell
    split <;> first | rfl | skip
    rename_i i
    by_cases a : i < 2
    · simp [a]
    · by_cases b : i < 18
      · simp [a, b]
      · by_cases d : i < 34
        · simp [a, b, d, updW, show ¬ i - 18 = j by omega]
        · simp [a, b, d]
theorem part_sw (p : PartT) (j : Nat) (hj : j < 80) (x : BitVec 64) : (partC p).setIfInBounds (43 + j) (U x) = partC { p with ws := updW p.ws j x } := by
  refine paset (by omega) ?_ (fun i hi h => ?_)
  · rw [show 43 + j = (j + 35) + 8 by omega]; simp [PartT.cell, show ¬ j + 35 < 2 by omega, show ¬ j + 35 < 18 by omega, show ¬ j + 35 < 34 by omega, updW]
  · unfold PartT.cell
    split <;> first | rfl | skip
    rename_i i
    by_cases a : i < 35
    · by_cases b : i < 2
      · simp [b]
      · by_cases d : i < 18
        · simp [b, d]
        · by_cases e : i < 34
          · simp [b, d, e]
          · simp [b, d, e, a]
    · simp [show ¬ i < 2 by omega, show ¬ i < 18 by omega, show ¬ i < 34 by omega, a, updW, show ¬ i - 35 = j by omega]
theorem boxPart (p : PartT) (w : World) : (Instr.box 51 (.agg (partC p))).run Tryz.prog w = .ok (.pointer (some ⟨w.heap.size, 0, none⟩)) (w.alloc (.cells (partC p) 51)) := rfl
theorem loadPart (g o : Nat) (w : World) : (loadRow 51 ⟨g, o, none⟩).run Tryz.prog w = rowRes Tryz.prog 51 g o w ((w.heap[g]?).bind (rowAt o 123)) :=
  run_row Tryz.underlying51 rfl (by kernel_rfl) g o w
theorem storePart (g o : Nat) (vs : Array Value) (w : World) : (storeRow 51 ⟨g, o, none⟩ (.agg vs)).run Tryz.prog w = layRes Tryz.prog 51 g o vs w (((w.heap[g]?).map (canLay o 123 vs)).getD false) :=
  run_lay (by kernel_rfl) g o vs w
theorem lrowPart (a : Addr) : loadVar 51 a = loadRow 51 a := rfl
theorem srowPart (a : Addr) (v : Value) : storeVar 51 a v = storeRow 51 a v := rfl
theorem browPart (ps : Array (Nat × Value)) : Instr.build 51 ps = buildRow 51 ps := rfl
theorem zcl (ps : Array (Nat × Value)) : Instr.build 179 ps = buildRow 179 ps := rfl
theorem zcf (p : PartT) (w : World) : (buildRow 179 #[(0, .agg (partC p))]).run Tryz.prog w = .ok (.agg (partC p)) w := by kernel_rfl
theorem zct (p : PartT) (w : World) : (Instr.box 179 (.agg (partC p))).run Tryz.prog w = .ok (.pointer (some ⟨w.heap.size, 0, none⟩)) (w.alloc (.cells (partC p) 179)) := rfl
theorem zbz (w : World) : (zeroValue 51).run Tryz.prog w = .ok (.agg (partC zeroPart)) w := by kernel_rfl
theorem zag (p q : PartT) (T : TypeId) (fr : Nat × Nat) : laidAt 0 (partC q) (.cells (partC p) T fr) = .cells (partC q) T fr := by
  rw [zak, laid_whole _ _ (by rw [zbt, zbt])]
theorem buildPart0 (w : World) : (buildRow 51 #[]).run Tryz.prog w = .ok (.agg (partC zeroPart)) w := by kernel_rfl
def firstP22 (who sl a b : Int) (seed : BitVec 64) : PartT := ⟨0, who, sl, a, b, seed, 0#64, 0#64, fun _ => 0#64, fun _ => 0#64, fun _ => 0#64, 0, fun _ => 0#64⟩
theorem buildPart4 (who sl a b : Int) (seed : BitVec 64) (w : World) : (buildRow 51 #[(1, I who), (2, I sl), (3, .agg #[I a, I b]), (4, U seed)]).run Tryz.prog w = .ok (.agg (partC (firstP22 who sl a b seed))) w := by kernel_rfl
end Go.Proofs.Hc
namespace Go.Proofs.Hc
open Go.RowKit
attribute [local go_sem] zbu zcc zax zbf zbo zbd zbn zbp zbw signed64 signed8 zap BitVec.ofInt_add BitVec.ofInt_mul ofInt_sub' zbb zbc wide8 eqN neN zca shr1 shr7 shr56
attribute [local go_sem high] zbe zbv
attribute [local go_sem] zaw zby zaj zas zaf zaz zar zak zbm zal zay zba
attribute [local go_sem] load26 load73 load23 store26 build73
attribute [local go_sem ↓] lrow26 lrow73 lrow23 srow26 zero26 brow73 zae zbk zbg zaa zab
attribute [local go_sem] zai zav zat zbj zbl zbr zaq zau zbs zbi zbh
attribute [local go_sem] nn2 nm2 nn3 nm3 nn4 nm4 nn5 nm5 nn6 nm6 nn7 nm7 nn8 nm8
section
attribute [local go_sem] Oper.semAt_some zao
attribute [local go_sem] loadP storeP allOne_pair
attribute [local go_sem high] laidAt_p
attribute [local go_sem ↓] lrowP srowP zeroP
theorem box_pair (x y : BitVec 64) (w : World) : (Instr.box 31 (.agg #[U x, U y])).run Tryz.prog w = .ok (.pointer (some ⟨w.heap.size, 0, none⟩)) (w.alloc (.cells #[U x, U y] 31)) := rfl
attribute [local go_sem] box_pair
end
section
attribute [local go_sem] zap zbq
attribute [local go_sem] Oper.semAt_some zao
attribute [local go_sem] zcj pacell0 pacell1 pacell2 pacell3 pacell4 pacell5 pacell6 pacell7 pacell42
attribute [local go_sem] zcs zcx zcp zcw zcv zdg zcu zdf zce zcr zdj zdc zch zbt zci zck boxPart loadPart storePart zcf zct buildPart0 buildPart4
attribute [local go_sem ↓] lrowPart srowPart browPart zcl zbz
attribute [local go_sem high] zag
attribute [local irreducible] partC
theorem slabs_cases (a b c : Int) : (slabsS a b c = false ∧ (a < 0 ∨ 0 ≤ a ∧ (128 ≤ a ∨ a < 128 ∧ (b < 0 ∨ 0 ≤ b ∧ (128 ≤ b ∨ b < 128 ∧ ((a == b) = true ∨ (a == b) = false ∧ (c < 0 ∨ 0 ≤ c ∧ (128 ≤ c ∨ c < 128 ∧ ((b == c) = true ∨ (b == c) = false ∧ (a == c) = true))))))))) ∨
    slabsS a b c = true ∧ (0 ≤ a ∧ a < 128) ∧ (0 ≤ b ∧ b < 128) ∧ (0 ≤ c ∧ c < 128) ∧ (a == b) = false ∧ (b == c) = false ∧ (a == c) = false := by
  cases h : slabsS a b c with
  | true =>
    have := (slabsS_iff a b c).1 h
    right
    refine ⟨rfl, this.1, this.2.1, this.2.2.1, ?_, ?_, ?_⟩ <;> simp <;> omega
  | false =>
    left
    refine ⟨rfl, ?_⟩
    have hn : ¬ ((0 ≤ a ∧ a < 128) ∧ (0 ≤ b ∧ b < 128) ∧ (0 ≤ c ∧ c < 128) ∧ a ≠ b ∧ a ≠ c ∧ b ≠ c) := fun hh => by rw [(slabsS_iff a b c).2 hh] at h; cases h
    simp only [beq_iff_eq, beq_eq_false_iff_ne]
    omega
theorem pSlabs_any (a b c : Int) (r c3 : Nat) (w : World) (hr : w.heap[r]? = some (.cells #[I a, I b, I c] 3 (0, 0))) : Calls Tryz.prog 113 #[.slice (some ⟨r, 0, none⟩) 3 c3] w fun e w' => e = .returned (.bool (slabsS a b c)) ∧ w = w' := by
  obtain ⟨z, hz⟩ : ∃ z, slabsS a b c = z := ⟨_, rfl⟩
  have hcs := slabs_cases a b c
  rw [hz] at hcs ⊢
  clear hz
  rcases hcs with ⟨rfl, h | ⟨h0, h | ⟨h1, h | ⟨h2, h | ⟨h3, h | ⟨h4, h | ⟨h5, h | ⟨h6, h | ⟨h7, h8⟩⟩⟩⟩⟩⟩⟩⟩⟩ | ⟨rfl, ⟨h0, h1⟩, ⟨h2, h3⟩, ⟨h4, h5⟩, h6, h7, h8⟩
  all_goals
    go_enter Tryz.func113, Tryz.ntmps113
    go_wp2
    refine wp_loop_rounds 4 ?_
    rw [rounds_succ]
    go_wp2
    try (rw [rounds_succ]; go_wp2)
    try (rw [rounds_succ]; go_wp2)
    try (rw [rounds_succ]; go_wp2)
    go_ret
    exact ⟨rfl, rfl⟩
end
end Go.Proofs.Hc
namespace Go.Proofs.Hc
open Go.RowKit
theorem part_fields : (Tryz.prog.fieldsOf 51).toList.map (fun f => (f.type, f.offset)) = [(3, 0), (3, 1), (3, 2), (45, 3), (22, 5), (22, 6), (22, 7), (23, 8), (24, 10), (24, 26), (3, 42), (49, 43)] := by kernel_rfl
theorem part_under : Tryz.prog.underlying 51 = some (.struct (Tryz.prog.fieldsOf 51)) := by kernel_rfl
theorem part_stood : Tryz.prog.stoodInHeld 51 = false := by kernel_rfl
theorem ci2_cells : Tryz.prog.cellsOf 45 = 2 := by kernel_rfl
theorem c40s_cells : Tryz.prog.cellsOf 48 = 40 := by kernel_rfl
theorem c80_cells : Tryz.prog.cellsOf 49 = 80 := by kernel_rfl
theorem self_ints {d n : Nat} {T : TypeId} (h : Tryz.prog.underlying T = some (.array n 3)) (xs : Array Value) (hx : ∀ i, i < n → ∃ b : Int, xs[i]? = some (I b)) : SelfEq (d + 2) T (.agg xs) := fun w => by
  obtain ⟨i, hi⟩ : ∃ i, Tryz.prog.info? 3 = some i := info_of_underlying Tryz.underlying3
  rw [run_equalIn_array w (d + 1) xs xs h hi]
  have hc : Tryz.prog.cellsOf 3 = 1 := by kernel_rfl
  rw [hc]
  refine self_items _ (fun j hj => ?_) w
  obtain ⟨b, hb⟩ := hx j (by simpa using hj)
  exact ⟨I b, fun w => part_int Tryz.underlying3 (by rw [Nat.mul_one]; exact hb) w, self_int d _ _ _ _ Tryz.underlying3⟩
theorem self_w80 {d : Nat} (xs : Array Value) (hx : ∀ i, i < 80 → ∃ b : BitVec 64, xs[i]? = some (U b)) : SelfEq (d + 3) 49 (.agg xs) := fun w => by
  obtain ⟨i, hi⟩ := info_of_underlying (P := Tryz.prog) Tryz.underlying48
  rw [run_equalIn_array w (d + 2) _ _ Tryz.underlying49 hi, c40s_cells]
  refine self_items _ (fun j hj => ?_) w
  have hj2 : j < 2 := by simpa using hj
  refine ⟨_, part_arr Tryz.underlying48 hi c40s_cells _ _, self_words Tryz.underlying48 _ (fun k hk => ?_)⟩
  obtain ⟨b, hb⟩ := hx (j * 40 + k) (by omega)
  have hlt := (Array.getElem?_eq_some_iff.1 hb).1
  have hlt2 : j * 40 + k < xs.size := hlt
  obtain ⟨b2, hb2⟩ := hx 79 (by omega)
  have h79 := (Array.getElem?_eq_some_iff.1 hb2).1
  refine ⟨b, ?_⟩
  rw [Array.getElem?_extract, if_pos (by omega)]
  exact hb
theorem self_part (d : Nat) (p : PartT) : SelfEq (d + 4) 51 (.agg (partC p)) := fun w => by
  rw [run_equalIn_agg w (d + 3) 51 _ _ part_under part_stood]
  refine self_fields _ (fun f hf => ?_) w
  have hm : (f.type, f.offset) ∈ [(3, 0), (3, 1), (3, 2), (45, 3), (22, 5), (22, 6), (22, 7), (23, 8), (24, 10), (24, 26), (3, 42), (49, 43)] := by
    rw [← part_fields]; exact List.mem_map.2 ⟨f, hf, rfl⟩
  generalize f.type = T at *
  generalize f.offset = o at *
  obtain ⟨ii, hii⟩ := info_of_underlying (P := Tryz.prog) Tryz.underlying45
  obtain ⟨i2, h2⟩ := info_of_underlying (P := Tryz.prog) Tryz.underlying23
  obtain ⟨i16, h16⟩ := info_of_underlying (P := Tryz.prog) Tryz.underlying24
  obtain ⟨i80, h80⟩ := info_of_underlying (P := Tryz.prog) Tryz.underlying49
  simp only [List.mem_cons, Prod.mk.injEq, List.not_mem_nil, or_false] at hm
  rcases hm with ⟨rfl, rfl⟩ | ⟨rfl, rfl⟩ | ⟨rfl, rfl⟩ | ⟨rfl, rfl⟩ | ⟨rfl, rfl⟩ | ⟨rfl, rfl⟩ | ⟨rfl, rfl⟩ | ⟨rfl, rfl⟩ | ⟨rfl, rfl⟩ | ⟨rfl, rfl⟩ | ⟨rfl, rfl⟩ | ⟨rfl, rfl⟩
  · exact ⟨_, part_int Tryz.underlying3 (zcs p), self_int _ _ _ _ _ Tryz.underlying3⟩
  · exact ⟨_, part_int Tryz.underlying3 (zcx p), self_int _ _ _ _ _ Tryz.underlying3⟩
  · exact ⟨_, part_int Tryz.underlying3 (zcp p), self_int _ _ _ _ _ Tryz.underlying3⟩
  · refine ⟨_, part_arr Tryz.underlying45 hii ci2_cells _ _, self_ints Tryz.underlying45 _ (fun i hi => ?_)⟩
    match i, hi with
    | 0, _ => exact ⟨p.t0, by rw [Array.getElem?_extract, if_pos (by rw [zbt]; omega)]; exact zcw p⟩
    | 1, _ => exact ⟨p.t1, by rw [Array.getElem?_extract, if_pos (by rw [zbt]; omega)]; exact zcv p⟩
  · exact ⟨_, part_int Tryz.underlying22 (zdg p), self_int _ _ _ _ _ Tryz.underlying22⟩
  · exact ⟨_, part_int Tryz.underlying22 (zcu p), self_int _ _ _ _ _ Tryz.underlying22⟩
  · exact ⟨_, part_int Tryz.underlying22 (zdf p), self_int _ _ _ _ _ Tryz.underlying22⟩
  · refine ⟨_, part_arr Tryz.underlying23 h2 c2_cells _ _, self_words Tryz.underlying23 _ (fun i hi => ⟨p.c i, ?_⟩)⟩
    rw [Array.getElem?_extract, if_pos (by rw [zbt]; omega)]
    exact part_gc p i hi
  · refine ⟨_, part_arr Tryz.underlying24 h16 c16_cells _ _, self_words Tryz.underlying24 _ (fun i hi => ⟨p.k i, ?_⟩)⟩
    rw [Array.getElem?_extract, if_pos (by rw [zbt]; omega)]
    exact part_gk p i hi
  · refine ⟨_, part_arr Tryz.underlying24 h16 c16_cells _ _, self_words Tryz.underlying24 _ (fun i hi => ⟨p.v i, ?_⟩)⟩
    rw [Array.getElem?_extract, if_pos (by rw [zbt]; omega)]
    exact part_gv p i hi
  · exact ⟨_, part_int Tryz.underlying3 (zce p), self_int _ _ _ _ _ Tryz.underlying3⟩
  · refine ⟨.agg ((partC p).extract 43 (43 + 80)), fun w => by simp [part, isAgg, run_underlying Tryz.underlying49, run_sizeOf w h80, c80_cells], self_w80 _ (fun i hi => ⟨p.ws i, ?_⟩)⟩
    rw [Array.getElem?_extract, if_pos (by rw [zbt]; omega)]
    exact part_gw p i hi
theorem eql_part (p : PartT) (w : World) : (binOp .eql 51 (.agg (partC p)) (.agg (partC p))).run Tryz.prog w = .ok (.bool true) w := by
  rw [run_eql_struct, self_part 9996 p w]; rfl
theorem neq_part (p : PartT) (w : World) : (binOp .neq 51 (.agg (partC p)) (.agg (partC p))).run Tryz.prog w = .ok (.bool false) w := by
  rw [run_neq_struct, self_part 9996 p w]; rfl
theorem guardPart (op : BinOp) (x y : Operand) (xs ys : Array Value) (w : World) : (eqGuard op 51 x y (.agg xs) (.agg ys)).run Tryz.prog w = .ok () w := run_eqGuard_agg w op 51 x y xs ys (by kernel_rfl)
end Go.Proofs.Hc
namespace Go.Proofs.Hc
open Go.RowKit
attribute [local go_sem] zbu zcc zax zbf zbo zbd zbn zbp zbw signed64 signed8 zap BitVec.ofInt_add BitVec.ofInt_mul ofInt_sub' zbb zbc wide8 eqN neN zca shr1 shr7 shr56
attribute [local go_sem high] zbe zbv
attribute [local go_sem] zaw zby zaj zas zaf zaz zar zak zbm zal zay zba
attribute [local go_sem] load26 load73 load23 store26 build73
attribute [local go_sem ↓] lrow26 lrow73 lrow23 srow26 zero26 brow73 zae zbk zbg zaa zab
attribute [local go_sem] zai zav zat zbj zbl zbr zaq zau zbs zbi zbh
attribute [local go_sem] nn2 nm2 nn3 nm3 nn4 nm4 nn5 nm5 nn6 nm6 nn7 nm7 nn8 nm8
section
attribute [local go_sem] Oper.semAt_some zao
theorem cloneWords_none (c : Nat) (w : World) : Calls Tryz.prog 54 #[.slice none 0 c] w fun e w' => e = .returned (.slice none 0 0) ∧ w = w' := by
  have q22 : ∀ (w : World) (a : Option Addr) (n c n' c' : Nat), (binOp .eql 44 (.slice a n c) (.slice none n' c')).run Tryz.prog w = .ok (.bool a.isNone) w := fun w a n c n' c' => Lib.run_eql_slice_nil w _ _ a n c n' c' Tryz.underlying44
  go_enter Tryz.func54, Tryz.ntmps54
  go_wp2
  go_ret
  exact ⟨rfl, rfl⟩
end
end Go.Proofs.Hc
