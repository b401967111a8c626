/- Package table: Halves. -/
import Derived.Test.YtcikopeddljgkaaGreatKHts
import Derived.Test.YtcikopeddljgkaaGreatK0
set_option linter.unusedSimpArgs false
set_option linter.unusedVariables false
set_option maxHeartbeats 4000000
set_option maxRecDepth 100000
namespace Go.Proofs.Hc
open Go.RowKit
attribute [local go_sem] zbr zcd zat zaz zbn zax zbm zbo zbw signed64 signed8 zar BitVec.ofInt_add BitVec.ofInt_mul ofInt_sub' zav zaw wide8 eqN neN zcc shr1 shr7 shr56
attribute [local go_sem high] zay zbv
attribute [local go_sem] zau zbx zai zal zac zbd zan zah zbk zaj zbc zbe
attribute [local go_sem] load26 load73 load23 store26 build73
attribute [local go_sem ↓] lrow26 lrow73 lrow23 srow26 zero26 brow73 zab zba zbb zaa zae
attribute [local go_sem] zag zap zaf zbf zbi zbp zam zaq zbq zbh zbg
attribute [local go_sem] nn2 nm2 nn3 nm3 nn4 nm4 nn5 nm5 nn6 nm6 nn7 nm7 nn8 nm8
section
attribute [local go_sem] loadA loadT2 storeA storeT2 buildA_ts buildA_sm zcm make_func zcl zbt zcw zcg zdd zcr zcn zde zcs t2cells_l t2cells_r
attribute [local go_sem ↓] lrowA lrowT2 srowA srowT2 browA zeroA_run zcz
attribute [local go_sem] Oper.semAt_some zak zbj
attribute [local go_sem] box26 zbz cell0 cell1 cell2 cell3 cell4 zcb zca
attribute [local go_sem] cell5 cell6
attribute [local go_sem] loadP storeP allOne_pair
attribute [local go_sem ↓] lrowP srowP zeroP
attribute [local go_sem high] zcu laidAt_p
theorem enters_halves1 (args : Array Value) (w : World) : (callFunc 82 args).run Tryz.prog w = .ok (.enter 82 args) w := by kernel_rfl
def halfB (t : Tab) (i : Nat) : Tab := bareT 0#64 (t.depth + 1) (2#64 * t.pre + BitVec.ofNat 64 i)
def goesH (t : Tab) (s : BitVec 64) (i : Nat) (p : BitVec 64 × BitVec 64) : Bool := hasT (halfB t i) (hashOf s p.1)
def halfL (t : Tab) (s : BitVec 64) (i : Nat) : List (BitVec 64 × BitVec 64) := (pairsT t).filter (goesH t s i)
def outT (X : Nat → Tab) : Nat → T2
  | 0 => zeroT2
  | 1 => ⟨X 0, zeroT⟩
  | _ => ⟨X 0, X 1⟩
theorem laidAt_t2 (a b : T2) (T : TypeId) (fr : Nat × Nat) : laidAt 0 (t2cells b) (.cells (t2cells a) T fr) = .cells (t2cells b) T fr := by
  rw [zah, laid_whole _ _ (by rw [zbt, zbt])]
attribute [local go_sem high] laidAt_t2
theorem laid_l (a : T2) (x : Tab) (T : TypeId) (fr : Nat × Nat) : laidAt 0 (tcells x) (.cells (t2cells a) T fr) = .cells (t2cells ⟨x, a.r⟩) T fr := by
  rw [zah]
  refine congrArg (fun c => Obj.cells c T fr) ?_
  have h0 : (t2cells a).extract 0 0 = #[] := by apply Array.eq_empty_of_size_eq_zero; simp
  rw [h0, Array.empty_append, zag, zbt]
  apply Array.ext_getElem?; intro i
  rw [Array.getElem?_append, zag, zcg, zaf, Array.getElem?_extract, zcg, zbt]
  by_cases h : i < 39
  · simp [h, show i < 78 by omega]
  · simp only [h, if_false]
    by_cases h2 : i < 78
    · rw [if_pos (by omega), if_pos (by omega), if_pos h2, if_neg (by omega), show 0 + 39 + (i - 39) = i by omega]
    · rw [if_neg (by omega), if_neg h2]
theorem laid_r (a : T2) (x : Tab) (T : TypeId) (fr : Nat × Nat) : laidAt 39 (tcells x) (.cells (t2cells a) T fr) = .cells (t2cells ⟨a.l, x⟩) T fr := by
  rw [zah]
  refine congrArg (fun c => Obj.cells c T fr) ?_
  have h0 : (t2cells a).extract (39 + (tcells x).size) (t2cells a).size = #[] := by apply Array.eq_empty_of_size_eq_zero; simp [zag, zbt]
  have h1 : (t2cells a).extract 0 39 = tcells a.l := t2cells_l a
  rw [h0, Array.append_empty, h1]
  apply Array.ext_getElem?; intro i
  rw [Array.getElem?_append, zag, zcg, zaf, zaf]
  by_cases h : i < 39
  · simp [h, show i < 78 by omega]
  · simp only [h, if_false]
    by_cases h2 : i < 78
    · rw [if_pos (by omega), if_pos h2]
    · rw [if_neg (by omega), if_neg h2]
def qf (x : Tab) (s : BitVec 64) (p : BitVec 64 × BitVec 64) : Bool := hasT x (hashOf s p.1)
theorem take_filter {α : Type} (f : α → Bool) {l : List α} {j : Nat} {q : α} (h : l[j]? = some q) : (l.take (j + 1)).filter f = (l.take j).filter f ++ if f q then [q] else [] := by
  rw [List.take_add_one, h, List.filter_append]
  simp only [Option.toList_some, List.filter_cons, List.filter_nil]
theorem halves1_any (t : Tab) (s : BitVec 64) (b p : Nat) (X : Nat → Tab) (w : World) (hok : OkT t 0) (hd0 : 0 ≤ t.depth) (hd5 : t.depth < 5)
    (hX : ∀ i, i < 2 → laidT s (halfB t i) (halfL t s i) = .ok (X i))
    (hb : w.heap[b]? = some (.cells (hcells t s) 141 (0, 0))) (hp : w.heap[p]? = some (.cells #[U s] 22 (0, 0))) :
    Calls Tryz.prog 82 #[.pointer (some ⟨b, 0, none⟩), .pointer (some ⟨p, 0, none⟩)] w fun e w' => e = .returned (.agg (t2cells ⟨X 0, X 1⟩)) ∧ Ch [] w w' := by
  have hbl := (Array.getElem?_eq_some_iff.1 hb).1
  have hpl := (Array.getElem?_eq_some_iff.1 hp).1
  have hbne : ¬ b = w.heap.size := by omega
  obtain ⟨W0, hW0⟩ : ∃ W0, (w.alloc (.cells (t2cells zeroT2) 35)).alloc (.cells (t2cells zeroT2) 35) = W0 := ⟨_, rfl⟩
  have hs0 : W0.heap.size = w.heap.size + 1 + 1 := by rw [← hW0]; simp
  have hC0 : Ch [] w W0 := by rw [← hW0]; exact ((Ch.refl [] w).alloc _).alloc _
  have b0 : W0.heap[w.heap.size]? = some (.cells (t2cells zeroT2) 35 (0, 0)) := by rw [← hW0]; simp [go_sem]
  have b1 : W0.heap[w.heap.size + 1]? = some (.cells (t2cells zeroT2) 35 (0, 0)) := by rw [← hW0]; simp [go_sem]
  have bb := hkeep hC0 hb
  have bp := hkeep hC0 hp
  have HS0 := Lib.hid hs0
  have HX := Lib.hid hX
  have hbn2 : b ∉ [w.heap.size + 1] := by simp; omega
  have hpn2 : p ∉ [w.heap.size + 1] := by simp; omega
  clear hX hpl hbl hs0
  go_enter Tryz.func82, Tryz.ntmps82
  go_wp2_with (go_at_call 83; refine (tneed_yes _ _).mono ?_; rintro e w' ⟨rfl, rfl⟩)
  go_loopw [17] (fun i wr => ∃ (m : Nat) (x : Int), i = .int .i64 x ∧ x = m ∧ m ≤ 2 ∧ Ch [w.heap.size + 1] W0 wr ∧ wr.heap[w.heap.size + 1]? = some (.cells (t2cells (outT X m)) 35 (0, 0))) (fun i _ => 2 - (intOf i).toNat)
  case atStart => exact ⟨0, 0, rfl, rfl, by omega, Ch.refl _ _, b1⟩
  case round =>
    obtain ⟨m, x, hm, hx, hm2, hcr, hrx⟩ := hrel
    subst hm
    clear hW0 hb hp
    have rb := hkeepS hcr hbn2 bb
    have rp := hkeepS hcr hpn2 bp
    have r0 := hkeepS hcr (show w.heap.size ∉ [w.heap.size + 1] by simp) b0
    have hCwr : Ch [] w wr := hC0.trans2 hcr (by simp)
    have HS := Lib.hid (show wr.heap.size ≥ w.heap.size + 1 + 1 by have := hcr.size; have := HS0.out; omega)
    clear bb bp b0 b1 hC0 HS0
    rcases (show m = 2 ∨ m < 2 by omega) with rfl | hm1
    · obtain rfl : x = 2 := hx
      go_wp2
      refine bodyPost_ret (v := .agg (t2cells ⟨X 0, X 1⟩)) (zcp Tryz.results82 _ _ _ rfl (run_loadVar_row _ _ 35 35 (t2cells ⟨X 0, X 1⟩) (0, 0) _ ?_ Tryz.underlying35 rfl (by rw [zbt]; kernel_rfl))) rfl ⟨rfl, ?_⟩
      · simp only [zae, if_true, r0, Option.map_some, laidAt_t2]; rfl
      · exact hCwr.onObj (.inr (Nat.le_refl _)) _
    have hXm := HX.out m hm1
    obtain ⟨hf, hhf⟩ : ∃ hf, halfB t m = hf := ⟨_, rfl⟩
    have BB : ∀ W, Calls Tryz.prog 79 #[.int .u64 0, .int .i64 (t.depth + 1), U (2#64 * t.pre + BitVec.ofNat 64 m)] W fun e w' => e = .returned (.agg (tcells hf)) ∧ Ch [] W w' := fun W => by rw [← hhf]; exact bare_any 0#64 _ _ W
    have hokf : OkT hf 0 := by rw [← hhf]; exact bare_ok _ _ _
    have hL : halfL t s m = (pairsT t).filter (qf hf s) := by rw [← hhf]; rfl
    rw [hL, hhf] at hXm
    obtain ⟨Xm, hXe⟩ : ∃ Xm, X m = Xm := ⟨_, rfl⟩
    rw [hXe] at hXm
    have HXE := Lib.hid hXe
    clear hXe
    have hwr : IntKind.i64.wrap (t.depth + 1) = t.depth + 1 := by rw [IntKind.wrap_i64]; omega
    have P1 := fun (W : World) hb => pairs_any t s b W hok.c0 hok.c1 hb
    have hpl := pairs_le t
    generalize pairsT t = LL at *
    have HXM := Lib.hid hXm
    have HOKF := Lib.hid hokf
    have HPL := Lib.hid hpl
    clear hhf hL hXm hokf hok HX hpl
    rcases (show m = 0 ∨ m = 1 by omega) with rfl | rfl
    all_goals
      first | (obtain rfl : x = 0 := hx) | (obtain rfl : x = 1 := hx)
      first | (have B1 : ∀ W, Calls Tryz.prog 79 #[.int .u64 0, .int .i64 (t.depth + 1), U (2#64 * t.pre)] W fun e w' => e = .returned (.agg (tcells hf)) ∧ Ch [] W w' := fun W => by have := BB W; rw [BitVec.add_zero] at this; exact this) | (have B1 := BB)
      clear BB
      go_wp2
      have hS : (fun W' : World => W'.heap[b]? = some (.cells (hcells t s) 141 (0, 0)) ∧ W'.heap[p]? = some (.cells #[U s] 22 (0, 0))) wr.drew := ⟨rb, rp⟩
      refine wp_region_held_drew (S := fun W' => W'.heap[b]? = some (.cells (hcells t s) 141 (0, 0)) ∧ W'.heap[p]? = some (.cells #[U s] 22 (0, 0))) (by kernel_rfl) hS ?_
      intro _
      simp only [List.size_toArray, List.length_cons, List.length_nil, Nat.reduceAdd]
      refine tk 0 20 ?_ rfl hS ?_ ?_; rotate_left
      · intro wq hSq; obtain ⟨s1, s2⟩ := hSq; go_simp; try with_reducible rfl
      try go_frame
      refine tk 1 21 ?_ rfl hS ?_ ?_; rotate_left
      · intro wq hSq; obtain ⟨s1, s2⟩ := hSq; go_simp; try with_reducible rfl
      try go_frame
      refine tk 2 22 ?_ rfl hS ?_ ?_; rotate_left
      · intro wq hSq; obtain ⟨s1, s2⟩ := hSq; go_simp; try with_reducible rfl
      try go_frame
      refine tk 3 23 ?_ rfl hS ?_ ?_; rotate_left
      · intro wq hSq; obtain ⟨s1, s2⟩ := hSq; go_simp; try with_reducible rfl
      try go_frame
      refine tk 4 24 ?_ rfl hS ?_ ?_; rotate_left
      · intro wq hSq; obtain ⟨s1, s2⟩ := hSq; go_simp; try with_reducible rfl
      try go_frame
      refine tk 5 25 ?_ rfl hS ?_ ?_; rotate_left
      · intro wq hSq; obtain ⟨s1, s2⟩ := hSq; go_simp; try with_reducible rfl
      try go_frame
      refine tk 6 26 ?_ rfl hS ?_ ?_; rotate_left
      · intro wq hSq; obtain ⟨s1, s2⟩ := hSq; go_simp; try with_reducible rfl
      try go_frame
      refine tk 7 27 ?_ rfl hS ?_ ?_; rotate_left
      · intro wq hSq; obtain ⟨s1, s2⟩ := hSq; go_simp; try with_reducible rfl
      try go_frame
      refine tk 8 28 ?_ rfl hS ?_ ?_; rotate_left
      · intro wq hSq; obtain ⟨s1, s2⟩ := hSq; go_simp; try with_reducible rfl
      try go_frame
      refine tk 9 29 ?_ rfl hS ?_ ?_; rotate_left
      · intro wq hSq; obtain ⟨s1, s2⟩ := hSq; go_simp; try with_reducible rfl
      try go_frame
      refine tk 10 30 ?_ rfl hS ?_ ?_; rotate_left
      · intro wq hSq; obtain ⟨s1, s2⟩ := hSq; go_simp; try with_reducible rfl
      try go_frame
      refine tk 11 31 ?_ rfl hS ?_ ?_; rotate_left
      · intro wq hSq; obtain ⟨s1, s2⟩ := hSq; go_simp; try with_reducible rfl
      try go_frame
      refine tk 12 32 ?_ rfl hS ?_ ?_; rotate_left
      · intro wq hSq; obtain ⟨s1, s2⟩ := hSq; go_simp; try with_reducible rfl
      try go_frame
      refine tk 13 33 ?_ rfl hS ?_ ?_; rotate_left
      · intro wq hSq; obtain ⟨s1, s2⟩ := hSq; go_simp; try with_reducible rfl
      try go_frame
      refine tk 14 34 ?_ rfl hS ?_ ?_; rotate_left
      · intro wq hSq; obtain ⟨s1, s2⟩ := hSq; go_simp; try with_reducible rfl
      try go_frame
      refine tk 16 36 ?_ rfl hS ?_ ?_; rotate_left
      · intro wq hSq; obtain ⟨s1, s2⟩ := hSq; go_simp; try with_reducible rfl
      try go_frame
      refine rd 15 rfl (fun K hK => ?_); go_simp
      refine (B1 _).mono ?_
      rintro e W1 ⟨rfl, hc1⟩
      have hS1 : W1.heap[b]? = some (.cells (hcells t s) 141 (0, 0)) ∧ W1.heap[p]? = some (.cells #[U s] 22 (0, 0)) := ⟨hkeep hc1 hS.1, hkeep hc1 hS.2⟩
      refine hK.out _ _ hS1 (fun _ => ?_)
      clear hK K
      refine tk 17 37 ?_ rfl hS1 ?_ ?_; rotate_left
      · intro wq hSq; obtain ⟨s1, s2⟩ := hSq; go_simp; try with_reducible rfl
      try go_frame
      refine rd (o := ⟨some 38, .box 141 (.tmp 37), 137, _, _, none⟩) 18 rfl (fun K hK => ?_); go_simp
      have hS2 : (W1.alloc (.cells (hcells hf s) 141)).heap[b]? = some (.cells (hcells t s) 141 (0, 0)) ∧ (W1.alloc (.cells (hcells hf s) 141)).heap[p]? = some (.cells #[U s] 22 (0, 0)) := ⟨hkeep ((Ch.refl [] W1).alloc _) hS1.1, hkeep ((Ch.refl [] W1).alloc _) hS1.2⟩
      refine hK.out _ _ hS2 (fun _ => ?_)
      clear hK K
      refine wpAnyH_take (i := 19) (oi := ⟨some 6, .assign (.tmp 38), 137, _, _, none⟩) (v := ?_) rfl (by kernel_rfl) (by kernel_rfl) (by kernel_rfl) (fun _ _ _ h => h) (Or.inl ⟨by rfl, ?_⟩) hS2 ?_
      rotate_left
      · intro wq hSq
        first | (go_simp; done) | (go_simp; with_reducible rfl)
      try simp only [Act.put, List.setIfInBounds_toArray, List.set_cons_zero, List.set_cons_succ]
      refine wpAnyH_done (by kernel_rfl) ?_ _
      obtain ⟨H, hHe⟩ : ∃ H, W1.heap.size = H := ⟨_, rfl⟩
      have hH2 : w.heap.size + 1 + 1 ≤ H := by have := hc1.size; have := HS.out; simp only [World.drew] at *; omega
      obtain ⟨W2, hW2⟩ : ∃ W2, W1.alloc (.cells (hcells hf s) 141) = W2 := ⟨_, rfl⟩
      have hc2 : Ch [] wr W2 := by rw [← hW2]; exact (((Ch.refl [] wr).drew).trans hc1).alloc _
      have eH : W2.heap[H]? = some (.cells (hcells hf s) 141 (0, 0)) := by rw [← hW2, zab, if_pos hHe.symm]
      have eB := hkeep hc2 rb
      have eR := hkeep hc2 r0
      have eX := hkeep hc2 hrx
      have hC2 : Ch [w.heap.size + 1] W0 W2 := hcr.pure hc2
      have hCw2 : Ch [] w W2 := hCwr.trans hc2
      rw [hW2, hHe]
      clear hW2 hHe hc1 hS hS1 hS2 hc2 rb rp r0 hrx hcr hCwr B1 HS
      go_wp2_with (go_at_call 80; refine (P1 _ eB).mono ?_; rintro e W3 ⟨a, c, rfl, hown, hc3⟩)
      obtain ⟨cur, hp1, hp2, hp3⟩ := pairs_at rfl hown
      have fH := hkeep hc3 eH
      have fB := hkeep hc3 eB
      have fR := hkeep hc3 eR
      have fX := hkeep hc3 eX
      have hC3 := hC2.pure hc3
      have hCw3 := hCw2.trans hc3
      have HP := Lib.hid hp1
      have HA := Lib.hid hp2
      have HR := Lib.hid (fun r hr => (hp3 r hr).2)
      clear hp1 hp2 hp3 hown eH eB eR eX hC2 hCw2 hc3 P1
      obtain ⟨i0, hi, hz0, hz1, hz2⟩ := info_parts infoP
      go_loopw [7, 42] (fun v i wi => ∃ j : Nat, i = .int .i64 j ∧ j ≤ LL.length ∧ wi.ownsRow W3.heap.size 31 2 v ((LL.take j).filter (qf hf s)).length (pcells ((LL.take j).filter (qf hf s))) ∧ Ch [] W3 wi) (fun _ i _ => LL.length - (intOf i).toNat)
      case atStart => exact ⟨0, rfl, Nat.zero_le _, World.ownsRow_nil _ _ _ _, Ch.refl _ _⟩
      case round =>
        obtain ⟨j, hj, hjl, hown, hci⟩ := hrel
        subst hj
        have iH := hkeep hci fH
        have hL16 : LL.length ≤ 16 := HPL.out
        rcases Nat.lt_or_ge j LL.length with hlt | hge
        · obtain ⟨r, hra⟩ := HA.out (by omega)
          obtain ⟨q, hqm, -⟩ := drop_one hlt
          have hrow' : rowAt (j * 2) 2 (.cells cur 31 (0, 0)) = some #[U q.1, U q.2] := by rw [Nat.mul_comm]; exact HP.out j q hqm
          subst hra
          have hrr : wr.heap[r]? = some (.cells cur 31 (0, 0)) := hkeep hci (HR.out r rfl)
          have hdec : decide (j < LL.length) = true := by simpa using hlt
          have hne : ¬ H = wr.heap.size := by have := (Array.getElem?_eq_some_iff.1 iH).1; omega
          have hne2 : ¬ r = wr.heap.size := by have := (Array.getElem?_eq_some_iff.1 hrr).1; omega
          have hsn := take_filter (qf hf s) hqm
          have hfl : ((LL.take j).filter (qf hf s)).length ≤ 16 := by have := List.length_filter_le (qf hf s) (LL.take j); have := HPL.out; have := List.length_take_le j LL; omega
          have G1 := fun W (h : W.heap[H]? = _) => goes_any H hf s q.1 W h
          have hsize := hci.size
          have HO := Lib.hid hown
          have IH := Lib.hid iH
          generalize hF : (LL.take j).filter (qf hf s) = F at *
          change ∀ W, _ → Calls _ _ _ W fun e w' => e = .returned (.bool (qf hf s q)) ∧ Ch [] W w' at G1
          clear hown hqm fH fB iH hF
          cases hq : qf hf s q
          · have HSN := Lib.hid (show (LL.take (j + 1)).filter (qf hf s) = F by rw [hsn, hq]; simp)
            rw [hq] at G1
            clear hsn hq
            go_wp2_with (go_at_call 84; refine (G1 _ (by simp [go_sem, hne, IH.out])).mono ?_; rintro e wg ⟨rfl, hcg⟩)
            have hcw : Ch [] wr wg := (((Ch.refl [] wr).alloc (.cells #[U 0#64, U 0#64] 31)).onObj (.inr (Nat.le_refl _)) _).trans hcg
            go_roundw
            case rel => exact ⟨j + 1, by go_num, hlt, by rw [HSN.out]; exact own_ch HO.out hcw (by simp), hci.trans hcw⟩
            case measure => simp [intOf]; omega
          · have HSN := Lib.hid (show (LL.take (j + 1)).filter (qf hf s) = F ++ [q] by rw [hsn, hq]; simp)
            rw [hq] at G1
            clear hsn hq
            go_wp2_with (first
              | (go_at_call 84; refine (G1 _ (by simp [go_sem, hne, IH.out])).mono ?_; rintro e wg ⟨rfl, hcg⟩; have gp := hkeep hcg (show (World.onObj (wr.alloc (.cells #[U 0#64, U 0#64] 31)) wr.heap.size (laidAt 0 #[U q.1, U q.2])).heap[wr.heap.size]? = some (.cells #[U q.1, U q.2] 31 (0, 0)) by simp [go_sem]); have HCW : Hid (Ch [] wr wg) := Lib.hid ((((Ch.refl [] wr).alloc (.cells #[U 0#64, U 0#64] 31)).onObj (.inr (Nat.le_refl _)) _).trans hcg); clear hcg; have HOG := Lib.hid (own_ch HO.out HCW.out (by simp)))
              | (at_builtin; refine wpList_append_own _ rfl _ _ 27 rfl W3.heap.size 31 i0 (.agg #[.int .u64 0, .int .u64 0]) 2 16 Tryz.underlying27 hi hz0 hz1 hz2 rfl (by decide) _ _ _ rfl (HOG.out.alloc _) ⟨wg.heap.size, 0, none⟩ 1 1 [U q.1, U q.2] rfl rfl (cell_two_new wg _ _ _) (by simp [Value.oneCell']) (by unfold maxLen; omega) (by omega) (by have := HCW.out.size; simp; omega) ?_; intro v' w4 hown' hgrow _; have HO4 := Lib.hid hown'; have HG4 := Lib.hid hgrow; clear hown' hgrow))
            have hob := own_block HO.out
            have hgr : (wg.alloc (.cells #[U q.1, U q.2] 31)).grownBy w4 u7.ownBlock := HG4.out
            have hW1 : Ch (u7.ownBlock.toList) wr w4 := ((HCW.out.alloc (.cells #[U q.1, U q.2] 31)).of_nil).trans2 (Ch.of_grown (S := u7.ownBlock.toList) hgr (fun k hk => by simp [hk])) (fun t ht => .inl ht)
            have hSS : ∀ s ∈ u7.ownBlock.toList, W3.heap.size ≤ s := fun s hs => hob s (by simpa using hs)
            go_roundw
            case rel => exact ⟨j + 1, by go_num, hlt, by rw [HSN.out, List.length_append, pcells_snoc]; exact HO4.out, hci.trans2 hW1 (fun t ht => .inr (hSS t ht))⟩
            case measure => simp [intOf]; omega
        · have hme : j = LL.length := Nat.le_antisymm hjl hge
          have hdec : decide (j < LL.length) = false := by simpa using hge
          rw [hme, List.take_length] at hown
          have hLF : (LL.filter (qf hf s)).length ≤ 16 := by have := List.length_filter_le (qf hf s) LL; have := HPL.out; omega
          generalize LL.filter (qf hf s) = LF at *
          obtain ⟨a2, c2, hv⟩ : ∃ a2 c2, u7 = .slice a2 LF.length c2 := by
            obtain ⟨_, ⟨rfl, h0⟩ | ⟨g, cap, cur, hv, _⟩⟩ := id hown
            · have h1 := pcells_len LF
              rw [h0] at h1
              have h2 : LF.length = 0 := by simp at h1; omega
              exact ⟨none, 0, by rw [h2]⟩
            · exact ⟨_, _, hv⟩
          subst hv
          obtain ⟨cur2, g1, g2, g3⟩ := pairs_at rfl hown
          have iB := hkeep hci fB
          have iX := hkeep hci fX
          have L2 : Calls Tryz.prog 78 #[.pointer (some ⟨b, 0, none⟩), .agg (tcells hf), .slice a2 LF.length c2] wr fun e w' => e = .returned (.agg (tcells Xm)) ∧ Ch [] wr w' := by
            have := laid_walk t hf s LF 0 a2 c2 cur2 b wr HOKF.out (by omega) iB g1 g2 (fun r hr => (g3 r hr).2)
            rw [HXM.out] at this
            exact this
          have HCI := Lib.hid (hC3.pure hci)
          generalize LF.length = nL at *
          clear g1 g2 g3 hown hme hge fB fH fX fR hci HR HA HP hLF iB
          go_wp2_with (go_at_call 78; refine L2.mono ?_; rintro e w5 ⟨rfl, hc5⟩; have kX := hkeep hc5 iX)
          go_roundw
          case rel => first
            | exact ⟨1, 1, rfl, rfl, by omega, (HCI.out.pure hc5).onObj (.inl (by simp)) _, by rw [zae, if_pos rfl, kX, Option.map_some, laid_l, ← HXE.out]; rfl⟩
            | exact ⟨2, 2, rfl, rfl, by omega, (HCI.out.pure hc5).onObj (.inl (by simp)) _, by rw [zae, if_pos rfl, kX, Option.map_some, laid_r, ← HXE.out]; rfl⟩
          case measure => simp [intOf]
theorem tup35 (r : Except Int T2) : ∃ (y : T2) (c : Int), tupOr (fun v => Value.agg (t2cells v)) (.agg (t2cells zeroT2)) r = .tuple #[.agg (t2cells y), I c] := by
  cases r with
  | error c => exact ⟨zeroT2, c, rfl⟩
  | ok y => exact ⟨y, 0, rfl⟩
theorem halves1_deep (t : Tab) (s : BitVec 64) (b : Nat) (cap : Array Value) (q : Addr) (w : World) (hcap : cap = #[.pointer (some q)]) (hd5 : 5 ≤ t.depth)
    (hb : w.heap[b]? = some (.cells (hcells t s) 141 (0, 0))) :
    Calls Tryz.prog 82 (#[.pointer (some ⟨b, 0, none⟩)] ++ cap) w fun e w' => e = .panicked [{ v := .iface 32 (I 342), recovered := false }] ∧ Ch [] w w' := by
  have hbl := (Array.getElem?_eq_some_iff.1 hb).1
  have hbne : ¬ b = w.heap.size := by omega
  have hnd : ¬ t.depth < 5 := by omega
  clear hbl
  subst hcap
  show Calls Tryz.prog 82 #[.pointer (some ⟨b, 0, none⟩), .pointer (some q)] w _
  go_enter Tryz.func82, Tryz.ntmps82
  go_wp2_with (go_at_call 83; refine (tneed_no _ _).mono ?_; rintro e w' ⟨rfl, rfl⟩)
  exact ⟨rfl, rfl, (Ch.refl [] w).alloc _⟩
def halvesE (t : Tab) (X : Nat → Tab) : Except Int T2 := if decide (t.depth < 5) then .ok ⟨X 0, X 1⟩ else .error 342
theorem may_depth {t : Tab} {s : BitVec 64} (h : mayT t s = true) : 0 ≤ t.depth := by
  rw [mayT] at h
  simp only [Bool.and_eq_true, beq_iff_eq] at h
  obtain ⟨⟨⟨⟨hf, _⟩, _⟩, _⟩, _⟩ := h
  rw [flatT] at hf; simp only [Bool.and_eq_true, decide_eq_true_eq] at hf; omega
theorem Halves_any (t : Tab) (s : BitVec 64) (X : Nat → Tab) (w : World) (hX : mayT t s = true → t.depth < 5 → ∀ i, i < 2 → laidT s (halfB t i) (halfL t s i) = .ok (X i)) :
    Calls Tryz.prog 16 #[U s, .agg (tcells t)] w fun e w' => e = .returned (tupOr (fun v => .agg (t2cells v)) (.agg (t2cells zeroT2)) (ifMay t s (halvesE t X))) ∧ Ch [] w w' := by
  have T1 : ∀ (w : World) (cap : Array Value), _ → Calls Tryz.prog 81 #[U s, .agg (tcells t), .func (.func 82) #[] cap] w fun e w' => e = .returned (tupOr (fun v => .agg (t2cells v)) (.agg (t2cells zeroT2)) (ifMay t s (halvesE t X))) ∧ Ch [] w w' := fun w cap hd => tries35_any t s 82 cap (halvesE t X) w enters_halves1 hd
  have D1 : mayT t s = true → ∀ (b p : Nat) (w : World), w.heap[b]? = some (.cells (hcells t s) 141 (0, 0)) → w.heap[p]? = some (.cells #[U s] 22 (0, 0)) →
      Calls Tryz.prog 82 (#[.pointer (some ⟨b, 0, none⟩)] ++ #[.pointer (some ⟨p, 0, none⟩)]) w fun e w' => e = retOr (fun v => .agg (t2cells v)) (halvesE t X) ∧ Ch [] w w' := by
    intro hm b p w hb hp
    have hok := may_okT hm
    by_cases hd : t.depth < 5
    · refine (halves1_any t s b p X w hok (may_depth hm) hd (hX hm hd) hb hp).mono ?_
      rintro e w' ⟨rfl, hc⟩
      refine ⟨?_, hc⟩
      rw [halvesE, if_pos (decide_eq_true hd)]; rfl
    · refine (halves1_deep t s b _ ⟨p, 0, none⟩ w rfl (by omega) hb).mono ?_
      rintro e w' ⟨rfl, hc⟩
      refine ⟨?_, hc⟩
      rw [halvesE, if_neg (by rw [decide_eq_true_iff]; exact hd)]; rfl
  generalize ifMay t s (halvesE t X) = R at *
  generalize halvesE t X = r at *
  obtain ⟨y, e0, htup⟩ := tup35 R
  rw [htup]
  clear hX
  obtain ⟨W0, hW0⟩ : ∃ W0, ((w.alloc (.cells #[U s] 22)).alloc (.cells (tcells t) 26)).alloc (.cells (t2cells zeroT2) 35) = W0 := ⟨_, rfl⟩
  have hC0 : Ch [] w W0 := by rw [← hW0]; exact (((Ch.refl [] w).alloc _).alloc _).alloc _
  have b0 : W0.heap[w.heap.size]? = some (.cells #[U s] 22 (0, 0)) := by rw [← hW0]; simp [go_sem]
  have b1 : W0.heap[w.heap.size + 1]? = some (.cells (tcells t) 26 (0, 0)) := by rw [← hW0]; simp [go_sem]
  have b2 : W0.heap[w.heap.size + 1 + 1]? = some (.cells (t2cells zeroT2) 35 (0, 0)) := by rw [← hW0]; simp [go_sem]
  go_enter Tryz.func16, Tryz.ntmps16
  go_wp2_with fail
  refine (T1 W0 #[.pointer (some ⟨w.heap.size, 0, none⟩)] ?_).mono ?_
  · intro hmt b w1 hb hc hle
    refine (D1 hmt b w.heap.size w1 hb (hkeep hc b0)).mono ?_
    rintro e w2 ⟨rfl, hc2⟩
    exact ⟨rfl, hc2.of_nil⟩
  · rintro e w1 ⟨rfl, hc1⟩
    have d2 := hkeep hc1 b2
    clear T1 D1 b0 b1 b2
    rw [htup]
    clear htup
    go_wp2
    refine bodyPost_ret (v := .tuple #[.agg (t2cells y), I e0]) (results_c0t Tryz.results16 _ _ _ rfl rfl (run_loadVar_row _ _ 35 35 (t2cells y) (0, 0) _ ?_ Tryz.underlying35 rfl (by rw [zbt]; kernel_rfl))) rfl ⟨rfl, ?_⟩
    · simp only [zae, if_true, d2, Option.map_some, laidAt_t2]
    · exact (hC0.trans hc1).onObj (.inr (by omega)) _
end
end Go.Proofs.Hc
