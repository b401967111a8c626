/- slices.DeleteFunc at rows of pairs, by the statement's own test. -/
import Derived.Test.YtaddieimkpijeaaGreatKHdg
set_option linter.unusedSimpArgs false
set_option linter.unusedVariables false
namespace Go.Proofs.Hc
open Go.RowKit
attribute [local go_sem] wrap_u64 wrap_u8 bits_xor64 bits_and64 bits_or64 bits_not64 bits_xor8 bits_and8 bits_or8 signed64 signed8 ofInt_N BitVec.ofInt_add BitVec.ofInt_mul ofInt_sub' ofInt8_N64 ofInt64_N8 wide8 eqN neN shr_pow shr1 shr7 shr56
attribute [local go_sem high] bits_com64 shl_wrap
attribute [local go_sem] cell_heap ice_heap cellAt_cells iceAt_cells setAt_cells rowAt_cells canLay_cells laidAt_cells size_onObj size_setCell rowRes_some layRes_true
attribute [local go_sem] load26 load73 load23 store26 build73
attribute [local go_sem ↓] lrow26 lrow73 lrow23 srow26 zero26 brow73 heap_alloc heap_drew heap_drewN heap_setCell heap_onObj
attribute [local go_sem] tcells_size hcells_size tcells_get hcells_get tcells_one hcells_one hcells_table tcells_table hcells_all hcells_ctrl tcells_ctrl
attribute [local go_sem] nn2 nm2 nn3 nm3 nn4 nm4 nn5 nm5 nn6 nm6 nn7 nm7 nn8 nm8
attribute [local go_sem] nn2 nm2 nn3 nm3 nn4 nm4 nn5 nm5 nn6 nm6 nn7 nm7 nn8 nm8
attribute [local go_sem] Oper.semAt_some make_func1
attribute [local go_sem] loadP storeP allOne_pair
attribute [local go_sem high] laidAt_p
attribute [local go_sem ↓] lrowP srowP zeroP
/-- The pairs of a row whose key is another one. -/
def delK (k : BitVec 64) (l : List (BitVec 64 × BitVec 64)) : List (BitVec 64 × BitVec 64) := l.filter fun q => !(q.1 == k)
theorem delK_none {k : BitVec 64} {l : List (BitVec 64 × BitVec 64)} (h : ∀ q ∈ l, q.1 ≠ k) : delK k l = l := by
  unfold delK
  rw [List.filter_eq_self]
  intro q hq
  simpa using h q hq
theorem take_filt {α : Type} (f : α → Bool) {l : List α} {j : Nat} {q : α} (h : l[j]? = some q) : (l.take (j + 1)).filter f = (l.take j).filter f ++ if f q then [q] else [] := by
  rw [List.take_add_one, h, List.filter_append]
  simp only [Option.toList_some, List.filter_cons, List.filter_nil]
theorem delK_snoc {k : BitVec 64} {l : List (BitVec 64 × BitVec 64)} {j : Nat} {q : BitVec 64 × BitVec 64} (h : l[j]? = some q) : delK k (l.take (j + 1)) = delK k (l.take j) ++ if q.1 == k then [] else [q] := by
  unfold delK
  rw [take_filt _ h]
  cases (q.1 == k) <;> rfl
theorem RowOf.ch {W W' : World} {S : List Nat} {base g n cap : Nat} {L : List (BitVec 64 × BitVec 64)} {cur : Array Value} (h : RowOf W base g n cap L cur) (c : Ch S W W') (hg : g ∉ S) : RowOf W' base g n cap L cur := ⟨hkeepS c hg h.heap, h.size, h.len, h.le, h.max, h.base, h.cells⟩
theorem take_set_succ {α : Type} {L : List α} {i : Nat} {q : α} (h : i < L.length) : (L.set i q).take (i + 1) = L.take i ++ [q] := by
  rw [List.take_add_one, List.getElem?_set_self h, List.take_set_of_le (Nat.le_refl _)]
  rfl
theorem drop_get {α : Type} {L l : List α} {j : Nat} {q : α} (h : L.drop j = l.drop j) (hq : l[j]? = some q) : L[j]? = some q := by
  have := congrArg (fun x => x[0]?) h
  simp only [List.getElem?_drop, Nat.add_zero] at this
  rw [this]; exact hq
theorem drop_more {α : Type} {L l : List α} {j : Nat} (h : L.drop j = l.drop j) : L.drop (j + 1) = l.drop (j + 1) := by
  rw [← List.drop_drop, ← List.drop_drop, h]
/-- What a row that loses a key comes to. -/
def DelPost (w : World) (base : Nat) (l : List (BitVec 64 × BitVec 64)) (e : Ending) (w' : World) : Prop :=
  ∃ a c S, e = .returned (.slice a l.length c) ∧ w'.ownsRow base 31 2 (.slice a l.length c) l.length (pcells l) ∧ Ch S w w' ∧ ∀ s ∈ S, base ≤ s
set_option maxHeartbeats 2000000 in
set_option maxRecDepth 100000 in
theorem delete_any (l : List (BitVec 64 × BitVec 64)) (p : BitVec 64 × BitVec 64) (pb base : Nat) (a : Option Addr) (c : Nat) (w : World) (hl : l.length ≤ 900000)
    (hown : w.ownsRow base 31 2 (.slice a l.length c) l.length (pcells l)) (hp : w.heap[pb]? = some (.cells #[U p.1, U p.2] 31 (0, 0))) (hpb : pb < base) :
    Calls Tryz.prog 36 #[.slice a l.length c, .func (.func 37) #[] #[.pointer (some ⟨pb, 0, none⟩)]] w (DelPost w base (delK p.1 l)) := by
  obtain ⟨cur0, h1, h2, h3⟩ := pairs_at rfl hown
  have I1 := indexF_any l p pb a c cur0 w hl h1 h2 (fun r hr => (h3 r hr).2) hp
  have HO := Lib.hid hown
  have HA := Lib.hid h2
  clear hown h1 h2 h3
  go_enter Tryz.func36, Tryz.ntmps36
  go_wp2_with fail
  refine I1.mono ?_
  rintro e w1 ⟨n, rfl, hc1, hn⟩
  have HO1 := Lib.hid (own_ch HO.out hc1 (by simp))
  rcases hn with ⟨rfl, hno⟩ | ⟨j0, q0, rfl, hq0, hk0, hbef⟩
  · have HD := Lib.hid (delK_none hno)
    clear hno I1
    go_wp2
    go_ret
    exact ⟨a, c, [], by rw [HD.out]; rfl, by rw [HD.out]; exact HO1.out, hc1, by simp⟩
  · have hj0 : j0 < l.length := (List.getElem?_eq_some_iff.1 hq0).1
    obtain ⟨r, hra⟩ := HA.out (by omega)
    subst hra
    obtain ⟨cur, hrow⟩ := RowOf.of rfl HO1.out
    have hm1 : ((j0 : Int) == -1) = false := by first | (simp; done) | (simp; omega)
    have HB := Lib.hid (show delK p.1 (l.take j0) = l.take j0 from delK_none hbef)
    have HQ0 := Lib.hid hq0
    have HK0 := Lib.hid hk0
    have hrb := hrow.base
    have hle := hrow.le
    have HROW := Lib.hid hrow
    have F1 := fun (q : BitVec 64 × BitVec 64) (W : World) (h : W.heap[pb]? = _) => keeps1_any q p pb W h
    have hp1 := hkeep hc1 hp
    clear hrow hbef hq0 hk0 I1 hp
    go_wp2
    go_loopw [5, 6] (fun x y wr => ∃ (i j : Nat) (L : List (BitVec 64 × BitVec 64)) (cu : Array Value), x = .int .i64 i ∧ y = .int .i64 j ∧ i < j ∧ j ≤ l.length ∧ L.take i = delK p.1 (l.take j) ∧ L.drop j = l.drop j ∧ RowOf wr base r l.length c L cu ∧ Ch [r] w1 wr) (fun _ y _ => l.length - (intOf y).toNat)
    case atStart => exact ⟨j0, j0 + 1, l, cur, rfl, by go_num, by omega, by omega, by rw [delK_snoc HQ0.out, HB.out, HK0.out]; simp, rfl, HROW.out, Ch.refl _ _⟩
    case round =>
      obtain ⟨i, j, L, cu, hx, hy, hij, hjl, hLi, hLj, hR, hcr⟩ := hrel
      subst hx hy
      have hil : i < l.length := by omega
      have hRW := Lib.hid hR
      have hWr := hR.heap
      have hsz : i * 2 + 2 ≤ cu.size := by have := hR.size; have := hR.le; omega
      have hpr : pb ∉ [r] := by simp; omega
      have hpw := hkeepS hcr hpr hp1
      rcases Nat.lt_or_ge j l.length with hlt | hge
      · obtain ⟨q, hqm, -⟩ := drop_one hlt
        have hrow' := hR.row (drop_get hLj hqm)
        have hdec : decide (j < l.length) = true := by simpa using hlt
        have hne : ¬ pb = wr.heap.size := by have := (Array.getElem?_eq_some_iff.1 hpw).1; omega
        have hne2 : ¬ r = wr.heap.size := by have := (Array.getElem?_eq_some_iff.1 hWr).1; omega
        have F2 := F1 q
        have HD := Lib.hid (delK_snoc (k := p.1) hqm)
        have HLI := Lib.hid hLi
        have HLJ := Lib.hid hLj
        have HPW := Lib.hid hpw
        clear hqm F1 hLi hLj hR hp1 hpw
        cases hq : (q.1 == p.1)
        all_goals
          have HE := Lib.hid hq
          rw [hq] at F2
          clear hq
          go_wp2_with (go_at_call 37; refine (F2 _ (by simp [go_sem, hne, HPW.out])).mono ?_; rintro e wg ⟨rfl, hcg⟩; have gp := hkeep hcg (show (World.onObj (wr.alloc (.cells #[U 0#64, U 0#64] 31)) wr.heap.size (laidAt 0 #[U q.1, U q.2])).heap[wr.heap.size]? = some (.cells #[U q.1, U q.2] 31 (0, 0)) by simp [go_sem]); have HCW : Hid (Ch [] wr wg) := Lib.hid ((((Ch.refl [] wr).alloc (.cells #[U 0#64, U 0#64] 31)).onObj (.inr (Nat.le_refl _)) _).trans hcg); clear hcg; have gr := hkeep HCW.out hWr)
        · obtain ⟨cu', hR'⟩ := (hRW.out.ch HCW.out (by simp)).put hil q
          have hE : (q.1 == p.1) = false := HE.out
          go_roundw
          case rel => exact ⟨i + 1, j + 1, L.set i q, cu', by go_num, by go_num, by omega, hlt, by rw [take_set_succ (by rw [hRW.out.len]; exact hil), HLI.out, HD.out, hE]; rfl, by rw [List.drop_set_of_lt (by omega)]; exact drop_more HLJ.out, hR', (hcr.pure HCW.out).onObj (.inl (by simp)) _⟩
          case measure => simp [intOf]; omega
        · have hE : (q.1 == p.1) = true := HE.out
          go_roundw
          case rel => exact ⟨i, j + 1, L, cu, by go_num, by go_num, by omega, hlt, by rw [HLI.out, HD.out, hE]; simp, drop_more HLJ.out, hRW.out.ch HCW.out (by simp), hcr.pure HCW.out⟩
          case measure => simp [intOf]; omega
      · have hme : j = l.length := Nat.le_antisymm hjl hge
        have hdec : decide (j < l.length) = false := by simpa using hge
        rw [hme, List.take_length] at hLi
        obtain ⟨W', hrun, hch, cur', hR'⟩ := hR.clear hil 0 (c - i)
        have hlen : (delK p.1 l).length = i := by rw [← hLi, List.length_take, hR.len]; omega
        have HF := Lib.hid hR'.own
        have HLI := Lib.hid hLi
        have HLN := Lib.hid hlen
        have HCH := Lib.hid hch
        have hic : i < c := by omega
        have hnc : ¬ i = c := by omega
        clear hLi hLj hR hR' hme hge hlen hch hWr hpw hp1 F1
        go_wp2
        go_ret
        exact ⟨some ⟨r, 0, none⟩, c, [r], by rw [HLN.out]; rfl, by rw [HLN.out, ← HLI.out]; exact HF.out, (hc1.of_nil.trans hcr).trans HCH.out, fun s hs => by rw [List.mem_singleton.1 hs]; exact hrb⟩
end Go.Proofs.Hc
