/- slices.Concat at rows of calls. -/
import Derived.Test.YtfoicjijngfhbaaDoorKBi
set_option linter.unusedSimpArgs false
set_option linter.unusedVariables false
namespace Go.Proofs.Hc
open Go.RowKit
set_option linter.unusedVariables false
attribute [local go_sem] wrap_u64 wrap_u8 bits_xor64 bits_and64 bits_or64 bits_not64 bits_xor8 bits_and8 bits_or8 signed64 signed8 ofInt_N BitVec.ofInt_add BitVec.ofInt_mul ofInt_sub' ofInt8_N64 ofInt64_N8 wide8 eqN neN shr_pow shr1 shr7 shr56
attribute [local go_sem high] bits_com64 shl_wrap
attribute [local go_sem] nn2 nm2 nn3 nm3 nn4 nm4 nn5 nm5 nn6 nm6 nn7 nm7 nn8 nm8
attribute [local go_sem] Oper.semAt_some make_func1 make_funcB
theorem take_snoc {α : Type} {l : List α} {j : Nat} {s : α} (h : l[j]? = some s) : l.take (j + 1) = l.take j ++ [s] := by
  obtain ⟨hj, e⟩ := List.getElem?_eq_some_iff.1 h
  rw [List.take_add_one, h]; rfl
theorem catL_take_le (ls : List ListT) (j : Nat) : (catL (ls.take j)).length ≤ (catL ls).length := by
  have : catL ls = catL (ls.take j) ++ catL (ls.drop j) := by unfold catL; rw [← List.flatMap_append, List.take_append_drop]
  rw [this, List.length_append]; omega
theorem own_val {W : World} {base n size : Nat} {e : TypeId} {v : Value} {xs : List Value} (h : W.ownsRow base e size v n xs) : ∃ a c, v = .slice a n c := by
  obtain ⟨_, ⟨rfl, h0⟩ | ⟨g, cap, cur, hv, _⟩⟩ := h
  · exact ⟨none, 0, by rw [h0]⟩
  · exact ⟨_, _, hv⟩
theorem grown_ch {w w' : World} {base : Nat} {v : Value} {n size : Nat} {e : TypeId} {xs : List Value} {w0 : World} (hown : w.ownsRow base e size v n xs) (hg : w.grownBy w' v.ownBlock) (hb : w0.heap.size ≤ base) (c : Ch [] w0 w) : Ch [] w0 w' := by
  have h : Ch (match v.ownBlock with | some b => [b] | none => []) w w' := Ch.of_grown hg (fun k hk => by rw [hk]; simp)
  refine c.trans2 h fun t ht => .inr ?_
  obtain ⟨_, ⟨rfl, h0⟩ | ⟨g, cap, cur, hv, hbg, _⟩⟩ := hown
  · cases ht
  · rw [hv] at ht
    simp [Value.ownBlock] at ht
    omega
set_option maxRecDepth 100000 in
theorem concat_any (L o : Nat) (ls : List ListT) (c : Nat) (hlen : ls.length ≤ 1000) (hb : (catL ls).length * 32 ≤ 140737488355328) (w : World) (h : ListsAt w L o ls) :
    Calls Tryd.prog 50 #[.slice (some ⟨L, o, none⟩) ls.length c] w fun e w' => ∃ v, e = .returned v ∧ w'.ownsRow w.heap.size 46 4 v (catL ls).length (crow (catL ls)) ∧ Ch [] w w' := by
  obtain ⟨n, hn⟩ : ∃ n, ls.length = n := ⟨_, rfl⟩
  have G1 := fun w => grow_any (catL ls).length hb w
  go_enter Tryd.func50, Tryd.ntmps50
  rw [hn]
  have hn1000 : n ≤ 1000 := by omega
  go_wp2
  go_loopw [11, 3] (fun i s wr => ∃ j : Nat, i = I j ∧ s = I (catL (ls.take j)).length ∧ j ≤ n ∧ wr = w) (fun i _ _ => n - (intOf i).toNat)
  case atStart => exact ⟨0, rfl, rfl, by omega, rfl⟩
  case round =>
    obtain ⟨j, hi, hs, hj, hwr⟩ := hrel
    subst hi hs
    rw [hwr]
    clear hwr
    rcases (show j = n ∨ j < n by omega) with rfl | hlt
    · have e : ls.take j = ls := List.take_of_length_le (by omega)
      rw [e]
      obtain ⟨m, hm⟩ : ∃ m, (catL ls).length = m := ⟨_, rfl⟩
      rw [hm] at G1 ⊢
      have hm0 : ¬ (m : Int) < 0 := by omega
      go_wp2_with fail
      refine (G1 _).mono ?_
      rintro e w1 ⟨v, rfl, hown, hc1⟩
      clear G1 e
      have HL := Lib.hid h
      clear h
      obtain ⟨a1, c1, rfl⟩ := own_val hown
      go_wp2
      go_loopw [27, 6] (fun i v wr => ∃ k : Nat, i = I k ∧ k ≤ j ∧ wr.ownsRow w.heap.size 46 4 v (catL (ls.take k)).length (crow (catL (ls.take k))) ∧ Ch [] w wr) (fun i _ _ => j - (intOf i).toNat)
      case atStart => exact ⟨0, rfl, by omega, hown, hc1⟩
      case round =>
        obtain ⟨k, hi, hk, hown2, hc2⟩ := hrel
        subst hi
        obtain ⟨a2, c2, rfl⟩ := own_val hown2
        rcases (show k = j ∨ k < j by omega) with rfl | hlt
        · have ek : ls.take k = ls := List.take_of_length_le (by omega)
          rw [ek] at hown2 ⊢
          clear hown hc1
          go_wp2
          go_ret
          exact ⟨_, rfl, hown2, hc2⟩
        · obtain ⟨s, hs⟩ : ∃ s, ls[k]? = some s := ⟨_, List.getElem?_eq_getElem (by omega)⟩
          have hLr := (HL.out.ch hc2) k s hs
          have hcl := catL_take_le ls (k + 1)
          have E1 : catL (ls.take (k + 1)) = catL (ls.take k) ++ s.l := by rw [take_snoc hs, catL_snoc]
          rw [E1, List.length_append] at hcl
          have hW : w.heap.size ≤ wr.heap.size := hc2.size
          obtain ⟨v', w', hrun, ho, hg⟩ := append_calls wr w.heap.size _ _ _ hown2 s hLr.2 (by omega) hW
          have hc3 := grown_ch hown2 hg (Nat.le_refl _) hc2
          have hcell := hLr.1
          obtain ⟨sv, hsv⟩ : ∃ r, s.val = r := ⟨_, rfl⟩
          rw [hsv] at hrun hcell
          have hkj : (k : Int) < j := by omega
          have HO := Lib.hid ho
          have HC := Lib.hid hc3
          have HE := Lib.hid E1
          have hsl : ∃ x y z, sv = .slice x y z := ⟨_, _, _, hsv.symm⟩
          obtain ⟨x, y, z, rfl⟩ := hsl
          clear hsv ho hg hc3 E1 hW hLr hown2 hc2 hcl hown hc1 hs HL
          go_wp2_with (at_builtin; refine Lib.wpList_append_run _ rfl _ _ 47 47 rfl _ _ rfl rfl _ _ hrun ?_)
          go_roundw
          case rel =>
            refine ⟨k + 1, by go_num, by omega, ?_, HC.out⟩
            rw [HE.out, crow_append, List.length_append]
            exact HO.out
          case measure => simp [intOf]; omega
    · obtain ⟨s, hs⟩ : ∃ s, ls[j]? = some s := ⟨_, List.getElem?_eq_getElem (by omega)⟩
      have hc := (h j s hs).1
      have hcl := catL_take_le ls (j + 1)
      rw [take_snoc hs, catL_snoc, List.length_append] at hcl
      unfold ListT.val at hc
      have hjn : (j : Int) < n := by omega
      have E := Lib.hid (show (catL (ls.take (j + 1))).length = (catL (ls.take j)).length + s.l.length by rw [take_snoc hs, catL_snoc, List.length_append])
      obtain ⟨q, hq⟩ : ∃ q, (catL (ls.take j)).length = q := ⟨_, rfl⟩
      obtain ⟨r, hr⟩ : ∃ r, s.l.length = r := ⟨_, rfl⟩
      obtain ⟨sa, hsa⟩ : ∃ r, s.a = r := ⟨_, rfl⟩
      rw [hq, hr] at hcl
      rw [hq, hr] at E
      rw [hr, hsa] at hc
      rw [hq]
      have hqr : (q : Int) + r ≤ 4398046511104 := by omega
      have hq0 : ¬ (q : Int) + r < 0 := by omega
      clear hq hr hsa h G1
      go_wp2
      go_roundw
      case rel => exact ⟨j + 1, by go_num, by rw [E.out]; go_num, by omega, trivial⟩
      case measure => simp [intOf]; omega
end Go.Proofs.Hc
