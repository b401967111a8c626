/- slices.Concat at rows of calls. -/
import Derived.Test.YtfoicjijngfhbaaGreatDoorKBc
import Derived.Test.YtfoicjijngfhbaaGreatDoorKBd
import Derived.Test.YtfoicjijngfhbaaGreatDoorKBf
import Derived.Test.YtfoicjijngfhbaaGreatDoorKBh
import Derived.Test.YtfoicjijngfhbaaGreatDoorKDa
import Derived.Test.YtfoicjijngfhbaaGreatDoorKEk
import Derived.Test.YtfoicjijngfhbaaGreatDoorKHm
import Derived.Test.YtfoicjijngfhbaaGreatDoorKHr
import Derived.Below
import Derived.BigQuiet
import Derived.Deep.Cut
import Derived.Deep.Draws
import Derived.Deep.QuietTactic
import Derived.Deep.RegionHeld
import Derived.Laws.AppendOwn
import Derived.Laws.CopyRow
import Derived.Laws.EntriesVeiled
import Derived.Laws.Tables
import Derived.Lib.AppendZerosOnto
import Derived.Lib.Hide
import Derived.LoopIn
import Derived.LoopNIn
import Derived.OwnWalkIn
import Derived.RangeFuncCalls
import Derived.RangeFuncRecord
import Derived.RangeFuncSeq
import Derived.Recover
import Derived.TacticsInMore
import Derived.Test.YtfoicjijngfhbaaGreatDoorProg
import Derived.WalkKit
import Derived.WalkLawsBesides
set_option linter.unusedSimpArgs false
set_option linter.unusedVariables false
namespace Go.Proofs.Hc
open Go.RowKit
set_option linter.unusedVariables false
attribute [local go_sem] wrap_u64 wrap_u8 bits_xor64 bits_and64 bits_or64 bits_not64 bits_xor8 bits_and8 bits_or8 signed64 signed8 ofInt_N BitVec.ofInt_add BitVec.ofInt_mul ofInt_sub' ofInt8_N64 ofInt64_N8 wide8 eqN neN shr_pow shr1 shr7 shr56
attribute [local go_sem high] bits_com64 shl_wrap
attribute [local go_sem] nn2 nm2 nn3 nm3 nn4 nm4 nn5 nm5 nn6 nm6 nn7 nm7 nn8 nm8
attribute [local go_sem] Oper.semAt_some make_func1 make_funcB
theorem take_snoc {α : Type} {l : List α} {j : Nat} {s : α} (h : l[j]? = some s) : l.take (j + 1) = l.take j ++ [s] := by
  obtain ⟨hj, e⟩ := List.getElem?_eq_some_iff.1 h
  rw [List.take_add_one, h]; rfl
theorem catL_take_le (ls : List ListT) (j : Nat) : (catL (ls.take j)).length ≤ (catL ls).length := by
  have : catL ls = catL (ls.take j) ++ catL (ls.drop j) := by unfold catL; rw [← List.flatMap_append, List.take_append_drop]
  rw [this, List.length_append]; omega
theorem own_val {W : World} {base n size : Nat} {e : TypeId} {v : Value} {xs : List Value} (h : W.ownsRow base e size v n xs) : ∃ a c, v = .slice a n c := by
  obtain ⟨_, ⟨rfl, h0⟩ | ⟨g, cap, cur, hv, _⟩⟩ := h
  · exact ⟨none, 0, by rw [h0]⟩
  · exact ⟨_, _, hv⟩
theorem grown_ch {w w' : World} {base : Nat} {v : Value} {n size : Nat} {e : TypeId} {xs : List Value} {w0 : World} (hown : w.ownsRow base e size v n xs) (hg : w.grownBy w' v.ownBlock) (hb : w0.heap.size ≤ base) (c : Ch [] w0 w) : Ch [] w0 w' := by
  have h : Ch (match v.ownBlock with | some b => [b] | none => []) w w' := Ch.of_grown hg (fun k hk => by rw [hk]; simp)
  refine c.trans2 h fun t ht => .inr ?_
  obtain ⟨_, ⟨rfl, h0⟩ | ⟨g, cap, cur, hv, hbg, _⟩⟩ := hown
  · cases ht
  · rw [hv] at ht
    simp [Value.ownBlock] at ht
    omega
set_option maxRecDepth 100000 in
theorem concat_any (L o : Nat) (ls : List ListT) (c : Nat) (hlen : ls.length ≤ 1000) (hb : (catL ls).length * 32 ≤ 140737488355328) (w : World) (h : ListsAt w L o ls) :
    Calls Tryz.prog 52 #[.slice (some ⟨L, o, none⟩) ls.length c] w fun e w' => ∃ v, e = .returned v ∧ w'.ownsRow w.heap.size 44 4 v (catL ls).length (crow (catL ls)) ∧ Ch [] w w' := by
  obtain ⟨n, hn⟩ : ∃ n, ls.length = n := ⟨_, rfl⟩
  have G1 := fun w => grow_any (catL ls).length hb w
  go_enter Tryz.func52, Tryz.ntmps52
  rw [hn]
  have hn1000 : n ≤ 1000 := by omega
  go_wp2
  go_loopw [11, 3] (fun i s wr => ∃ j : Nat, i = I j ∧ s = I (catL (ls.take j)).length ∧ j ≤ n ∧ wr = w) (fun i _ _ => n - (intOf i).toNat)
  case atStart => exact ⟨0, rfl, rfl, by omega, rfl⟩
  case round =>
    obtain ⟨j, hi, hs, hj, hwr⟩ := hrel
    subst hi hs
    rw [hwr]
    clear hwr
    rcases (show j = n ∨ j < n by omega) with rfl | hlt
    · have e : ls.take j = ls := List.take_of_length_le (by omega)
      rw [e]
      obtain ⟨m, hm⟩ : ∃ m, (catL ls).length = m := ⟨_, rfl⟩
      rw [hm] at G1 ⊢
      have hm0 : ¬ (m : Int) < 0 := by omega
      go_wp2_with fail
      refine (G1 _).mono ?_
      rintro e w1 ⟨v, rfl, hown, hc1⟩
      clear G1 e
      have HL := Lib.hid h
      clear h
      obtain ⟨a1, c1, rfl⟩ := own_val hown
      go_wp2
      go_loopw [27, 6] (fun i v wr => ∃ k : Nat, i = I k ∧ k ≤ j ∧ wr.ownsRow w.heap.size 44 4 v (catL (ls.take k)).length (crow (catL (ls.take k))) ∧ Ch [] w wr) (fun i _ _ => j - (intOf i).toNat)
      case atStart => exact ⟨0, rfl, by omega, hown, hc1⟩
      case round =>
        obtain ⟨k, hi, hk, hown2, hc2⟩ := hrel
        subst hi
        obtain ⟨a2, c2, rfl⟩ := own_val hown2
        rcases (show k = j ∨ k < j by omega) with rfl | hlt
        · have ek : ls.take k = ls := List.take_of_length_le (by omega)
          rw [ek] at hown2 ⊢
          clear hown hc1
          go_wp2
          go_ret
          exact ⟨_, rfl, hown2, hc2⟩
        · obtain ⟨s, hs⟩ : ∃ s, ls[k]? = some s := ⟨_, List.getElem?_eq_getElem (by omega)⟩
          have hLr := (HL.out.ch hc2) k s hs
          have hcl := catL_take_le ls (k + 1)
          have E1 : catL (ls.take (k + 1)) = catL (ls.take k) ++ s.l := by rw [take_snoc hs, catL_snoc]
          rw [E1, List.length_append] at hcl
          have hW : w.heap.size ≤ wr.heap.size := hc2.size
          obtain ⟨v', w', hrun, ho, hg⟩ := append_calls wr w.heap.size _ _ _ hown2 s hLr.2 (by omega) hW
          have hc3 := grown_ch hown2 hg (Nat.le_refl _) hc2
          have hcell := hLr.1
          obtain ⟨sv, hsv⟩ : ∃ r, s.val = r := ⟨_, rfl⟩
          rw [hsv] at hrun hcell
          have hkj : (k : Int) < j := by omega
          have HO := Lib.hid ho
          have HC := Lib.hid hc3
          have HE := Lib.hid E1
          have hsl : ∃ x y z, sv = .slice x y z := ⟨_, _, _, hsv.symm⟩
          obtain ⟨x, y, z, rfl⟩ := hsl
          clear hsv ho hg hc3 E1 hW hLr hown2 hc2 hcl hown hc1 hs HL
          go_wp2_with (at_builtin; refine Lib.wpList_append_run _ rfl _ _ 45 45 rfl _ _ rfl rfl _ _ hrun ?_)
          go_roundw
          case rel =>
            refine ⟨k + 1, by go_num, by omega, ?_, HC.out⟩
            rw [HE.out, crow_append, List.length_append]
            exact HO.out
          case measure => simp [intOf]; omega
    · obtain ⟨s, hs⟩ : ∃ s, ls[j]? = some s := ⟨_, List.getElem?_eq_getElem (by omega)⟩
      have hc := (h j s hs).1
      have hcl := catL_take_le ls (j + 1)
      rw [take_snoc hs, catL_snoc, List.length_append] at hcl
      unfold ListT.val at hc
      have hjn : (j : Int) < n := by omega
      have E := Lib.hid (show (catL (ls.take (j + 1))).length = (catL (ls.take j)).length + s.l.length by rw [take_snoc hs, catL_snoc, List.length_append])
      obtain ⟨q, hq⟩ : ∃ q, (catL (ls.take j)).length = q := ⟨_, rfl⟩
      obtain ⟨r, hr⟩ : ∃ r, s.l.length = r := ⟨_, rfl⟩
      obtain ⟨sa, hsa⟩ : ∃ r, s.a = r := ⟨_, rfl⟩
      rw [hq, hr] at hcl
      rw [hq, hr] at E
      rw [hr, hsa] at hc
      rw [hq]
      have hqr : (q : Int) + r ≤ 4398046511104 := by omega
      have hq0 : ¬ (q : Int) + r < 0 := by omega
      clear hq hr hsa h G1
      go_wp2
      go_roundw
      case rel => exact ⟨j + 1, by go_num, by rw [E.out]; go_num, by omega, trivial⟩
      case measure => simp [intOf]; omega
end Go.Proofs.Hc
/- Package script: all calls are right. -/
namespace Go.Proofs.Hc
open Go.RowKit
set_option linter.unusedVariables false
attribute [local go_sem] wrap_u64 wrap_u8 bits_xor64 bits_and64 bits_or64 bits_not64 bits_xor8 bits_and8 bits_or8 signed64 signed8 ofInt_N BitVec.ofInt_add BitVec.ofInt_mul ofInt_sub' ofInt8_N64 ofInt64_N8 wide8 eqN neN shr_pow shr1 shr7 shr56
attribute [local go_sem high] bits_com64 shl_wrap
attribute [local go_sem] nn2 nm2 nn3 nm3 nn4 nm4 nn5 nm5 nn6 nm6 nn7 nm7 nn8 nm8
attribute [local go_sem] Oper.semAt_some make_func1 make_funcB
attribute [local go_sem] cell_heap ice_heap cellAt_cells iceAt_cells setAt_cells size_setCell rowAt_cells canLay_cells laidAt_cells size_onObj rowRes_some layRes_true box_call
attribute [local go_sem ↓] heap_alloc heap_drew heap_drewN heap_setCell heap_putObj heap_onObj
def CallT.val (c : CallT) : Value := .agg #[I c.op, U c.k, U c.x, U c.y]
def CallT.right (c : CallT) : Bool := rightC c.op c.k c.x c.y
theorem lrowC (a : Addr) : loadVar 44 a = loadRow 44 a := rfl
theorem loadC (g o : Nat) (w : World) : (loadRow 44 ⟨g, o, none⟩).run Tryz.prog w = rowRes Tryz.prog 44 g o w ((w.heap[g]?).bind (rowAt o 4)) :=
  run_row Tryz.underlying44 rfl (by kernel_rfl) g o w
attribute [local go_sem] loadC
attribute [local go_sem ↓] lrowC
theorem oneC (a : Int) (b c d : BitVec 64) : allOne #[I a, U b, U c, U d] = true := by simp [allOne, Value.oneCell']
set_option maxRecDepth 100000 in
theorem scall1_any (c : CallT) (g : Nat) (w : World) (hT : TakesAt w) (hg : w.heap[g]? = some (.cells #[.func (.func 54) #[] #[]] 55 (0, 0))) :
    Calls Tryz.prog 65 #[c.val, .pointer (some ⟨g, 0, none⟩)] w fun e w' => e = .returned (.bool (!c.right)) ∧ Ch [] w w' := by
  obtain ⟨op, k, x, y⟩ := c
  unfold CallT.val CallT.right
  dsimp only
  obtain ⟨W, hW, C, hB⟩ := callbox op k x y w
  have R1 := sright_any op k x y W (hT.ch C)
  have hg1 := bkeep C hg
  obtain ⟨B, hBe⟩ : ∃ B, w.heap.size = B := ⟨_, rfl⟩
  obtain ⟨b, hb⟩ : ∃ b, rightC op k x y = b := ⟨_, rfl⟩
  rw [hBe] at hB
  rw [hb] at R1 ⊢
  clear hT hg hb
  go_enter Tryz.func65, Tryz.ntmps65
  go_upto_region 1 with (fail)
  try rw [hW]
  try rw [hBe]
  clear hW hBe
  go_wp2_with fail
  refine R1.mono ?_
  rintro e w' ⟨rfl, hc⟩
  go_wp2
  go_ret
  exact ⟨rfl, C.trans hc⟩
theorem row_call {cur : Array Value} {n : Nat} {l : List CallT} (hn : l.length = n) (h : cur.toList.take (n * 4) = crow l) {i : Nat} {c : CallT} (hi : l[i]? = some c) : cur.extract (i * 4) (i * 4 + 4) = #[I c.op, U c.k, U c.x, U c.y] ∧ i * 4 + 4 ≤ cur.size := by
  obtain ⟨hlt, he⟩ := List.getElem?_eq_some_iff.1 hi
  have hcr : crow l = crow (l.take i) ++ (CallT.cells c ++ crow (l.drop (i + 1))) := by
    have : l = l.take i ++ (c :: l.drop (i + 1)) := by rw [← he, ← List.drop_eq_getElem_cons hlt, List.take_append_drop]
    conv => lhs; rw [this]
    rw [crow_append]
    rfl
  have hlen : (crow (l.take i)).length = i * 4 := by rw [crow_len, List.length_take, Nat.min_eq_left (by omega)]
  have hsz : i * 4 + 4 ≤ cur.size := by
    have h2 := congrArg List.length h
    rw [crow_len, List.length_take, Array.length_toList] at h2
    omega
  refine ⟨?_, hsz⟩
  apply Array.ext'
  rw [Array.toList_extract, List.extract_eq_take_drop]
  have h3 : (cur.toList.drop (i * 4)).take (i * 4 + 4 - i * 4) = ((cur.toList.take (n * 4)).drop (i * 4)).take 4 := by
    rw [List.drop_take, List.take_take, Nat.add_sub_cancel_left, Nat.min_eq_left (by omega)]
  rw [h3, h, hcr, List.drop_append_of_le_length (by omega), List.drop_of_length_le (by omega), List.nil_append]
  rfl
set_option maxRecDepth 100000 in
theorem sidxc_any (base : Nat) (v : Value) (l : List CallT) (g : Nat) (w : World) (hl : l.length ≤ 1000000) (hown : w.ownsRow base 44 4 v l.length (crow l)) (hT : TakesAt w) (hg : w.heap[g]? = some (.cells #[.func (.func 54) #[] #[]] 55 (0, 0))) :
    Calls Tryz.prog 86 #[v, .func (.func 65) #[] #[.pointer (some ⟨g, 0, none⟩)]] w fun e w' => ∃ r : Int, e = .returned (I r) ∧ ((r = -1 ∧ ∀ c ∈ l, c.right = true) ∨ (0 ≤ r ∧ ∃ c, c ∈ l ∧ c.right = false)) ∧ Ch [] w w' := by
  obtain ⟨n, hn⟩ : ∃ n, l.length = n := ⟨_, rfl⟩
  rw [hn] at hown hl
  obtain ⟨_, ⟨rfl, h0⟩ | ⟨q, cap, cur, rfl, hbq, hq, hnc, hcm, hcs, htake⟩⟩ := hown
  · have e : l = [] := List.eq_nil_of_length_eq_zero (by omega)
    subst e
    clear hT hg
    go_enter Tryz.func86, Tryz.ntmps86
    go_wp2
    refine wp_loop_rounds 1 ?_
    rw [rounds_succ]
    go_wp2
    go_ret
    exact ⟨_, rfl, .inl ⟨rfl, fun c h => by cases h⟩, Ch.refl _ _⟩
  · have HR := Lib.hid (fun i c hi => row_call (i := i) (c := c) hn htake hi)
    have HT := Lib.hid hT
    have HN := Lib.hid hn
    clear htake hcs hcm hT hn
    go_enter Tryz.func86, Tryz.ntmps86
    go_wp2
    go_loopw [8] (fun i wr => ∃ j : Nat, i = I j ∧ j ≤ n ∧ (∀ c ∈ l.take j, c.right = true) ∧ wr.heap[q]? = some (.cells cur 44 (0, 0)) ∧ Ch [] w wr) (fun i _ => n - (intOf i).toNat)
    case atStart => exact ⟨0, rfl, by omega, fun c h => (by cases h), hq, Ch.refl _ _⟩
    case round =>
      obtain ⟨j, hi, hj, hz, q1, c1⟩ := hrel
      subst hi
      have HZ := Lib.hid hz
      have gr := bkeep c1 hg
      clear hz hq hg
      rcases (show j = n ∨ j < n by omega) with rfl | hlt
      · clear q1 gr
        go_wp2
        go_ret
        refine ⟨_, rfl, .inl ⟨rfl, fun c h => HZ.out c ?_⟩, c1⟩
        rw [List.take_of_length_le (by have := HN.out; omega)]; exact h
      · obtain ⟨c, hc⟩ : ∃ c, l[j]? = some c := ⟨_, List.getElem?_eq_getElem (by have := HN.out; omega)⟩
        obtain ⟨hx, hsz⟩ := HR.out j c hc
        have A1 := scall1_any c g wr (HT.out.ch c1) gr
        have one := oneC c.op c.k c.x c.y
        have HC := Lib.hid hc
        have HQ := Lib.hid q1
        have HC1 := Lib.hid c1
        have hjn : (j : Int) < n := by omega
        clear hc gr
        cases hb : c.right with
        | true =>
          rw [hb] at A1
          have HB := Lib.hid hb
          clear hb
          unfold CallT.val at A1
          clear c1
          go_wp2_with fail
          refine A1.mono ?_
          rintro e w2 ⟨rfl, hc2⟩
          go_wp2
          go_roundw
          case rel =>
            refine ⟨j + 1, by go_num, by omega, fun d hd => ?_, bkeep hc2 HQ.out, HC1.out.trans hc2⟩
            rw [take_snoc HC.out, List.mem_append, List.mem_singleton] at hd
            rcases hd with h | h
            · exact HZ.out d h
            · rw [h]; exact HB.out
          case measure => simp [intOf]; omega
        | false =>
          rw [hb] at A1
          have HB := Lib.hid hb
          clear hb
          unfold CallT.val at A1
          clear c1
          go_wp2_with fail
          refine A1.mono ?_
          rintro e w2 ⟨rfl, hc2⟩
          go_wp2
          go_ret
          exact ⟨_, rfl, .inr ⟨by omega, c, List.mem_of_getElem? HC.out, HB.out⟩, HC1.out.trans hc2⟩
set_option maxRecDepth 100000 in
theorem sallc_any (base : Nat) (v : Value) (l : List CallT) (w : World) (hl : l.length ≤ 1000000) (hown : w.ownsRow base 44 4 v l.length (crow l)) (hT : TakesAt w) :
    Calls Tryz.prog 53 #[v, .func (.func 54) #[] #[]] w fun e w' => e = .returned (.bool (l.all CallT.right)) ∧ Ch [] w w' := by
  have C : Ch [] w (w.alloc (.cells #[.func (.func 54) #[] #[]] 55)) := (Ch.refl [] w).alloc _
  have hg : (w.alloc (.cells #[.func (.func 54) #[] #[]] 55)).heap[w.heap.size]? = some (.cells #[.func (.func 54) #[] #[]] 55 (0, 0)) := by
    rw [heap_alloc, if_pos rfl]
  have hown1 : (w.alloc (.cells #[.func (.func 54) #[] #[]] 55)).ownsRow base 44 4 v l.length (crow l) := by
    obtain ⟨h1, h | ⟨q, cap, cur, hv, hbq, hq, hr⟩⟩ := hown
    · exact ⟨h1, .inl h⟩
    · exact ⟨h1, .inr ⟨q, cap, cur, hv, hbq, bkeep C hq, hr⟩⟩
  have I1 := sidxc_any base v l w.heap.size _ hl hown1 (hT.ch C) hg
  have K1 : Calls Tryz.prog 64 #[v, .func (.func 65) #[] #[.pointer (some ⟨w.heap.size, 0, none⟩)]] (w.alloc (.cells #[.func (.func 54) #[] #[]] 55)) fun e w' => e = .returned (.bool (!(l.all CallT.right))) ∧ Ch [] (w.alloc (.cells #[.func (.func 54) #[] #[]] 55)) w' := by
    obtain ⟨W, hW⟩ : ∃ W, w.alloc (.cells #[.func (.func 54) #[] #[]] 55) = W := ⟨_, rfl⟩
    rw [hW] at I1 ⊢
    obtain ⟨a, c, rfl⟩ := own_val hown
    clear hW hg hown1 hown hT C
    have key : ∀ r : Int, ((r = -1 ∧ ∀ c ∈ l, c.right = true) ∨ (0 ≤ r ∧ ∃ c, c ∈ l ∧ c.right = false)) → decide (0 ≤ r) = !(l.all CallT.right) := by
      rintro r (⟨rfl, h⟩ | ⟨h, c, hc, hr⟩)
      · rw [List.all_eq_true.2 h]; rfl
      · rw [decide_eq_true h]
        cases ha : l.all CallT.right with
        | false => rfl
        | true => have := List.all_eq_true.1 ha c hc; rw [hr] at this; cases this
    obtain ⟨b, hb⟩ : ∃ b, (!(l.all CallT.right)) = b := ⟨_, rfl⟩
    rw [hb] at key ⊢
    have HK := Lib.hid key
    clear key hb
    go_enter Tryz.func64, Tryz.ntmps64
    go_wp2_with fail
    refine I1.mono ?_
    rintro e w' ⟨r, rfl, hr, hc⟩
    have hd := HK.out r hr
    clear hr
    go_wp2
    go_ret
    exact ⟨rfl, hc⟩
  obtain ⟨b, hb⟩ : ∃ b, l.all CallT.right = b := ⟨_, rfl⟩
  rw [hb] at K1 ⊢
  obtain ⟨a, c, rfl⟩ := own_val hown
  clear hown hT hg hown1 I1 hb
  go_enter Tryz.func53, Tryz.ntmps53
  go_wp2_with fail
  refine K1.mono ?_
  rintro e w' ⟨rfl, hc⟩
  go_wp2
  go_ret
  exact ⟨rfl, C.trans hc⟩
end Go.Proofs.Hc
