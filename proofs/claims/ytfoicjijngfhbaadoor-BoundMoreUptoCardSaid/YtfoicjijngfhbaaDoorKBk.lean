/- Package script: all calls are right. -/
import Derived.Test.YtfoicjijngfhbaaDoorKBj
set_option linter.unusedSimpArgs false
set_option linter.unusedVariables false
namespace Go.Proofs.Hc
open Go.RowKit
set_option linter.unusedVariables false
attribute [local go_sem] wrap_u64 wrap_u8 bits_xor64 bits_and64 bits_or64 bits_not64 bits_xor8 bits_and8 bits_or8 signed64 signed8 ofInt_N BitVec.ofInt_add BitVec.ofInt_mul ofInt_sub' ofInt8_N64 ofInt64_N8 wide8 eqN neN shr_pow shr1 shr7 shr56
attribute [local go_sem high] bits_com64 shl_wrap
attribute [local go_sem] nn2 nm2 nn3 nm3 nn4 nm4 nn5 nm5 nn6 nm6 nn7 nm7 nn8 nm8
attribute [local go_sem] Oper.semAt_some make_func1 make_funcB
attribute [local go_sem] cell_heap ice_heap cellAt_cells iceAt_cells setAt_cells size_setCell rowAt_cells canLay_cells laidAt_cells size_onObj rowRes_some layRes_true box_call
attribute [local go_sem ↓] heap_alloc heap_drew heap_drewN heap_setCell heap_putObj heap_onObj
def CallT.val (c : CallT) : Value := .agg #[I c.op, U c.k, U c.x, U c.y]
def CallT.right (c : CallT) : Bool := rightC c.op c.k c.x c.y
theorem lrowC (a : Addr) : loadVar 46 a = loadRow 46 a := rfl
theorem loadC (g o : Nat) (w : World) : (loadRow 46 ⟨g, o, none⟩).run Tryd.prog w = rowRes Tryd.prog 46 g o w ((w.heap[g]?).bind (rowAt o 4)) :=
  run_row Tryd.underlying46 rfl (by kernel_rfl) g o w
attribute [local go_sem] loadC
attribute [local go_sem ↓] lrowC
theorem oneC (a : Int) (b c d : BitVec 64) : allOne #[I a, U b, U c, U d] = true := by simp [allOne, Value.oneCell']
set_option maxRecDepth 100000 in
theorem scall1_any (c : CallT) (g : Nat) (w : World) (hT : TakesAt w) (hg : w.heap[g]? = some (.cells #[.func (.func 52) #[] #[]] 80 (0, 0))) :
    Calls Tryd.prog 59 #[c.val, .pointer (some ⟨g, 0, none⟩)] w fun e w' => e = .returned (.bool (!c.right)) ∧ Ch [] w w' := by
  obtain ⟨op, k, x, y⟩ := c
  unfold CallT.val CallT.right
  dsimp only
  obtain ⟨W, hW, C, hB⟩ := callbox op k x y w
  have R1 := sright_any op k x y W (hT.ch C)
  have hg1 := bkeep C hg
  obtain ⟨B, hBe⟩ : ∃ B, w.heap.size = B := ⟨_, rfl⟩
  obtain ⟨b, hb⟩ : ∃ b, rightC op k x y = b := ⟨_, rfl⟩
  rw [hBe] at hB
  rw [hb] at R1 ⊢
  clear hT hg hb
  go_enter Tryd.func59, Tryd.ntmps59
  go_upto_region 1 with (fail)
  try rw [hW]
  try rw [hBe]
  clear hW hBe
  go_wp2_with fail
  refine R1.mono ?_
  rintro e w' ⟨rfl, hc⟩
  go_wp2
  go_ret
  exact ⟨rfl, C.trans hc⟩
theorem row_call {cur : Array Value} {n : Nat} {l : List CallT} (hn : l.length = n) (h : cur.toList.take (n * 4) = crow l) {i : Nat} {c : CallT} (hi : l[i]? = some c) : cur.extract (i * 4) (i * 4 + 4) = #[I c.op, U c.k, U c.x, U c.y] ∧ i * 4 + 4 ≤ cur.size := by
  obtain ⟨hlt, he⟩ := List.getElem?_eq_some_iff.1 hi
  have hcr : crow l = crow (l.take i) ++ (CallT.cells c ++ crow (l.drop (i + 1))) := by
    have : l = l.take i ++ (c :: l.drop (i + 1)) := by rw [← he, ← List.drop_eq_getElem_cons hlt, List.take_append_drop]
    conv => lhs; rw [this]
    rw [crow_append]
    rfl
  have hlen : (crow (l.take i)).length = i * 4 := by rw [crow_len, List.length_take, Nat.min_eq_left (by omega)]
  have hsz : i * 4 + 4 ≤ cur.size := by
    have h2 := congrArg List.length h
    rw [crow_len, List.length_take, Array.length_toList] at h2
    omega
  refine ⟨?_, hsz⟩
  apply Array.ext'
  rw [Array.toList_extract, List.extract_eq_take_drop]
  have h3 : (cur.toList.drop (i * 4)).take (i * 4 + 4 - i * 4) = ((cur.toList.take (n * 4)).drop (i * 4)).take 4 := by
    rw [List.drop_take, List.take_take, Nat.add_sub_cancel_left, Nat.min_eq_left (by omega)]
  rw [h3, h, hcr, List.drop_append_of_le_length (by omega), List.drop_of_length_le (by omega), List.nil_append]
  rfl
set_option maxRecDepth 100000 in
theorem sidxc_any (base : Nat) (v : Value) (l : List CallT) (g : Nat) (w : World) (hl : l.length ≤ 1000000) (hown : w.ownsRow base 46 4 v l.length (crow l)) (hT : TakesAt w) (hg : w.heap[g]? = some (.cells #[.func (.func 52) #[] #[]] 80 (0, 0))) :
    Calls Tryd.prog 77 #[v, .func (.func 59) #[] #[.pointer (some ⟨g, 0, none⟩)]] w fun e w' => ∃ r : Int, e = .returned (I r) ∧ ((r = -1 ∧ ∀ c ∈ l, c.right = true) ∨ (0 ≤ r ∧ ∃ c, c ∈ l ∧ c.right = false)) ∧ Ch [] w w' := by
  obtain ⟨n, hn⟩ : ∃ n, l.length = n := ⟨_, rfl⟩
  rw [hn] at hown hl
  obtain ⟨_, ⟨rfl, h0⟩ | ⟨q, cap, cur, rfl, hbq, hq, hnc, hcm, hcs, htake⟩⟩ := hown
  · have e : l = [] := List.eq_nil_of_length_eq_zero (by omega)
    subst e
    clear hT hg
    go_enter Tryd.func77, Tryd.ntmps77
    go_wp2
    refine wp_loop_rounds 1 ?_
    rw [rounds_succ]
    go_wp2
    go_ret
    exact ⟨_, rfl, .inl ⟨rfl, fun c h => by cases h⟩, Ch.refl _ _⟩
  · have HR := Lib.hid (fun i c hi => row_call (i := i) (c := c) hn htake hi)
    have HT := Lib.hid hT
    have HN := Lib.hid hn
    clear htake hcs hcm hT hn
    go_enter Tryd.func77, Tryd.ntmps77
    go_wp2
    go_loopw [8] (fun i wr => ∃ j : Nat, i = I j ∧ j ≤ n ∧ (∀ c ∈ l.take j, c.right = true) ∧ wr.heap[q]? = some (.cells cur 46 (0, 0)) ∧ Ch [] w wr) (fun i _ => n - (intOf i).toNat)
    case atStart => exact ⟨0, rfl, by omega, fun c h => (by cases h), hq, Ch.refl _ _⟩
    case round =>
      obtain ⟨j, hi, hj, hz, q1, c1⟩ := hrel
      subst hi
      have HZ := Lib.hid hz
      have gr := bkeep c1 hg
      clear hz hq hg
      rcases (show j = n ∨ j < n by omega) with rfl | hlt
      · clear q1 gr
        go_wp2
        go_ret
        refine ⟨_, rfl, .inl ⟨rfl, fun c h => HZ.out c ?_⟩, c1⟩
        rw [List.take_of_length_le (by have := HN.out; omega)]; exact h
      · obtain ⟨c, hc⟩ : ∃ c, l[j]? = some c := ⟨_, List.getElem?_eq_getElem (by have := HN.out; omega)⟩
        obtain ⟨hx, hsz⟩ := HR.out j c hc
        have A1 := scall1_any c g wr (HT.out.ch c1) gr
        have one := oneC c.op c.k c.x c.y
        have HC := Lib.hid hc
        have HQ := Lib.hid q1
        have HC1 := Lib.hid c1
        have hjn : (j : Int) < n := by omega
        clear hc gr
        cases hb : c.right with
        | true =>
          rw [hb] at A1
          have HB := Lib.hid hb
          clear hb
          unfold CallT.val at A1
          clear c1
          go_wp2_with fail
          refine A1.mono ?_
          rintro e w2 ⟨rfl, hc2⟩
          go_wp2
          go_roundw
          case rel =>
            refine ⟨j + 1, by go_num, by omega, fun d hd => ?_, bkeep hc2 HQ.out, HC1.out.trans hc2⟩
            rw [take_snoc HC.out, List.mem_append, List.mem_singleton] at hd
            rcases hd with h | h
            · exact HZ.out d h
            · rw [h]; exact HB.out
          case measure => simp [intOf]; omega
        | false =>
          rw [hb] at A1
          have HB := Lib.hid hb
          clear hb
          unfold CallT.val at A1
          clear c1
          go_wp2_with fail
          refine A1.mono ?_
          rintro e w2 ⟨rfl, hc2⟩
          go_wp2
          go_ret
          exact ⟨_, rfl, .inr ⟨by omega, c, List.mem_of_getElem? HC.out, HB.out⟩, HC1.out.trans hc2⟩
set_option maxRecDepth 100000 in
theorem sallc_any (base : Nat) (v : Value) (l : List CallT) (w : World) (hl : l.length ≤ 1000000) (hown : w.ownsRow base 46 4 v l.length (crow l)) (hT : TakesAt w) :
    Calls Tryd.prog 51 #[v, .func (.func 52) #[] #[]] w fun e w' => e = .returned (.bool (l.all CallT.right)) ∧ Ch [] w w' := by
  have C : Ch [] w (w.alloc (.cells #[.func (.func 52) #[] #[]] 80)) := (Ch.refl [] w).alloc _
  have hg : (w.alloc (.cells #[.func (.func 52) #[] #[]] 80)).heap[w.heap.size]? = some (.cells #[.func (.func 52) #[] #[]] 80 (0, 0)) := by
    rw [heap_alloc, if_pos rfl]
  have hown1 : (w.alloc (.cells #[.func (.func 52) #[] #[]] 80)).ownsRow base 46 4 v l.length (crow l) := by
    obtain ⟨h1, h | ⟨q, cap, cur, hv, hbq, hq, hr⟩⟩ := hown
    · exact ⟨h1, .inl h⟩
    · exact ⟨h1, .inr ⟨q, cap, cur, hv, hbq, bkeep C hq, hr⟩⟩
  have I1 := sidxc_any base v l w.heap.size _ hl hown1 (hT.ch C) hg
  have K1 : Calls Tryd.prog 58 #[v, .func (.func 59) #[] #[.pointer (some ⟨w.heap.size, 0, none⟩)]] (w.alloc (.cells #[.func (.func 52) #[] #[]] 80)) fun e w' => e = .returned (.bool (!(l.all CallT.right))) ∧ Ch [] (w.alloc (.cells #[.func (.func 52) #[] #[]] 80)) w' := by
    obtain ⟨W, hW⟩ : ∃ W, w.alloc (.cells #[.func (.func 52) #[] #[]] 80) = W := ⟨_, rfl⟩
    rw [hW] at I1 ⊢
    obtain ⟨a, c, rfl⟩ := own_val hown
    clear hW hg hown1 hown hT C
    have key : ∀ r : Int, ((r = -1 ∧ ∀ c ∈ l, c.right = true) ∨ (0 ≤ r ∧ ∃ c, c ∈ l ∧ c.right = false)) → decide (0 ≤ r) = !(l.all CallT.right) := by
      rintro r (⟨rfl, h⟩ | ⟨h, c, hc, hr⟩)
      · rw [List.all_eq_true.2 h]; rfl
      · rw [decide_eq_true h]
        cases ha : l.all CallT.right with
        | false => rfl
        | true => have := List.all_eq_true.1 ha c hc; rw [hr] at this; cases this
    obtain ⟨b, hb⟩ : ∃ b, (!(l.all CallT.right)) = b := ⟨_, rfl⟩
    rw [hb] at key ⊢
    have HK := Lib.hid key
    clear key hb
    go_enter Tryd.func58, Tryd.ntmps58
    go_wp2_with fail
    refine I1.mono ?_
    rintro e w' ⟨r, rfl, hr, hc⟩
    have hd := HK.out r hr
    clear hr
    go_wp2
    go_ret
    exact ⟨rfl, hc⟩
  obtain ⟨b, hb⟩ : ∃ b, l.all CallT.right = b := ⟨_, rfl⟩
  rw [hb] at K1 ⊢
  obtain ⟨a, c, rfl⟩ := own_val hown
  clear hown hT hg hown1 I1 hb
  go_enter Tryd.func51, Tryd.ntmps51
  go_wp2_with fail
  refine K1.mono ?_
  rintro e w' ⟨rfl, hc⟩
  go_wp2
  go_ret
  exact ⟨rfl, C.trans hc⟩
end Go.Proofs.Hc
