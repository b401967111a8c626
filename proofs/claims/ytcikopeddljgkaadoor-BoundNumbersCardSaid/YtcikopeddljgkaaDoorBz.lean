import Derived.Test.YtcikopeddljgkaaDoorBy
import Derived.Test.YtcikopeddljgkaaDoorBe
/- Law 29: BoundNumbers, the walk (printed by gen_bnum.py). -/
namespace Go.Proofs.Hc
open Go.RowKit
set_option linter.unusedVariables false
attribute [local go_sem] wrap_u64 wrap_u8 bits_xor64 bits_and64 bits_or64 bits_not64 bits_xor8 bits_and8 bits_or8 signed64 signed8 ofInt_N BitVec.ofInt_add BitVec.ofInt_mul ofInt_sub' ofInt8_N64 ofInt64_N8 wide8 eqN neN shr_pow shr1 shr7 shr56
attribute [local go_sem high] bits_com64 shl_wrap
attribute [local go_sem] nn2 nm2 nn3 nm3 nn4 nm4 nn5 nm5 nn6 nm6 nn7 nm7 nn8 nm8
attribute [local go_sem] Oper.semAt_some make_func1 make_funcB
attribute [local go_sem] cell_heap ice_heap cellAt_cells iceAt_cells setAt_cells size_setCell rowAt_cells canLay_cells laidAt_cells size_onObj rowRes_some layRes_true
attribute [local go_sem ↓] heap_alloc heap_drew heap_drewN heap_setCell heap_putObj heap_onObj
theorem lrow3i (a : Addr) : loadVar 24 a = loadRow 24 a := rfl
theorem srow3i (a : Addr) (v : Value) : storeVar 24 a v = storeRow 24 a v := rfl
theorem zero3i (w : World) : (zeroValue 24).run Tryd.prog w = .ok (.agg #[I 0, I 0, I 0]) w := by kernel_rfl
theorem load3i (g o : Nat) (w : World) : (loadRow 24 ⟨g, o, none⟩).run Tryd.prog w = rowRes Tryd.prog 24 g o w ((w.heap[g]?).bind (rowAt o 3)) :=
  run_row Tryd.underlying24 rfl (by kernel_rfl) g o w
theorem store3i (g o : Nat) (vs : Array Value) (w : World) : (storeRow 24 ⟨g, o, none⟩ (.agg vs)).run Tryd.prog w = layRes Tryd.prog 24 g o vs w (((w.heap[g]?).map (canLay o 3 vs)).getD false) :=
  run_lay (by kernel_rfl) g o vs w
theorem one3i (a b c : Int) : allOne #[I a, I b, I c] = true := by simp [allOne, Value.oneCell']
attribute [local go_sem] load3i store3i one3i
attribute [local go_sem ↓] lrow3i srow3i zero3i
theorem arr_ch (vs : Array Value) (w : World) : Ch [] w (World.onObj (w.alloc (.cells #[I 0, I 0, I 0] 24)) w.heap.size (laidAt 0 vs)) := ((Ch.refl [] w).alloc _).onObj (.inr (Nat.le_refl _)) _
theorem arr_put (a b c : Int) (w : World) : (World.onObj (w.alloc (.cells #[I 0, I 0, I 0] 24)) w.heap.size (laidAt 0 #[I a, I b, I c])).heap[w.heap.size]? = some (.cells #[I a, I b, I c] 24 (0, 0)) := by
  rw [heap_onObj, if_pos rfl, heap_alloc, if_pos rfl]; rfl
/-- Rows of three numbers at a slice's address. -/
def NumsIn (w : World) (a : Option Addr) (n : Nat) (xs : Nat → Int × Int × Int) : Prop := ∀ j, j < n → ∃ kb ko, a = some ⟨kb, ko, none⟩ ∧ kb < w.heap.size ∧ (w.heap[kb]?).bind (rowAt (ko + j * 3) 3) = some #[I (xs j).1, I (xs j).2.1, I (xs j).2.2] ∧ (-9223372036854775808 ≤ (xs j).1 ∧ (xs j).1 ≤ 9223372036854775807)
theorem NumsIn.ch {w w' : World} {a : Option Addr} {n : Nat} {xs : Nat → Int × Int × Int} (h : NumsIn w a n xs) (c : Ch [] w w') : NumsIn w' a n xs := fun j hj => by
  obtain ⟨kb, ko, h1, h2, h3, h4⟩ := h j hj
  exact ⟨kb, ko, h1, Nat.lt_of_lt_of_le h2 c.size, by rw [c.block kb h2 (by simp)]; exact h3, h4⟩
set_option maxHeartbeats 8000000 in
set_option maxRecDepth 100000 in
theorem numbersLaw (a : Option Addr) (n c : Nat) (xs : Nat → Int × Int × Int) (w : World) (hn : n ≤ c) (hc : c ≤ 9223372036854775807) (ha : a = none → n = 0 ∧ c = 0) (hx : NumsIn w a n xs) (hT : TakesAt w) :
    Calls Tryd.prog 3 #[.slice a n c] w fun e w' => e = .returned (.bool true) ∧ Ch [] w w' := by
  have W1 := wakes29_any w hT
  have HX := Lib.hid hx
  clear hx hT ha
  go_enter Tryd.func3, Tryd.ntmps3
  go_wp2_with fail
  refine W1.mono ?_
  rintro e w0 ⟨rfl, hc0⟩
  have HC0 := Lib.hid hc0
  clear W1 hc0
  go_wp2
  go_loopw [21] (fun i wr => ∃ j : Nat, i = I j ∧ j ≤ n ∧ j ≤ 12 ∧ Ch [] w wr) (fun i _ => n - (intOf i).toNat)
  case atStart => exact ⟨0, rfl, by omega, by omega, HC0.out⟩
  case round =>
    obtain ⟨j, hi, hj, hj12, hC⟩ := hrel
    subst hi
    clear HC0
    rcases (show j = n ∨ j < n by omega) with rfl | hlt
    · go_wp2
      go_ret
      exact ⟨rfl, hC⟩
    · obtain ⟨kb, ko, rfl, -, hrow, hb⟩ := HX.out.ch hC j hlt
      have hjn : (j : Int) < n := by omega
      rcases (show j = 12 ∨ j < 12 by omega) with rfl | hlt12
      · obtain ⟨⟨x, y, z⟩, hxs⟩ : ∃ p, xs 12 = p := ⟨_, rfl⟩
        rw [hxs] at hrow hb
        dsimp only at hrow hb
        clear HX hxs hb
        have hcA := arr_ch #[I x, I y, I z] wr
        have CA := hC.trans hcA
        clear hcA hC
        go_wp2
        go_ret
        exact ⟨rfl, CA⟩
      · have hj12' : ((j : Int) == 12) = false := by rw [beq_eq_false_iff_ne]; omega
        obtain ⟨⟨x, y, z⟩, hxs⟩ : ∃ p, xs j = p := ⟨_, rfl⟩
        rw [hxs] at hrow hb
        dsimp only at hrow hb
        clear HX hxs
        have hcA := arr_ch #[I x, I y, I z] wr
        have hT0 := arr_put x y z wr
        have CA := hC.trans hcA
        clear hcA hC
        go_upto_region 6 with (fail)

        obtain ⟨w3, hw3⟩ : ∃ W, World.onObj (wr.alloc (.cells #[I 0, I 0, I 0] 24)) wr.heap.size (laidAt 0 #[I x, I y, I z]) = W := ⟨_, rfl⟩
        rw [hw3] at hT0 CA ⊢
        clear hw3 hrow
        obtain ⟨T, hTe⟩ : ∃ T, wr.heap.size = T := ⟨_, rfl⟩
        rw [hTe] at hT0 ⊢
        clear hTe
        obtain ⟨hb0, hb1⟩ := hb
        have hst : (∃ Q, slabOk y = true ∧ 5000 + 8 * y = Q) ∨ slabOk y = false := by
          cases h : slabOk y with
          | true => exact .inl ⟨_, rfl, rfl⟩
          | false => exact .inr rfl
        by_cases hneg : x < 0
        · have SP := fun w => bSplits_no x hneg w
          have SL := fun w => bSlabs_no x hneg w
          rcases hst with ⟨Q, hsl, hQ⟩ | hsl
          · have ST := fun w => bSteps_ok y hsl w
            have RT := fun w => rsteps_any y hsl w
            have MA := fun w => rmay29_any y w
            rw [hsl] at MA
            rw [hQ] at ST RT
            have hsb := (slabOk_iff y).1 hsl
            have hwin : x < 1 := by omega
            have hW : winE x y z = (0, 2) := by
              have hf : winOk x z = false := by
                cases h : winOk x z with
                | false => rfl
                | true => have h2 := (winOk_iff x z).1 h; omega
              unfold winE; rw [hf]; rfl
            have WI := fun w => window_any x y z w
            rw [hW] at WI
            clear hW hsb hQ hsl
            go_wp2_with fail
            refine (SP _).mono ?_
            rintro e w4 ⟨rfl, hc4⟩
            have t4 := bkeep hc4 hT0
            have C4 := CA.trans hc4
            clear hc4 hT0 CA
            go_wp2_with fail
            refine (SL _).mono ?_
            rintro e w5 ⟨rfl, hc5⟩
            have t5 := bkeep hc5 t4
            have C5 := C4.trans hc5
            clear hc5 t4 C4
            go_wp2_with fail
            refine (ST _).mono ?_
            rintro e w6 ⟨rfl, hc6⟩
            have t6 := bkeep hc6 t5
            have C6 := C5.trans hc6
            clear hc6 t5 C5
            go_wp2_with fail
            refine (WI _).mono ?_
            rintro e w7 ⟨rfl, hc7⟩
            have t7 := bkeep hc7 t6
            have C7 := C6.trans hc7
            clear hc7 t6 C6
            go_wp2_with fail
            refine (MA _).mono ?_
            rintro e w' ⟨rfl, rfl⟩
            go_wp2_with fail
            refine (RT _).mono ?_
            rintro e w' ⟨rfl, rfl⟩
            go_wp2
            clear t7
            go_roundw
            case rel => exact ⟨j + 1, by go_num, by omega, by omega, C7⟩
            case measure => simp [intOf]; omega
          · have ST := fun w => bSteps_no y hsl w
            have MA := fun w => rmay29_any y w
            rw [hsl] at MA
            have hW : winE x y z = (0, 2) := by
              unfold winE; rw [hsl, Bool.and_false]; rfl
            have WI := fun w => window_any x y z w
            rw [hW] at WI
            clear hW hsl
            go_wp2_with fail
            refine (SP _).mono ?_
            rintro e w4 ⟨rfl, hc4⟩
            have t4 := bkeep hc4 hT0
            have C4 := CA.trans hc4
            clear hc4 hT0 CA
            go_wp2_with fail
            refine (SL _).mono ?_
            rintro e w5 ⟨rfl, hc5⟩
            have t5 := bkeep hc5 t4
            have C5 := C4.trans hc5
            clear hc5 t4 C4
            go_wp2_with fail
            refine (ST _).mono ?_
            rintro e w6 ⟨rfl, hc6⟩
            have t6 := bkeep hc6 t5
            have C6 := C5.trans hc6
            clear hc6 t5 C5
            go_wp2_with fail
            refine (WI _).mono ?_
            rintro e w7 ⟨rfl, hc7⟩
            have t7 := bkeep hc7 t6
            have C7 := C6.trans hc7
            clear hc7 t6 C6
            go_wp2_with fail
            refine (MA _).mono ?_
            rintro e w' ⟨rfl, rfl⟩
            go_wp2
            clear t7
            go_roundw
            case rel => exact ⟨j + 1, by go_num, by omega, by omega, C7⟩
            case measure => simp [intOf]; omega
        · have hx0 : 0 ≤ x := by omega
          have SP := fun w => bSplits_ok x hx0 hb1 w
          have SL := fun w => bSlabs_ok x hx0 hb1 w
          have RS := fun w => rsplits_any x hx0 hb1 w
          have RL := fun w => rslabs_any x hx0 hb1 w
          obtain ⟨A, hA⟩ : ∃ A, splitsB x = A := ⟨_, rfl⟩
          obtain ⟨D, hD⟩ : ∃ D, slabsB x = D := ⟨_, rfl⟩
          rw [hA] at SP RS
          rw [hD] at SL RL
          clear hA hD
          rcases hst with ⟨Q, hsl, hQ⟩ | hsl
          · have ST := fun w => bSteps_ok y hsl w
            have RT := fun w => rsteps_any y hsl w
            have MA := fun w => rmay29_any y w
            rw [hsl] at MA
            rw [hQ] at ST RT
            have hsb := (slabOk_iff y).1 hsl
            have hwin : (x < 1) ∨ (1 ≤ x ∧ ¬ x ≤ 8) ∨ (1 ≤ x ∧ x ≤ 8 ∧ z < 1) ∨ (1 ≤ x ∧ x ≤ 8 ∧ 1 ≤ z ∧ ¬ z ≤ 4096) ∨ (1 ≤ x ∧ x ≤ 8 ∧ 1 ≤ z ∧ z ≤ 4096) := by omega
            rcases hwin with hwin | hwin | hwin | hwin | hwin
            · skip
              have hW : winE x y z = (0, 2) := by
                have hf : winOk x z = false := by
                  cases h : winOk x z with
                  | false => rfl
                  | true => have h2 := (winOk_iff x z).1 h; omega
                unfold winE; rw [hf]; rfl
              have WI := fun w => window_any x y z w
              rw [hW] at WI
              clear hW hsb hQ hsl
              go_wp2_with fail
              refine (SP _).mono ?_
              rintro e w4 ⟨rfl, hc4⟩
              have t4 := bkeep hc4 hT0
              have C4 := CA.trans hc4
              clear hc4 hT0 CA
              go_wp2_with fail
              refine (SL _).mono ?_
              rintro e w5 ⟨rfl, hc5⟩
              have t5 := bkeep hc5 t4
              have C5 := C4.trans hc5
              clear hc5 t4 C4
              go_wp2_with fail
              refine (RS _).mono ?_
              rintro e w6 ⟨rfl, hc6⟩
              have t6 := bkeep hc6 t5
              have C6 := C5.trans hc6
              clear hc6 t5 C5
              go_wp2_with fail
              refine (RL _).mono ?_
              rintro e w7 ⟨rfl, hc7⟩
              have t7 := bkeep hc7 t6
              have C7 := C6.trans hc7
              clear hc7 t6 C6
              go_wp2_with fail
              refine (ST _).mono ?_
              rintro e w8 ⟨rfl, hc8⟩
              have t8 := bkeep hc8 t7
              have C8 := C7.trans hc8
              clear hc8 t7 C7
              go_wp2_with fail
              refine (WI _).mono ?_
              rintro e w9 ⟨rfl, hc9⟩
              have t9 := bkeep hc9 t8
              have C9 := C8.trans hc9
              clear hc9 t8 C8
              go_wp2_with fail
              refine (MA _).mono ?_
              rintro e w' ⟨rfl, rfl⟩
              go_wp2_with fail
              refine (RT _).mono ?_
              rintro e w' ⟨rfl, rfl⟩
              go_wp2
              clear t9
              go_roundw
              case rel => exact ⟨j + 1, by go_num, by omega, by omega, C9⟩
              case measure => simp [intOf]; omega
            · skip
              have hW : winE x y z = (0, 2) := by
                have hf : winOk x z = false := by
                  cases h : winOk x z with
                  | false => rfl
                  | true => have h2 := (winOk_iff x z).1 h; omega
                unfold winE; rw [hf]; rfl
              have WI := fun w => window_any x y z w
              rw [hW] at WI
              clear hW hsb hQ hsl
              obtain ⟨d0, d1⟩ := hwin
              go_wp2_with fail
              refine (SP _).mono ?_
              rintro e w4 ⟨rfl, hc4⟩
              have t4 := bkeep hc4 hT0
              have C4 := CA.trans hc4
              clear hc4 hT0 CA
              go_wp2_with fail
              refine (SL _).mono ?_
              rintro e w5 ⟨rfl, hc5⟩
              have t5 := bkeep hc5 t4
              have C5 := C4.trans hc5
              clear hc5 t4 C4
              go_wp2_with fail
              refine (RS _).mono ?_
              rintro e w6 ⟨rfl, hc6⟩
              have t6 := bkeep hc6 t5
              have C6 := C5.trans hc6
              clear hc6 t5 C5
              go_wp2_with fail
              refine (RL _).mono ?_
              rintro e w7 ⟨rfl, hc7⟩
              have t7 := bkeep hc7 t6
              have C7 := C6.trans hc7
              clear hc7 t6 C6
              go_wp2_with fail
              refine (ST _).mono ?_
              rintro e w8 ⟨rfl, hc8⟩
              have t8 := bkeep hc8 t7
              have C8 := C7.trans hc8
              clear hc8 t7 C7
              go_wp2_with fail
              refine (WI _).mono ?_
              rintro e w9 ⟨rfl, hc9⟩
              have t9 := bkeep hc9 t8
              have C9 := C8.trans hc9
              clear hc9 t8 C8
              go_wp2_with fail
              refine (MA _).mono ?_
              rintro e w' ⟨rfl, rfl⟩
              go_wp2_with fail
              refine (RT _).mono ?_
              rintro e w' ⟨rfl, rfl⟩
              go_wp2
              clear t9
              go_roundw
              case rel => exact ⟨j + 1, by go_num, by omega, by omega, C9⟩
              case measure => simp [intOf]; omega
            · skip
              have hW : winE x y z = (0, 2) := by
                have hf : winOk x z = false := by
                  cases h : winOk x z with
                  | false => rfl
                  | true => have h2 := (winOk_iff x z).1 h; omega
                unfold winE; rw [hf]; rfl
              have WI := fun w => window_any x y z w
              rw [hW] at WI
              clear hW hsb hQ hsl
              obtain ⟨d0, d1, d2⟩ := hwin
              go_wp2_with fail
              refine (SP _).mono ?_
              rintro e w4 ⟨rfl, hc4⟩
              have t4 := bkeep hc4 hT0
              have C4 := CA.trans hc4
              clear hc4 hT0 CA
              go_wp2_with fail
              refine (SL _).mono ?_
              rintro e w5 ⟨rfl, hc5⟩
              have t5 := bkeep hc5 t4
              have C5 := C4.trans hc5
              clear hc5 t4 C4
              go_wp2_with fail
              refine (RS _).mono ?_
              rintro e w6 ⟨rfl, hc6⟩
              have t6 := bkeep hc6 t5
              have C6 := C5.trans hc6
              clear hc6 t5 C5
              go_wp2_with fail
              refine (RL _).mono ?_
              rintro e w7 ⟨rfl, hc7⟩
              have t7 := bkeep hc7 t6
              have C7 := C6.trans hc7
              clear hc7 t6 C6
              go_wp2_with fail
              refine (ST _).mono ?_
              rintro e w8 ⟨rfl, hc8⟩
              have t8 := bkeep hc8 t7
              have C8 := C7.trans hc8
              clear hc8 t7 C7
              go_wp2_with fail
              refine (WI _).mono ?_
              rintro e w9 ⟨rfl, hc9⟩
              have t9 := bkeep hc9 t8
              have C9 := C8.trans hc9
              clear hc9 t8 C8
              go_wp2_with fail
              refine (MA _).mono ?_
              rintro e w' ⟨rfl, rfl⟩
              go_wp2_with fail
              refine (RT _).mono ?_
              rintro e w' ⟨rfl, rfl⟩
              go_wp2
              clear t9
              go_roundw
              case rel => exact ⟨j + 1, by go_num, by omega, by omega, C9⟩
              case measure => simp [intOf]; omega
            · skip
              have hW : winE x y z = (0, 2) := by
                have hf : winOk x z = false := by
                  cases h : winOk x z with
                  | false => rfl
                  | true => have h2 := (winOk_iff x z).1 h; omega
                unfold winE; rw [hf]; rfl
              have WI := fun w => window_any x y z w
              rw [hW] at WI
              clear hW hsb hQ hsl
              obtain ⟨d0, d1, d2, d3⟩ := hwin
              go_wp2_with fail
              refine (SP _).mono ?_
              rintro e w4 ⟨rfl, hc4⟩
              have t4 := bkeep hc4 hT0
              have C4 := CA.trans hc4
              clear hc4 hT0 CA
              go_wp2_with fail
              refine (SL _).mono ?_
              rintro e w5 ⟨rfl, hc5⟩
              have t5 := bkeep hc5 t4
              have C5 := C4.trans hc5
              clear hc5 t4 C4
              go_wp2_with fail
              refine (RS _).mono ?_
              rintro e w6 ⟨rfl, hc6⟩
              have t6 := bkeep hc6 t5
              have C6 := C5.trans hc6
              clear hc6 t5 C5
              go_wp2_with fail
              refine (RL _).mono ?_
              rintro e w7 ⟨rfl, hc7⟩
              have t7 := bkeep hc7 t6
              have C7 := C6.trans hc7
              clear hc7 t6 C6
              go_wp2_with fail
              refine (ST _).mono ?_
              rintro e w8 ⟨rfl, hc8⟩
              have t8 := bkeep hc8 t7
              have C8 := C7.trans hc8
              clear hc8 t7 C7
              go_wp2_with fail
              refine (WI _).mono ?_
              rintro e w9 ⟨rfl, hc9⟩
              have t9 := bkeep hc9 t8
              have C9 := C8.trans hc9
              clear hc9 t8 C8
              go_wp2_with fail
              refine (MA _).mono ?_
              rintro e w' ⟨rfl, rfl⟩
              go_wp2_with fail
              refine (RT _).mono ?_
              rintro e w' ⟨rfl, rfl⟩
              go_wp2
              clear t9
              go_roundw
              case rel => exact ⟨j + 1, by go_num, by omega, by omega, C9⟩
              case measure => simp [intOf]; omega
            · skip
              obtain ⟨d0, d1, d2, d3⟩ := hwin
              have hW : winE x y z = (z * x * (5000 + 8 * y), 0) := by
                unfold winE; rw [(winOk_iff x z).2 ⟨⟨d0, d1⟩, d2, d3⟩, hsl]; rfl
              have WI := fun w => window_any x y z w
              rw [hW, hQ] at WI
              have p0 : 0 ≤ z * x := Int.mul_nonneg (by omega) (by omega)
              have p1 : z * x ≤ 4096 * 8 := Int.mul_le_mul d3 d1 (by omega) (by omega)
              have e1 : IntKind.i64.wrap (z * x) = z * x := IntWalk.i64_in _ (by omega)
              obtain ⟨Z, hZ⟩ : ∃ Z, z * x = Z := ⟨_, rfl⟩
              rw [hZ] at e1 p0 p1 WI
              have p2 : 0 ≤ Z * Q := Int.mul_nonneg p0 (by omega)
              have p3 : Z * Q ≤ 4096 * 8 * 6024 := Int.mul_le_mul p1 (by omega) (by omega) (by omega)
              have e2 : IntKind.i64.wrap (Z * Q) = Z * Q := IntWalk.i64_in _ (by omega)
              obtain ⟨P, hP⟩ : ∃ P, Z * Q = P := ⟨_, rfl⟩
              rw [hP] at WI
              rw [hP] at e2
              have e3 : IntKind.i64.wrap (z * x) = Z := by rw [hZ]; exact e1
              have e4 : IntKind.i64.wrap (Z * Q) = P := by rw [hP]; exact e2
              clear hW hsb hQ hsl p0 p1 p2 p3 e1 e2 hZ hP
              go_wp2_with fail
              refine (SP _).mono ?_
              rintro e w4 ⟨rfl, hc4⟩
              have t4 := bkeep hc4 hT0
              have C4 := CA.trans hc4
              clear hc4 hT0 CA
              go_wp2_with fail
              refine (SL _).mono ?_
              rintro e w5 ⟨rfl, hc5⟩
              have t5 := bkeep hc5 t4
              have C5 := C4.trans hc5
              clear hc5 t4 C4
              go_wp2_with fail
              refine (RS _).mono ?_
              rintro e w6 ⟨rfl, hc6⟩
              have t6 := bkeep hc6 t5
              have C6 := C5.trans hc6
              clear hc6 t5 C5
              go_wp2_with fail
              refine (RL _).mono ?_
              rintro e w7 ⟨rfl, hc7⟩
              have t7 := bkeep hc7 t6
              have C7 := C6.trans hc7
              clear hc7 t6 C6
              go_wp2_with fail
              refine (ST _).mono ?_
              rintro e w8 ⟨rfl, hc8⟩
              have t8 := bkeep hc8 t7
              have C8 := C7.trans hc8
              clear hc8 t7 C7
              go_wp2_with fail
              refine (WI _).mono ?_
              rintro e w9 ⟨rfl, hc9⟩
              have t9 := bkeep hc9 t8
              have C9 := C8.trans hc9
              clear hc9 t8 C8
              go_wp2_with fail
              refine (MA _).mono ?_
              rintro e w' ⟨rfl, rfl⟩
              go_wp2_with fail
              refine (RT _).mono ?_
              rintro e w' ⟨rfl, rfl⟩
              go_wp2
              clear t9
              go_roundw
              case rel => exact ⟨j + 1, by go_num, by omega, by omega, C9⟩
              case measure => simp [intOf]; omega
          · have ST := fun w => bSteps_no y hsl w
            have MA := fun w => rmay29_any y w
            rw [hsl] at MA
            have hW : winE x y z = (0, 2) := by
              unfold winE; rw [hsl, Bool.and_false]; rfl
            have WI := fun w => window_any x y z w
            rw [hW] at WI
            clear hW hsl
            go_wp2_with fail
            refine (SP _).mono ?_
            rintro e w4 ⟨rfl, hc4⟩
            have t4 := bkeep hc4 hT0
            have C4 := CA.trans hc4
            clear hc4 hT0 CA
            go_wp2_with fail
            refine (SL _).mono ?_
            rintro e w5 ⟨rfl, hc5⟩
            have t5 := bkeep hc5 t4
            have C5 := C4.trans hc5
            clear hc5 t4 C4
            go_wp2_with fail
            refine (RS _).mono ?_
            rintro e w6 ⟨rfl, hc6⟩
            have t6 := bkeep hc6 t5
            have C6 := C5.trans hc6
            clear hc6 t5 C5
            go_wp2_with fail
            refine (RL _).mono ?_
            rintro e w7 ⟨rfl, hc7⟩
            have t7 := bkeep hc7 t6
            have C7 := C6.trans hc7
            clear hc7 t6 C6
            go_wp2_with fail
            refine (ST _).mono ?_
            rintro e w8 ⟨rfl, hc8⟩
            have t8 := bkeep hc8 t7
            have C8 := C7.trans hc8
            clear hc8 t7 C7
            go_wp2_with fail
            refine (WI _).mono ?_
            rintro e w9 ⟨rfl, hc9⟩
            have t9 := bkeep hc9 t8
            have C9 := C8.trans hc9
            clear hc9 t8 C8
            go_wp2_with fail
            refine (MA _).mono ?_
            rintro e w' ⟨rfl, rfl⟩
            go_wp2
            clear t9
            go_roundw
            case rel => exact ⟨j + 1, by go_num, by omega, by omega, C9⟩
            case measure => simp [intOf]; omega
end Go.Proofs.Hc
