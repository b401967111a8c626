/- Law 22: SplitShuts, the walk (printed by gen_shuts22.py). -/
import Derived.Test.YtcikopeddljgkaaGreatKVb
import Derived.Test.YtcikopeddljgkaaGreatK0
set_option linter.unusedSimpArgs false
set_option linter.unusedVariables false
set_option maxHeartbeats 8000000
set_option maxRecDepth 100000
namespace Go.Proofs.Hc
open Go.RowKit
attribute [local go_sem] zbr zby zau zba zbl zay zbk zbm zbu signed64 signed8 zas BitVec.ofInt_add BitVec.ofInt_mul ofInt_sub' zaw zax wide8 eqN neN zbx shr1 shr7 shr56
attribute [local go_sem high] zaz zbt
attribute [local go_sem] zan zbv zae zal zad zbd zao zag zbj zaj zbc zbe
attribute [local go_sem] load26 load73 load23 store26 build73
attribute [local go_sem ↓] lrow26 lrow73 lrow23 srow26 zero26 brow73 zab zav zbb zaa zac
attribute [local go_sem] zah zaq zat zbf zbg zbp zam zar zbq zbi zbh
attribute [local go_sem] nn2 nm2 nn3 nm3 nn4 nm4 nn5 nm5 nn6 nm6 nn7 nm7 nn8 nm8
section
attribute [local go_sem] acc_g0 acc_g1 acc_g2 acc_g4 acc_s0 acc_s1 acc_s2 acc_s4 zcu accC_one accC_all loadAcc storeAcc bacc0 bacc2 bacc3 bacc3u bacc4
attribute [local go_sem ↓] lrowAcc srowAcc browAcc zct
attribute [local go_sem high] zce
attribute [local go_sem] zas zbo
attribute [local go_sem] Oper.semAt_some zak
attribute [local go_sem] zch pacell0 pacell1 pacell2 pacell3 pacell4 pacell5 pacell6 pacell7 pacell42
attribute [local go_sem] zcv zdi zde zcz zcy zdd zdh zdc zcc zcp zdj zdg zck zbn zcg zci boxPart loadPart storePart zcd zcs buildPart0 buildPart4
attribute [local go_sem ↓] lrowPart srowPart browPart zcj zbw
attribute [local go_sem high] zap
attribute [local irreducible] partC
attribute [local go_sem] box26 zbz cell0 cell1 cell2 cell3 cell4 zcb zca
attribute [local irreducible] accC tcells
attribute [local go_sem high] laidAt_t tmod2_64w bit64w bit64zw
theorem eqin_part (p : PartT) (w : World) : (Op.equalIn 10000 51 (.agg (partC p)) (.agg (partC p))).run Tryz.prog w = .ok true w := self_part 9996 p w
attribute [local go_sem] guardPart
attribute [local go_sem ↓] eqin_part eql_part neq_part
theorem build2i_21 (w : World) : (Instr.build 45 #[(0, .int .i64 2), (1, .int .i64 1)]).run Tryz.prog w = .ok (.agg #[.int .i64 2, .int .i64 1]) w := by kernel_rfl
attribute [local go_sem] build2i_21
theorem eq_rows22 {l : List (BitVec 64)} {n : Nat} (hn : n ≤ 900000) (hl : l.length = n) (R R2 c d : Nat) (cur cur2 : Array Value) (h1 : WordsAt cur l) (h2 : WordsAt cur2 l) (w : World) (hb : w.heap[R]? = some (.cells cur 22 (0, 0))) (hb2 : w.heap[R2]? = some (.cells cur2 22 (0, 0))) :
    Calls Tryz.prog 31 #[.slice (some ⟨R, 0, none⟩) n c, .slice (some ⟨R2, 0, none⟩) n d] w fun e w' => e = .returned (.bool true) ∧ Ch [] w w' := by
  subst hl
  exact eqWords_any l _ _ c d cur cur2 w hn h1 (fun _ => ⟨R, rfl⟩) (fun r h => by cases h; exact hb) h2 (fun _ => ⟨R2, rfl⟩) (fun r h => by cases h; exact hb2)
theorem shutI_first {t : Tab} {who : Int} {seed : BitVec 64} (hr : rightS (firstP22 who 0 2 1 seed) = true) : ShutI (cells22 t) (cells22 t) (firstP22 who 0 2 1 seed) t.count who false :=
  ⟨cells22_len t, (zcx _).1 hr, rfl, rfl, rfl, rfl, cells22_get t 0 (by omega), .inl ⟨rfl, rfl, .inl (by show (0 : Int) ≤ 5; decide), fun h => absurd h (by show ¬ (1 : Int) ≤ 0; decide)⟩⟩
theorem clone22 {l : List (BitVec 64)} {n : Nat} (h1 : 1 ≤ n) (hn : n ≤ 900000) (hl : l.length = n) (R c : Nat) (cur : Array Value) (hw : WordsAt cur l) (w : World) (hb : w.heap[R]? = some (.cells cur 22 (0, 0))) :
    Calls Tryz.prog 54 #[.slice (some ⟨R, 0, none⟩) n c] w fun e w' => ∃ r c' cur', e = .returned (.slice (some ⟨r, 0, none⟩) n c') ∧ w.heap.size ≤ r ∧ WordsAt cur' l ∧ w'.heap[r]? = some (.cells cur' 22 (0, 0)) ∧ Ch [] w w' := by
  subst hl
  refine (cloneWords_any l ⟨R, 0, none⟩ c w hn (fun w' hc j u hj => ?_)).mono ?_
  · rw [List.getElem?_map] at hj
    obtain ⟨x, hx, rfl⟩ := Option.map_eq_some_iff.1 hj
    rw [Addr.add_lit, zan, hkeep hc hb, Option.bind_some, zae, Nat.zero_add]
    exact hw j x hx
  · rintro e w' ⟨a', c', rfl, ho, hC⟩
    obtain ⟨hlen, ⟨_, h0⟩ | ⟨r, c2, cur2, hv, hb2, hW, h56, hcm, hsz, hel⟩⟩ := ho
    · omega
    · obtain ⟨rfl, -, rfl⟩ := by simpa only [Value.slice.injEq] using hv
      refine ⟨r, c', cur2, rfl, hb2, fun j x hj => ?_, hW, hC⟩
      have hj56 := (List.getElem?_eq_some_iff.1 hj).1
      have h1 : (l.map fun x => U x)[j]? = some (U x) := by rw [List.getElem?_map, hj]; rfl
      rw [← hel, List.getElem?_take, if_pos (by omega), Array.getElem?_toList] at h1
      exact h1
theorem shuts_none (t : Tab) (seed : BitVec 64) (who : Int) (hf : flatT t = false) (w : World) : Calls Tryz.prog 9 #[U seed, .agg (tcells t), I who] w fun e w' => e = .returned (.bool true) ∧ Ch [] w w' := by
  have L1 := fun w => cells22_bad t hf w
  have B1 := fun w => s22Begin_any who 0 2 1 seed w
  obtain ⟨q, qe, hq⟩ : ∃ q e, tupOr (fun v => Value.agg (partC v)) (.agg (partC zeroPart)) (begin22E who 0 2 1 seed) = .tuple #[.agg (partC q), I e] := by
    cases begin22E who 0 2 1 seed with
    | ok v => exact ⟨v, 0, rfl⟩
    | error c => exact ⟨zeroPart, c, rfl⟩
  rw [hq] at B1
  have q22 : ∀ (w : World) (a : Option Addr) (n c n' c' : Nat), (binOp .eql 44 (.slice a n c) (.slice none n' c')).run Tryz.prog w = .ok (.bool a.isNone) w := fun w a n c n' c' => Lib.run_eql_slice_nil w _ _ a n c n' c' Tryz.underlying44
  have W1 := fun w => wakes22_any w
  have C0 : Ch [] w (w.alloc (.cells (tcells t) 26)) := (Ch.refl [] w).alloc _
  have t0 : (w.alloc (.cells (tcells t) 26)).heap[w.heap.size]? = some (.cells (tcells t) 26 (0, 0)) := by rw [zab, if_pos rfl]
  clear hf hq
  go_enter Tryz.func9, Tryz.ntmps9
  go_wp2_with fail
  obtain ⟨w0, hw0⟩ : ∃ W, w.alloc (.cells (tcells t) 26) = W := ⟨_, rfl⟩
  rw [hw0] at C0 t0 ⊢
  clear hw0
  obtain ⟨T, hT⟩ : ∃ T, w.heap.size = T := ⟨_, rfl⟩
  rw [hT] at t0 ⊢
  have hTw : w.heap.size ≤ T := by omega
  clear hT
  refine (W1 _).mono ?_
  rintro e w1 ⟨rfl, hc1⟩
  have t1 := hkeep hc1 t0
  have C1 := C0.trans hc1
  clear t0 C0 hc1 W1
  go_wp2_with fail
  refine (L1 _).mono ?_
  rintro e w2 ⟨rfl, hc2⟩
  have t2 := hkeep hc2 t1
  have C2 := C1.trans hc2
  clear t1 C1 hc2 L1
  go_wp2_with fail
  refine (B1 _).mono ?_
  rintro e w3 ⟨rfl, hc3⟩
  have C3 := C2.trans hc3
  go_wp2
  go_ret
  exact ⟨rfl, C3.trans (part_put_ch _ _)⟩
theorem shuts_not (t : Tab) (seed : BitVec 64) (who : Int) (hf : flatT t = true) (hr : rightS (firstP22 who 0 2 1 seed) = false) (w : World) : Calls Tryz.prog 9 #[U seed, .agg (tcells t), I who] w fun e w' => e = .returned (.bool true) ∧ Ch [] w w' := by
  have L1 := fun w => cells22_ok t hf w
  have B1 := fun w => s22Begin_any who 0 2 1 seed w
  have hbe : begin22E who 0 2 1 seed = .error 2 := by unfold begin22E; rw [if_neg (by rw [hr]; decide)]
  rw [hbe] at B1
  simp only [tupOr] at B1
  have q22 : ∀ (w : World) (a : Option Addr) (n c n' c' : Nat), (binOp .eql 44 (.slice a n c) (.slice none n' c')).run Tryz.prog w = .ok (.bool a.isNone) w := fun w a n c n' c' => Lib.run_eql_slice_nil w _ _ a n c n' c' Tryz.underlying44
  have W1 := fun w => wakes22_any w
  have C0 : Ch [] w (w.alloc (.cells (tcells t) 26)) := (Ch.refl [] w).alloc _
  have t0 : (w.alloc (.cells (tcells t) 26)).heap[w.heap.size]? = some (.cells (tcells t) 26 (0, 0)) := by rw [zab, if_pos rfl]
  clear hf hbe hr
  go_enter Tryz.func9, Tryz.ntmps9
  go_wp2_with fail
  obtain ⟨w0, hw0⟩ : ∃ W, w.alloc (.cells (tcells t) 26) = W := ⟨_, rfl⟩
  rw [hw0] at C0 t0 ⊢
  clear hw0
  obtain ⟨T, hT⟩ : ∃ T, w.heap.size = T := ⟨_, rfl⟩
  rw [hT] at t0 ⊢
  have hTw : w.heap.size ≤ T := by omega
  clear hT
  refine (W1 _).mono ?_
  rintro e w1 ⟨rfl, hc1⟩
  have t1 := hkeep hc1 t0
  have C1 := C0.trans hc1
  clear t0 C0 hc1 W1
  go_wp2_with fail
  refine (L1 _).mono ?_
  rintro e w2 ⟨R, rfl, hRw, hR, hc2⟩
  have t2 := hkeep hc2 t1
  have C2 := C1.trans hc2
  clear t1 C1 hc2 L1
  go_wp2_with fail
  refine (B1 _).mono ?_
  rintro e w3 ⟨rfl, hc3⟩
  have C3 := C2.trans hc3
  clear C2 hc3 t2 hR hRw
  go_upto_region 5 with (fail)
  have z4 := part_put zeroPart w3
  have C4 := C3.trans (part_put_ch zeroPart w3)
  obtain ⟨w4, hw4⟩ : ∃ W, World.onObj (w3.alloc (.cells (partC zeroPart) 51)) w3.heap.size (laidAt 0 (partC zeroPart)) = W := ⟨_, rfl⟩
  rw [hw4] at z4 C4 ⊢
  clear hw4
  go_wp2
  go_ret
  exact ⟨rfl, C4⟩
theorem shuts_go (t : Tab) (seed : BitVec 64) (who : Int) (hf : flatT t = true) (hr : rightS (firstP22 who 0 2 1 seed) = true) (w : World) : Calls Tryz.prog 9 #[U seed, .agg (tcells t), I who] w fun e w' => e = .returned (.bool true) ∧ Ch [] w w' := by
  have L1 := fun w => cells22_ok t hf w
  have B1 := fun w => s22Begin_any who 0 2 1 seed w
  have hbe : begin22E who 0 2 1 seed = .ok (firstP22 who 0 2 1 seed) := by unfold begin22E; rw [if_pos hr]
  rw [hbe] at B1
  simp only [tupOr] at B1
  have K1 := fun R w h => clone22 (l := cells22 t) (n := 136) (by omega) (by omega) (cells22_len t) R 136 (wcells (cells22 t)) (wcells_at _) w h
  have HI := Lib.hid (shutI_first (t := t) hr)
  have HM : Hid (measS (firstP22 who 0 2 1 seed) + 0 ≤ 117) := Lib.hid (measS_le ((zcx _).1 hr))
  have q22 : ∀ (w : World) (a : Option Addr) (n c n' c' : Nat), (binOp .eql 44 (.slice a n c) (.slice none n' c')).run Tryz.prog w = .ok (.bool a.isNone) w := fun w a n c n' c' => Lib.run_eql_slice_nil w _ _ a n c n' c' Tryz.underlying44
  have W1 := fun w => wakes22_any w
  have C0 : Ch [] w (w.alloc (.cells (tcells t) 26)) := (Ch.refl [] w).alloc _
  have t0 : (w.alloc (.cells (tcells t) 26)).heap[w.heap.size]? = some (.cells (tcells t) 26 (0, 0)) := by rw [zab, if_pos rfl]
  obtain ⟨f0, hf0⟩ : ∃ f, firstP22 who 0 2 1 seed = f := ⟨_, rfl⟩
  rw [hf0] at B1 HI HM
  obtain ⟨l0, hl0⟩ : ∃ l, cells22 t = l := ⟨_, rfl⟩
  rw [hl0] at HI L1 K1
  clear hf hbe hr hf0 hl0
  go_enter Tryz.func9, Tryz.ntmps9
  go_wp2_with fail
  obtain ⟨w0, hw0⟩ : ∃ W, w.alloc (.cells (tcells t) 26) = W := ⟨_, rfl⟩
  rw [hw0] at C0 t0 ⊢
  clear hw0
  obtain ⟨T, hT⟩ : ∃ T, w.heap.size = T := ⟨_, rfl⟩
  rw [hT] at t0 ⊢
  have hTw : w.heap.size ≤ T := by omega
  clear hT
  refine (W1 _).mono ?_
  rintro e w1 ⟨rfl, hc1⟩
  have t1 := hkeep hc1 t0
  have C1 := C0.trans hc1
  clear t0 C0 hc1 W1
  go_wp2_with fail
  refine (L1 _).mono ?_
  rintro e w2 ⟨R, rfl, hRw, R2, hc2⟩
  have t2 := hkeep hc2 t1
  have C2 := C1.trans hc2
  clear t1 C1 hc2 L1 hRw
  go_wp2_with fail
  refine (B1 _).mono ?_
  rintro e w3 ⟨rfl, hc3⟩
  have t3 := hkeep hc3 t2
  have R3 := hkeep hc3 R2
  have C3 := C2.trans hc3
  clear C2 hc3 t2 R2 B1
  go_upto_region 5 with (fail)
  have z4 := part_put f0 w3
  have hc4 := part_put_ch f0 w3
  have t4 := hkeep hc4 t3
  have R4 := hkeep hc4 R3
  have C4 := C3.trans hc4
  have hDT : T < w3.heap.size := zaf t3
  obtain ⟨w4, hw4⟩ : ∃ W, World.onObj (w3.alloc (.cells (partC zeroPart) 51)) w3.heap.size (laidAt 0 (partC f0)) = W := ⟨_, rfl⟩
  rw [hw4] at z4 t4 R4 C4 ⊢
  obtain ⟨D, hD⟩ : ∃ D, w3.heap.size = D := ⟨_, rfl⟩
  rw [hD] at z4 hDT ⊢
  have hDw : w.heap.size ≤ D := by omega
  clear hw4 hc4 t3 R3 C3 hD
  go_wp2_with fail
  refine (K1 _ _ R4).mono ?_
  rintro e w5 ⟨X, xc, xcur, rfl, -, hxcur, X5, hc5⟩
  have t5 := hkeep hc5 t4
  have R5 := hkeep hc5 R4
  have z5 := hkeep hc5 z4
  have C5 := C4.trans hc5
  have HX := Lib.hid hxcur
  clear t4 R4 z4 C4 hc5 K1 hxcur
  go_wp2_with fail
  go_loopw [7, 11, 46] (fun v m i wr => ∃ (r : Nat) (l : List (BitVec 64)) (p : PartT) (n : Nat) (sh : Bool), v = .slice (some ⟨r, 0, none⟩) 136 136 ∧ m = .bool sh ∧ i = .int .i64 (n : Nat) ∧ Hid (ShutI l0 l p t.count who sh) ∧ Hid (measS p + n ≤ 117) ∧ wr.heap[r]? = some (.cells (wcells l) 22 (0, 0)) ∧ wr.heap[D]? = some (.cells (partC p) 51 (0, 0)) ∧ wr.heap[T]? = some (.cells (tcells t) 26 (0, 0)) ∧ wr.heap[X]? = some (.cells xcur 22 (0, 0)) ∧ Ch [] w wr) (fun _ _ i _ => 130 - (intOf i).toNat)
  case atStart => exact ⟨R, l0, f0, 0, false, rfl, rfl, rfl, HI, HM, R5, z5, t5, X5, C5⟩
  case round =>
    obtain ⟨r, l, p, n, sh, rfl, hm, hi, HH, HN, Rr, Dr, Tr, Xr, Cr⟩ := hrel
    subst hm hi
    clear HI HM R5 z5 t5 X5 C5
    have hright := HH.out.right
    have hnI : (n : Int) < 130 := by have := HN.out; omega
    have hn0 : (0 : Int) ≤ n := by omega
    have HWR := Lib.hid (show IntKind.i64.wrap ((n : Int) + 1) = (n : Int) + 1 by rw [IntKind.wrap_i64]; omega)
    have N1 := fun w => s22Need_any p w
    have M1 := fun w => s22Many_any p w
    by_cases h6 : p.ph ≤ 6
    · have hr := (zcx p).2 hright
      obtain ⟨y, hna, hy, hst, hyl, hR2, hlt, -⟩ := stepS_goes hright h6 HH.out.there
      have HS := HH.out.step h6 hy
      have hlen := HH.out.len
      have HN2 : Hid (measS (takeS p y.2) + (n + 1) ≤ 117) := Lib.hid (by have := HN.out; omega)
      have S1 : ∀ w, w.heap[r]? = some (.cells (wcells l) 22 (0, 0)) → Calls Tryz.prog 52 #[.slice (some ⟨r, 0, none⟩) 136 136, .agg (partC p)] w fun e w' => ∃ R2, e = .returned (.tuple #[.slice (some ⟨R2, 0, none⟩) 136 136, .agg (partC (takeS p y.2)), I 0]) ∧ w'.heap[R2]? = some (.cells (wcells y.1) 22 (0, 0)) ∧ Ch [] w w' := fun w h => by
        have := s22Step_any l r 136 (wcells l) p w (by omega) (by omega) h (wcells_at l) hr
        rw [hlen] at this
        refine this.mono fun e w' hh => ?_
        unfold StepSPost at hh
        rw [hst] at hh
        obtain ⟨R2, he, hrow, hl2, hC⟩ := hh
        dsimp only at he hrow hl2
        rw [hl2, hlen] at he
        exact ⟨R2, he, hrow.2, hC⟩
      rw [hna] at N1
      simp only [needSV, HH.out.who_] at N1
      have M2 := fun w => s22Many_any (takeS p y.2) w
      have hyl2 : y.1.length = 136 := by rw [hyl, hlen]
      have eT : (tcells t)[0]? = some (U t.count) := by rw [zat]; rfl
      obtain ⟨l2, u⟩ := y
      dsimp only at *
      obtain ⟨p2, hp2⟩ : ∃ q, takeS p u = q := ⟨_, rfl⟩
      rw [hp2] at HS HN2 S1 M2
      obtain ⟨kd, hkd⟩ : ∃ k, (accS p).kind = k := ⟨_, rfl⟩
      obtain ⟨at_, hat⟩ : ∃ k, (accS p).at_ = k := ⟨_, rfl⟩
      obtain ⟨nw, hnw⟩ : ∃ k, (accS p).new = k := ⟨_, rfl⟩
      rw [hkd, hat, hnw] at N1
      rw [hkd, hat] at HS
      obtain ⟨m1, hm1⟩ : ∃ k, manyS p = k := ⟨_, rfl⟩
      obtain ⟨m2, hm2⟩ : ∃ k, manyS p2 = k := ⟨_, rfl⟩
      rw [hm1] at M1 HS
      rw [hm2] at M2 HS
      clear hr hna hy hst hyl hR2 hlt hp2 hkd hat hnw hm1 hm2 HN hlen h6 hright HH
      rcases HS with ⟨rfl, rfl, e1, HS⟩ | ⟨rfl, rfl, rfl, h16, hodd, rfl, rfl, HS⟩ | ⟨rfl, rfl, hat, h16, hodd, hm0, hm1, hm2, HS⟩
      · have HS2 := Lib.hid HS
        have EQ := fun (R2 : Nat) w h1 h2 => eq_rows22 (l := l0) (n := 136) (by omega) (by rw [← e1]; exact hyl2) R2 X 136 xc (wcells l2) xcur (by rw [← e1]; exact wcells_at l2) HX.out w h1 h2
        clear e1
        clear HS hyl2
        obtain ⟨c2, hc2⟩ : ∃ c, wcells l2 = c := ⟨_, rfl⟩
        rw [hc2] at S1 EQ
        have HC2 := Lib.hid hc2
        clear hc2
        go_wp2_with fail
        refine (N1 _).mono ?_
        rintro e w6 ⟨rfl, hc6⟩
        have R6 := hkeep hc6 Rr
        have D6 := hkeep hc6 Dr
        have T6 := hkeep hc6 Tr
        have X6 := hkeep hc6 Xr
        have C6 := Cr.trans hc6
        clear Rr Dr Tr Xr Cr hc6 N1
        have nD := nsz D6
        have nR := nsz R6
        have nT := nsz T6
        have nX := nsz X6
        go_upto_region 13 with (fail)
        clear nD nR nT nX
        have hca := zdb who 1 at_ (N nw) w6
        have A7 := accv_put22 who 1 at_ (N nw) w6
        have R7 := hkeep hca R6
        have D7 := hkeep hca D6
        have T7 := hkeep hca T6
        have X7 := hkeep hca X6
        have C7 := C6.trans hca
        have lD := zaf D6
        clear R6 D6 T6 X6 C6
        obtain ⟨w7, hw7⟩ : ∃ W, World.onObj (w6.alloc (.cells (accC 0 0 0 0) 87)) w6.heap.size (laidAt 0 (accC who 1 at_ (N nw))) = W := ⟨_, rfl⟩
        rw [hw7] at A7 R7 D7 T7 X7 C7 ⊢
        clear hw7 hca
        obtain ⟨AA, hAA⟩ : ∃ A, w6.heap.size = A := ⟨_, rfl⟩
        rw [hAA] at A7 lD ⊢
        clear hAA
        go_wp2_with fail
        refine (M1 _).mono ?_
        rintro e w8 ⟨rfl, hc⟩
        have A8 := hkeep hc A7
        have R8 := hkeep hc R7
        have D8 := hkeep hc D7
        have T8 := hkeep hc T7
        have X8 := hkeep hc X7
        have C8 := C7.trans hc
        clear A7 R7 D7 T7 X7 C7 hc
        go_wp2_with fail
        refine (S1 _ R8).mono ?_
        rintro e w9 ⟨R2, rfl, Q9, hc⟩
        have A9 := hkeep hc A8
        have R9 := hkeep hc R8
        have D9 := hkeep hc D8
        have T9 := hkeep hc T8
        have X9 := hkeep hc X8
        have C9 := C8.trans hc
        clear A8 R8 D8 T8 X8 C8 hc
        clear S1 M1 R9
        have nD := nsz D9
        have nT := nsz T9
        have nX := nsz X9
        have nA := nsz A9
        have nQ := nsz Q9
        go_upto_region 15 with (fail)
        clear nD nT nX nA nQ
        have hcp := part_put_ch p2 w9
        have P10 := part_put p2 w9
        have A10 := hkeep hcp A9
        have D10 := hkeep hcp D9
        have T10 := hkeep hcp T9
        have X10 := hkeep hcp X9
        have Q10 := hkeep hcp Q9
        have C10 := C9.trans hcp
        have lD2 := zaf D9
        clear A9 D9 T9 X9 Q9 C9
        obtain ⟨w10, hw10⟩ : ∃ W, World.onObj (w9.alloc (.cells (partC zeroPart) 51)) w9.heap.size (laidAt 0 (partC p2)) = W := ⟨_, rfl⟩
        rw [hw10] at P10 A10 D10 T10 X10 Q10 C10 ⊢
        clear hw10 hcp
        obtain ⟨PP, hPP⟩ : ∃ A, w9.heap.size = A := ⟨_, rfl⟩
        rw [hPP] at P10 lD2 ⊢
        clear hPP
        go_wp2_with fail
        refine (EQ _ _ Q10 X10).mono ?_
        rintro e w11 ⟨rfl, hc⟩
        have P11 := hkeep hc P10
        have A11 := hkeep hc A10
        have D11 := hkeep hc D10
        have T11 := hkeep hc T10
        have X11 := hkeep hc X10
        have Q11 := hkeep hc Q10
        have C11 := C10.trans hc
        clear P10 A10 D10 T10 X10 Q10 C10 hc
        clear EQ A11
        go_upto_region 26 with (fail)
        have s : (fun W' : World => W'.heap[PP]? = some (.cells (partC p2) 51 (0, 0))) w11.drew := P11
        have Dd : w11.drew.heap[D]? = some (.cells (partC p) 51 (0, 0)) := D11
        have Td : w11.drew.heap[T]? = some (.cells (tcells t) 26 (0, 0)) := T11
        have Xd : w11.drew.heap[X]? = some (.cells xcur 22 (0, 0)) := X11
        have Qd : w11.drew.heap[R2]? = some (.cells c2 22 (0, 0)) := Q11
        have Cd : Ch [] w w11.drew := C11.drew
        refine wp_region_held_drew (S := fun W' => W'.heap[PP]? = some (.cells (partC p2) 51 (0, 0))) (by kernel_rfl) s ?_
        intro _
        simp only [List.size_toArray, List.length_cons, List.length_nil, Nat.reduceAdd]
        obtain ⟨wd, hwd⟩ : ∃ W, w11.drew = W := ⟨_, rfl⟩
        rw [hwd] at s Dd Td Xd Qd Cd ⊢
        clear hwd P11 D11 T11 X11 Q11 C11
        refine tk 0 136 ?_ rfl s ?_ ?_; rotate_left
        · intro _ _; go_simp; try with_reducible rfl
        try go_frame
        refine tk 1 137 ?_ rfl s ?_ ?_; rotate_left
        · intro _ _; go_simp; try with_reducible rfl
        try go_frame
        refine tk 2 7 ?_ rfl s ?_ ?_; rotate_left
        · intro _ _; go_simp; try with_reducible rfl
        try go_frame
        refine rd 3 rfl (fun K hK => ?_); go_simp
        have De : (World.onObj wd D (laidAt 0 (partC p2))).heap[D]? = some (.cells (partC p2) 51 (0, 0)) := by rw [zac, if_pos rfl, Dd, Option.map_some, zap]
        have s' : (World.onObj wd D (laidAt 0 (partC p2))).heap[PP]? = some (.cells (partC p2) 51 (0, 0)) := (zai (w := wd) (F := D) (laidAt 0 (partC p2)) (by omega)).trans s
        have Te := (zai (w := wd) (F := D) (laidAt 0 (partC p2)) (show ¬ T = D from zcf Td Dd (by decide))).trans Td
        have Xe := (zai (w := wd) (F := D) (laidAt 0 (partC p2)) (show ¬ X = D from zcf Xd Dd (by decide))).trans Xd
        have Qe := (zai (w := wd) (F := D) (laidAt 0 (partC p2)) (show ¬ R2 = D from zcf Qd Dd (by decide))).trans Qd
        have Ce : Ch [] w (World.onObj wd D (laidAt 0 (partC p2))) := Cd.onObj (p := D) (.inr hDw) _
        refine hK.out _ _ s' (fun _ => ?_)
        clear hK K s Dd Td Xd Qd Cd
        generalize (World.onObj wd D (laidAt 0 (partC p2))) = we at *
        refine wpAnyH_done (by kernel_rfl) ?_ _
        go_wp2
        go_roundw
        case rel => exact ⟨R2, l2, p2, n + 1, false, rfl, rfl, (by first | go_num | (rw [HWR.out]; rfl) | (simp only [HWR.out]; rfl)), HS2, HN2, by rw [HC2.out]; exact Qe, De, Te, Xe, Ce⟩
        case measure => (have h3 := HWR.out; simp only [intOf]; first | omega | (rw [h3]; omega) | (simp; omega) | (simp [h3]; omega))
      · have HS2 := Lib.hid HS
        have h16c : (wcells l2)[16]? = some (U (t.count + 1#64)) := wcells_at l2 16 _ h16
        clear h16
        clear HS hyl2
        obtain ⟨c2, hc2⟩ : ∃ c, wcells l2 = c := ⟨_, rfl⟩
        rw [hc2] at S1 h16c
        have HC2 := Lib.hid hc2
        clear hc2
        go_wp2_with fail
        refine (N1 _).mono ?_
        rintro e w6 ⟨rfl, hc6⟩
        have R6 := hkeep hc6 Rr
        have D6 := hkeep hc6 Dr
        have T6 := hkeep hc6 Tr
        have X6 := hkeep hc6 Xr
        have C6 := Cr.trans hc6
        clear Rr Dr Tr Xr Cr hc6 N1
        have nD := nsz D6
        have nR := nsz R6
        have nT := nsz T6
        have nX := nsz X6
        go_upto_region 13 with (fail)
        clear nD nR nT nX
        have hca := zdb who 2 16 (N nw) w6
        have A7 := accv_put22 who 2 16 (N nw) w6
        have R7 := hkeep hca R6
        have D7 := hkeep hca D6
        have T7 := hkeep hca T6
        have X7 := hkeep hca X6
        have C7 := C6.trans hca
        have lD := zaf D6
        clear R6 D6 T6 X6 C6
        obtain ⟨w7, hw7⟩ : ∃ W, World.onObj (w6.alloc (.cells (accC 0 0 0 0) 87)) w6.heap.size (laidAt 0 (accC who 2 16 (N nw))) = W := ⟨_, rfl⟩
        rw [hw7] at A7 R7 D7 T7 X7 C7 ⊢
        clear hw7 hca
        obtain ⟨AA, hAA⟩ : ∃ A, w6.heap.size = A := ⟨_, rfl⟩
        rw [hAA] at A7 lD ⊢
        clear hAA
        go_wp2_with fail
        refine (M1 _).mono ?_
        rintro e w8 ⟨rfl, hc⟩
        have A8 := hkeep hc A7
        have R8 := hkeep hc R7
        have D8 := hkeep hc D7
        have T8 := hkeep hc T7
        have X8 := hkeep hc X7
        have C8 := C7.trans hc
        clear A7 R7 D7 T7 X7 C7 hc
        go_wp2_with fail
        refine (S1 _ R8).mono ?_
        rintro e w9 ⟨R2, rfl, Q9, hc⟩
        have A9 := hkeep hc A8
        have R9 := hkeep hc R8
        have D9 := hkeep hc D8
        have T9 := hkeep hc T8
        have X9 := hkeep hc X8
        have C9 := C8.trans hc
        clear A8 R8 D8 T8 X8 C8 hc
        clear S1 M1 R9
        have nD := nsz D9
        have nT := nsz T9
        have nX := nsz X9
        have nA := nsz A9
        have nQ := nsz Q9
        go_upto_region 15 with (fail)
        clear nD nT nX nA nQ
        have hcp := part_put_ch p2 w9
        have P10 := part_put p2 w9
        have A10 := hkeep hcp A9
        have D10 := hkeep hcp D9
        have T10 := hkeep hcp T9
        have X10 := hkeep hcp X9
        have Q10 := hkeep hcp Q9
        have C10 := C9.trans hcp
        have lD2 := zaf D9
        clear A9 D9 T9 X9 Q9 C9
        obtain ⟨w10, hw10⟩ : ∃ W, World.onObj (w9.alloc (.cells (partC zeroPart) 51)) w9.heap.size (laidAt 0 (partC p2)) = W := ⟨_, rfl⟩
        rw [hw10] at P10 A10 D10 T10 X10 Q10 C10 ⊢
        clear hw10 hcp
        obtain ⟨PP, hPP⟩ : ∃ A, w9.heap.size = A := ⟨_, rfl⟩
        rw [hPP] at P10 lD2 ⊢
        clear hPP
        go_upto_region 18 with (fail)
        have s : (fun W' : World => W'.heap[AA]? = some (.cells (accC who 2 16 (N nw)) 87 (0, 0)) ∧ W'.heap[R2]? = some (.cells c2 22 (0, 0)) ∧ W'.heap[T]? = some (.cells (tcells t) 26 (0, 0))) w10.drew := ⟨A10, Q10, T10⟩
        have P11 : w10.drew.heap[PP]? = some (.cells (partC p2) 51 (0, 0)) := P10
        have D11 : w10.drew.heap[D]? = some (.cells (partC p) 51 (0, 0)) := D10
        have X11 : w10.drew.heap[X]? = some (.cells xcur 22 (0, 0)) := X10
        have C11 : Ch [] w w10.drew := C10.drew
        refine wp_region_held_drew (S := fun W' => W'.heap[AA]? = some (.cells (accC who 2 16 (N nw)) 87 (0, 0)) ∧ W'.heap[R2]? = some (.cells c2 22 (0, 0)) ∧ W'.heap[T]? = some (.cells (tcells t) 26 (0, 0))) (by kernel_rfl) s ?_
        intro _
        simp only [List.size_toArray, List.length_cons, List.length_nil, Nat.reduceAdd]
        obtain ⟨w11, hw11⟩ : ∃ W, w10.drew = W := ⟨_, rfl⟩
        rw [hw11] at s P11 D11 X11 C11 ⊢
        clear hw11 P10 A10 D10 T10 X10 Q10 C10
        refine tk 0 80 ?_ rfl s ?_ ?_; rotate_left
        · intro wq hSq; obtain ⟨hSa, hSb, hSc⟩ := hSq; go_simp; try with_reducible rfl
        try go_frame
        refine tk 1 81 ?_ rfl s ?_ ?_; rotate_left
        · intro wq hSq; obtain ⟨hSa, hSb, hSc⟩ := hSq; go_simp; try with_reducible rfl
        try go_frame
        refine tk 2 82 ?_ rfl s ?_ ?_; rotate_left
        · intro wq hSq; obtain ⟨hSa, hSb, hSc⟩ := hSq; go_simp; try with_reducible rfl
        try go_frame
        refine tk 3 83 ?_ rfl s ?_ ?_; rotate_left
        · intro wq hSq; obtain ⟨hSa, hSb, hSc⟩ := hSq; go_simp; try with_reducible rfl
        try go_frame
        refine tk 4 84 ?_ rfl s ?_ ?_; rotate_left
        · intro wq hSq; obtain ⟨hSa, hSb, hSc⟩ := hSq; go_simp; try with_reducible rfl
        try go_frame
        refine tk 5 85 ?_ rfl s ?_ ?_; rotate_left
        · intro wq hSq; obtain ⟨hSa, hSb, hSc⟩ := hSq; go_simp; try with_reducible rfl
        try go_frame
        refine tk 6 86 ?_ rfl s ?_ ?_; rotate_left
        · intro wq hSq; obtain ⟨hSa, hSb, hSc⟩ := hSq; go_simp; try with_reducible rfl
        try go_frame
        refine tk 7 87 ?_ rfl s ?_ ?_; rotate_left
        · intro wq hSq; obtain ⟨hSa, hSb, hSc⟩ := hSq; go_simp; try with_reducible rfl
        try go_frame
        refine tk 8 88 ?_ rfl s ?_ ?_; rotate_left
        · intro wq hSq; obtain ⟨hSa, hSb, hSc⟩ := hSq; go_simp; try with_reducible rfl
        try go_frame
        refine tk 9 89 ?_ rfl s ?_ ?_; rotate_left
        · intro wq hSq; obtain ⟨hSa, hSb, hSc⟩ := hSq; go_simp; try with_reducible rfl
        try go_frame
        refine tk 10 90 ?_ rfl s ?_ ?_; rotate_left
        · intro wq hSq; obtain ⟨hSa, hSb, hSc⟩ := hSq; go_simp; try with_reducible rfl
        try go_frame
        refine tk 11 91 ?_ rfl s ?_ ?_; rotate_left
        · intro wq hSq; obtain ⟨hSa, hSb, hSc⟩ := hSq; go_simp; try with_reducible rfl
        try go_frame
        refine tk 12 92 ?_ rfl s ?_ ?_; rotate_left
        · intro wq hSq; obtain ⟨hSa, hSb, hSc⟩ := hSq; go_simp; try with_reducible rfl
        try go_frame
        refine tk 13 93 ?_ rfl s ?_ ?_; rotate_left
        · intro wq hSq; obtain ⟨hSa, hSb, hSc⟩ := hSq; go_simp; try with_reducible rfl
        try go_frame
        refine tk 14 11 ?_ rfl s ?_ ?_; rotate_left
        · intro wq hSq; obtain ⟨hSa, hSb, hSc⟩ := hSq; go_simp; try with_reducible rfl
        try go_frame
        refine wpAnyH_done (by kernel_rfl) ?_ _
        obtain ⟨A11, Q11, T11⟩ := s
        go_wp2_with fail
        refine (M2 _).mono ?_
        rintro e w12 ⟨rfl, hc⟩
        have P12 := hkeep hc P11
        have A12 := hkeep hc A11
        have D12 := hkeep hc D11
        have T12 := hkeep hc T11
        have X12 := hkeep hc X11
        have Q12 := hkeep hc Q11
        have C12 := C11.trans hc
        clear P11 A11 D11 T11 X11 Q11 C11 hc
        clear A12
        go_upto_region 26 with (fail)
        have s : (fun W' : World => W'.heap[PP]? = some (.cells (partC p2) 51 (0, 0))) w12.drew := P12
        have Dd : w12.drew.heap[D]? = some (.cells (partC p) 51 (0, 0)) := D12
        have Td : w12.drew.heap[T]? = some (.cells (tcells t) 26 (0, 0)) := T12
        have Xd : w12.drew.heap[X]? = some (.cells xcur 22 (0, 0)) := X12
        have Qd : w12.drew.heap[R2]? = some (.cells c2 22 (0, 0)) := Q12
        have Cd : Ch [] w w12.drew := C12.drew
        refine wp_region_held_drew (S := fun W' => W'.heap[PP]? = some (.cells (partC p2) 51 (0, 0))) (by kernel_rfl) s ?_
        intro _
        simp only [List.size_toArray, List.length_cons, List.length_nil, Nat.reduceAdd]
        obtain ⟨wd, hwd⟩ : ∃ W, w12.drew = W := ⟨_, rfl⟩
        rw [hwd] at s Dd Td Xd Qd Cd ⊢
        clear hwd P12 D12 T12 X12 Q12 C12
        refine tk 0 136 ?_ rfl s ?_ ?_; rotate_left
        · intro _ _; go_simp; try with_reducible rfl
        try go_frame
        refine tk 1 137 ?_ rfl s ?_ ?_; rotate_left
        · intro _ _; go_simp; try with_reducible rfl
        try go_frame
        refine tk 2 7 ?_ rfl s ?_ ?_; rotate_left
        · intro _ _; go_simp; try with_reducible rfl
        try go_frame
        refine rd 3 rfl (fun K hK => ?_); go_simp
        have De : (World.onObj wd D (laidAt 0 (partC p2))).heap[D]? = some (.cells (partC p2) 51 (0, 0)) := by rw [zac, if_pos rfl, Dd, Option.map_some, zap]
        have s' : (World.onObj wd D (laidAt 0 (partC p2))).heap[PP]? = some (.cells (partC p2) 51 (0, 0)) := (zai (w := wd) (F := D) (laidAt 0 (partC p2)) (by omega)).trans s
        have Te := (zai (w := wd) (F := D) (laidAt 0 (partC p2)) (show ¬ T = D from zcf Td Dd (by decide))).trans Td
        have Xe := (zai (w := wd) (F := D) (laidAt 0 (partC p2)) (show ¬ X = D from zcf Xd Dd (by decide))).trans Xd
        have Qe := (zai (w := wd) (F := D) (laidAt 0 (partC p2)) (show ¬ R2 = D from zcf Qd Dd (by decide))).trans Qd
        have Ce : Ch [] w (World.onObj wd D (laidAt 0 (partC p2))) := Cd.onObj (p := D) (.inr hDw) _
        refine hK.out _ _ s' (fun _ => ?_)
        clear hK K s Dd Td Xd Qd Cd
        generalize (World.onObj wd D (laidAt 0 (partC p2))) = we at *
        refine wpAnyH_done (by kernel_rfl) ?_ _
        go_wp2
        go_roundw
        case rel => exact ⟨R2, l2, p2, n + 1, true, rfl, rfl, (by first | go_num | (rw [HWR.out]; rfl) | (simp only [HWR.out]; rfl)), HS2, HN2, by rw [HC2.out]; exact Qe, De, Te, Xe, Ce⟩
        case measure => (have h3 := HWR.out; simp only [intOf]; first | omega | (rw [h3]; omega) | (simp; omega) | (simp [h3]; omega))
      · have HS2 := Lib.hid HS
        have h16c : (wcells l2)[16]? = some (U (t.count + 1#64)) := wcells_at l2 16 _ h16
        clear h16
        have hat2 : ¬ at_ < 56 := by omega
        have hm3 : ¬ m1 < 1 := by omega
        have hm4 : IntKind.i64.wrap (m1 - 1) = m1 - 1 := by rw [IntKind.wrap_i64]; omega
        clear hat hm0 hm1
        subst hm2
        clear HS hyl2
        obtain ⟨c2, hc2⟩ : ∃ c, wcells l2 = c := ⟨_, rfl⟩
        rw [hc2] at S1 h16c
        have HC2 := Lib.hid hc2
        clear hc2
        go_wp2_with fail
        refine (N1 _).mono ?_
        rintro e w6 ⟨rfl, hc6⟩
        have R6 := hkeep hc6 Rr
        have D6 := hkeep hc6 Dr
        have T6 := hkeep hc6 Tr
        have X6 := hkeep hc6 Xr
        have C6 := Cr.trans hc6
        clear Rr Dr Tr Xr Cr hc6 N1
        have nD := nsz D6
        have nR := nsz R6
        have nT := nsz T6
        have nX := nsz X6
        go_upto_region 13 with (fail)
        clear nD nR nT nX
        have hca := zdb who 2 at_ (N nw) w6
        have A7 := accv_put22 who 2 at_ (N nw) w6
        have R7 := hkeep hca R6
        have D7 := hkeep hca D6
        have T7 := hkeep hca T6
        have X7 := hkeep hca X6
        have C7 := C6.trans hca
        have lD := zaf D6
        clear R6 D6 T6 X6 C6
        obtain ⟨w7, hw7⟩ : ∃ W, World.onObj (w6.alloc (.cells (accC 0 0 0 0) 87)) w6.heap.size (laidAt 0 (accC who 2 at_ (N nw))) = W := ⟨_, rfl⟩
        rw [hw7] at A7 R7 D7 T7 X7 C7 ⊢
        clear hw7 hca
        obtain ⟨AA, hAA⟩ : ∃ A, w6.heap.size = A := ⟨_, rfl⟩
        rw [hAA] at A7 lD ⊢
        clear hAA
        go_wp2_with fail
        refine (M1 _).mono ?_
        rintro e w8 ⟨rfl, hc⟩
        have A8 := hkeep hc A7
        have R8 := hkeep hc R7
        have D8 := hkeep hc D7
        have T8 := hkeep hc T7
        have X8 := hkeep hc X7
        have C8 := C7.trans hc
        clear A7 R7 D7 T7 X7 C7 hc
        go_wp2_with fail
        refine (S1 _ R8).mono ?_
        rintro e w9 ⟨R2, rfl, Q9, hc⟩
        have A9 := hkeep hc A8
        have R9 := hkeep hc R8
        have D9 := hkeep hc D8
        have T9 := hkeep hc T8
        have X9 := hkeep hc X8
        have C9 := C8.trans hc
        clear A8 R8 D8 T8 X8 C8 hc
        clear S1 M1 R9
        have nD := nsz D9
        have nT := nsz T9
        have nX := nsz X9
        have nA := nsz A9
        have nQ := nsz Q9
        go_upto_region 15 with (fail)
        clear nD nT nX nA nQ
        have hcp := part_put_ch p2 w9
        have P10 := part_put p2 w9
        have A10 := hkeep hcp A9
        have D10 := hkeep hcp D9
        have T10 := hkeep hcp T9
        have X10 := hkeep hcp X9
        have Q10 := hkeep hcp Q9
        have C10 := C9.trans hcp
        have lD2 := zaf D9
        clear A9 D9 T9 X9 Q9 C9
        obtain ⟨w10, hw10⟩ : ∃ W, World.onObj (w9.alloc (.cells (partC zeroPart) 51)) w9.heap.size (laidAt 0 (partC p2)) = W := ⟨_, rfl⟩
        rw [hw10] at P10 A10 D10 T10 X10 Q10 C10 ⊢
        clear hw10 hcp
        obtain ⟨PP, hPP⟩ : ∃ A, w9.heap.size = A := ⟨_, rfl⟩
        rw [hPP] at P10 lD2 ⊢
        clear hPP
        go_wp2_with fail
        refine (M2 _).mono ?_
        rintro e w11 ⟨rfl, hc⟩
        have P11 := hkeep hc P10
        have A11 := hkeep hc A10
        have D11 := hkeep hc D10
        have T11 := hkeep hc T10
        have X11 := hkeep hc X10
        have Q11 := hkeep hc Q10
        have C11 := C10.trans hc
        clear P10 A10 D10 T10 X10 Q10 C10 hc
        clear A11
        go_upto_region 26 with (fail)
        have s : (fun W' : World => W'.heap[PP]? = some (.cells (partC p2) 51 (0, 0))) w11.drew := P11
        have Dd : w11.drew.heap[D]? = some (.cells (partC p) 51 (0, 0)) := D11
        have Td : w11.drew.heap[T]? = some (.cells (tcells t) 26 (0, 0)) := T11
        have Xd : w11.drew.heap[X]? = some (.cells xcur 22 (0, 0)) := X11
        have Qd : w11.drew.heap[R2]? = some (.cells c2 22 (0, 0)) := Q11
        have Cd : Ch [] w w11.drew := C11.drew
        refine wp_region_held_drew (S := fun W' => W'.heap[PP]? = some (.cells (partC p2) 51 (0, 0))) (by kernel_rfl) s ?_
        intro _
        simp only [List.size_toArray, List.length_cons, List.length_nil, Nat.reduceAdd]
        obtain ⟨wd, hwd⟩ : ∃ W, w11.drew = W := ⟨_, rfl⟩
        rw [hwd] at s Dd Td Xd Qd Cd ⊢
        clear hwd P11 D11 T11 X11 Q11 C11
        refine tk 0 136 ?_ rfl s ?_ ?_; rotate_left
        · intro _ _; go_simp; try with_reducible rfl
        try go_frame
        refine tk 1 137 ?_ rfl s ?_ ?_; rotate_left
        · intro _ _; go_simp; try with_reducible rfl
        try go_frame
        refine tk 2 7 ?_ rfl s ?_ ?_; rotate_left
        · intro _ _; go_simp; try with_reducible rfl
        try go_frame
        refine rd 3 rfl (fun K hK => ?_); go_simp
        have De : (World.onObj wd D (laidAt 0 (partC p2))).heap[D]? = some (.cells (partC p2) 51 (0, 0)) := by rw [zac, if_pos rfl, Dd, Option.map_some, zap]
        have s' : (World.onObj wd D (laidAt 0 (partC p2))).heap[PP]? = some (.cells (partC p2) 51 (0, 0)) := (zai (w := wd) (F := D) (laidAt 0 (partC p2)) (by omega)).trans s
        have Te := (zai (w := wd) (F := D) (laidAt 0 (partC p2)) (show ¬ T = D from zcf Td Dd (by decide))).trans Td
        have Xe := (zai (w := wd) (F := D) (laidAt 0 (partC p2)) (show ¬ X = D from zcf Xd Dd (by decide))).trans Xd
        have Qe := (zai (w := wd) (F := D) (laidAt 0 (partC p2)) (show ¬ R2 = D from zcf Qd Dd (by decide))).trans Qd
        have Ce : Ch [] w (World.onObj wd D (laidAt 0 (partC p2))) := Cd.onObj (p := D) (.inr hDw) _
        refine hK.out _ _ s' (fun _ => ?_)
        clear hK K s Dd Td Xd Qd Cd
        generalize (World.onObj wd D (laidAt 0 (partC p2))) = we at *
        refine wpAnyH_done (by kernel_rfl) ?_ _
        go_wp2
        go_roundw
        case rel => exact ⟨R2, l2, p2, n + 1, true, rfl, rfl, (by first | go_num | (rw [HWR.out]; rfl) | (simp only [HWR.out]; rfl)), HS2, HN2, by rw [HC2.out]; exact Qe, De, Te, Xe, Ce⟩
        case measure => (have h3 := HWR.out; simp only [intOf]; first | omega | (rw [h3]; omega) | (simp; omega) | (simp [h3]; omega))
    · have hph : sh = (p.ph == 7) := by
        rcases HH.out.st with ⟨h, _, hp, _⟩ | ⟨h, hp, _⟩
        · rw [h]; symm; rw [beq_eq_false_iff_ne]; omega
        · rw [h]; symm; rw [beq_iff_eq]; omega
      subst hph
      rw [needS_none (fun h => h6 h.2)] at N1
      simp only [needSV] at N1
      clear HH HN hright M1 h6
      go_wp2_with fail
      refine (N1 _).mono ?_
      rintro e w6 ⟨rfl, hc6⟩
      have D6 := hkeep hc6 Dr
      have C6 := Cr.trans hc6
      clear Rr Dr Tr Xr Cr hc6
      have lD := zaf D6
      go_upto_region 28 with (fail)
      have hca := zdb 0 0 0 0 w6
      have D7 := hkeep hca D6
      have C7 := C6.trans hca
      obtain ⟨w7, hw7⟩ : ∃ W, World.onObj (w6.alloc (.cells (accC 0 0 0 0) 87)) w6.heap.size (laidAt 0 (accC 0 0 0 0)) = W := ⟨_, rfl⟩
      rw [hw7] at D7 C7 ⊢
      clear hw7 hca D6 C6 lD
      go_wp2_with fail
      refine (N1 _).mono ?_
      rintro e w8 ⟨rfl, hc8⟩
      have D8 := hkeep hc8 D7
      have C8 := C7.trans hc8
      have nD := nsz D8
      clear D7 C7 hc8 N1
      go_upto_region 29 with (fail)
      have hca := zdb 0 0 0 0 w8
      have D9 := hkeep hca D8
      have C9 := C8.trans hca
      obtain ⟨w9, hw9⟩ : ∃ W, World.onObj (w8.alloc (.cells (accC 0 0 0 0) 87)) w8.heap.size (laidAt 0 (accC 0 0 0 0)) = W := ⟨_, rfl⟩
      rw [hw9] at D9 C9 ⊢
      clear hw9 hca D8 C8 nD
      go_wp2
      go_ret
      refine ⟨?_, C9⟩
      simp
theorem shutsLaw (t : Tab) (seed : BitVec 64) (who : Int) (w : World) : Calls Tryz.prog 9 #[U seed, .agg (tcells t), I who] w fun e w' => e = .returned (.bool true) ∧ Ch [] w w' := by
  cases hf : flatT t with
  | false => exact shuts_none t seed who hf w
  | true =>
    cases hr : rightS (firstP22 who 0 2 1 seed) with
    | false => exact shuts_not t seed who hf hr w
    | true => exact shuts_go t seed who hf hr w
end
end Go.Proofs.Hc
