/- slices.Index, slices.Contains at rows of pairs. -/
import Derived.Test.YtcikopeddljgkaaGreatKRw
set_option linter.unusedSimpArgs false
set_option linter.unusedVariables false
set_option maxHeartbeats 4000000
set_option maxRecDepth 100000
namespace Go.Proofs.Hc
open Go.RowKit
attribute [local go_sem] zbs zca zax zbc zbn zba zbm zbo zbu signed64 signed8 zar BitVec.ofInt_add BitVec.ofInt_mul ofInt_sub' zay zaz wide8 eqN neN zbz shr1 shr7 shr56
attribute [local go_sem high] zbb zbt
attribute [local go_sem] zag zbw zah zas zad zbe zaq zal zbl zan zbd zbf
attribute [local go_sem] load26 load73 load23 store26 build73
attribute [local go_sem ↓] lrow26 lrow73 lrow23 srow26 zero26 brow73 zac zaw zbg zaa zab
attribute [local go_sem] zai zav zat zbj zbk zbp zao zau zbq zbi zbh
attribute [local go_sem] nn2 nm2 nn3 nm3 nn4 nm4 nn5 nm5 nn6 nm6 nn7 nm7 nn8 nm8
section
attribute [local go_sem] Oper.semAt_some zap
attribute [local go_sem] loadP storeP allOne_pair
attribute [local go_sem high] laidAt_p
attribute [local go_sem ↓] lrowP srowP zeroP
theorem fieldsP : (Tryz.prog.fieldsOf 31).toList.map (fun f => (f.name == "_", f.type, f.offset)) = [(false, 22, 0), (false, 22, 1)] := by kernel_rfl
theorem eqU (d : Nat) (x y : BitVec 64) (w : World) : (Op.equalIn (d + 1) 22 (U x) (U y)).run Tryz.prog w = .ok (x == y) w := by
  rw [run_equalIn_int w d 22 .u64 .u64 (N x) (N y) Tryz.underlying22]
  rw [eqN]
theorem eql_pair (x y z v : BitVec 64) (w : World) : (binOp .eql 31 (.agg #[U x, U y]) (.agg #[U z, U v])).run Tryz.prog w = .ok (.bool (x == z && y == v)) w := by
  rw [run_eql_struct, run_equalIn_agg w 9999 31 _ _ (by kernel_rfl) (by kernel_rfl)]
  have h := fieldsP
  generalize (Tryz.prog.fieldsOf 31).toList = fs at *
  have p0 : ∀ (x y : BitVec 64) (w : World), (part 22 #[U x, U y] 0).run Tryz.prog w = .ok (U x) w := fun x y w => by kernel_rfl
  have p1 : ∀ (x y : BitVec 64) (w : World), (part 22 #[U x, U y] 1).run Tryz.prog w = .ok (U y) w := fun x y w => by kernel_rfl
  cases fs with
  | nil => simp at h
  | cons f fs =>
    cases fs with
    | nil => simp at h
    | cons g fs =>
      cases fs with
      | cons e fs => simp at h
      | nil =>
        simp only [List.map_cons, List.map_nil, List.cons.injEq, Prod.mk.injEq, and_true, beq_eq_false_iff_ne] at h
        obtain ⟨⟨n1, t1, o1⟩, n2, t2, o2⟩ := h
        simp only [Op.eqFields]
        rw [if_pos n1, if_pos n2, t1, t2, o1, o2]
        simp only [Sem.run_bind, p0, p1, Result.andThen_ok, eqU, Sem.run_ite, Sem.run_pure]
        cases h1 : (x == z) <;> cases h2 : (y == v) <;> simp
theorem guardP (x y : Operand) (xs ys : Array Value) (w : World) : (eqGuard .eql 31 x y (.agg xs) (.agg ys)).run Tryz.prog w = .ok () w := run_eqGuard_agg w .eql 31 x y xs ys (by kernel_rfl)
attribute [local go_sem high] eql_pair guardP
end
section
attribute [local go_sem] acc_g0 acc_g1 acc_g2 acc_g4 acc_s0 acc_s1 acc_s2 acc_s4 zcv accC_one accC_all loadAcc storeAcc bacc0 bacc2 bacc3 bacc3u bacc4
attribute [local go_sem ↓] lrowAcc srowAcc browAcc zcn
attribute [local go_sem high] zak
attribute [local go_sem] zar zby
attribute [local go_sem] Oper.semAt_some zap
attribute [local go_sem] layC_idx lcell0 lcell1 lcell2 lcell3 lcell4 lcell5 lcell46
attribute [local go_sem] lay_g0 lay_g1 lay_g2 lay_g3 lay_g4 lay_g5 lay_g46 lay_s0 lay_s4 lay_s5 lay_s46 zck layC_one layC_all layC_ws boxLay loadLay storeLay build_lay box_lay buildLay0 buildLay2 buildLay3
attribute [local go_sem ↓] lrowLay srowLay browLay brow_lay zcs
attribute [local go_sem high] zaj
attribute [local irreducible] layC
attribute [local irreducible] accC
theorem lrun_results {fn : Func} {p q u : Tmp} (h : fn.results = #[.tmp p, .tmp q, .tmp u]) (tmps : Array Value) (w : World) (x v y : Value) (hp : tmps.getD p undef = x) (hq : tmps.getD q undef = v) (hu : tmps.getD u undef = y) : (results fn tmps).run Tryz.prog w = .ok (.tuple #[x, v, y]) w := by
  have hp' : tmps[p]?.getD undef = x := by simpa using hp
  have hq' : tmps[q]?.getD undef = v := by simpa using hq
  have hu' : tmps[u]?.getD undef = y := by simpa using hu
  simp [results, h, hp', hq', hu']
theorem lRun_cells (a : Option Addr) (n c : Nat) (sl : Int) (seed : BitVec 64) (hn : (decide (1 ≤ n) && decide (n ≤ 8192)) = false) (w : World) : Calls Tryz.prog 34 #[.slice a n c, I sl, U seed] w fun e w' => e = .returned (.tuple #[.slice none 0 0, I 0, I 120]) ∧ Ch [] w w' := by
  have M1 := fun w => lMany_any a n c w
  rw [hn] at M1
  clear hn
  go_enter Tryz.func34, Tryz.ntmps34
  go_wp2_with fail
  refine (M1 _).mono ?_
  rintro e w' ⟨rfl, rfl⟩
  go_wp2
  exact bodyPost_ret (lrun_results Tryz.results34 _ _ _ _ _ rfl rfl rfl) rfl ⟨rfl, Ch.refl _ _⟩
theorem lRun_arg (a : Option Addr) (n c : Nat) (sl : Int) (seed : BitVec 64) (h1 : 1 ≤ n) (hn : n ≤ 8192) (hs : sl < 0 ∨ 128 ≤ sl ∨ 0 ≤ sl ∧ sl < 128 ∧ (n : Int) < 56 + 40 * sl) (w : World) : Calls Tryz.prog 34 #[.slice a n c, I sl, U seed] w fun e w' => e = .returned (.tuple #[.slice none 0 0, I 0, I 2]) ∧ Ch [] w w' := by
  have M1 := fun w => lMany_any a n c w
  rw [decide_eq_true h1, decide_eq_true hn, Bool.and_true] at M1
  clear h1 hn
  rcases (show (sl < 0 ∨ 128 ≤ sl) ∨ 0 ≤ sl ∧ sl < 128 ∧ (n : Int) < 56 + 40 * sl by omega) with hs | ⟨s0, s1, hf⟩
  · have K1 := fun w => cell_bad sl 39 hs w
    clear hs
    go_enter Tryz.func34, Tryz.ntmps34
    go_wp2_with fail
    refine (M1 _).mono ?_
    rintro e w' ⟨rfl, rfl⟩
    go_wp2_with fail
    refine (K1 _).mono ?_
    rintro e w' ⟨rfl, rfl⟩
    go_wp2
    exact bodyPost_ret (lrun_results Tryz.results34 _ _ _ _ _ rfl rfl rfl) rfl ⟨rfl, Ch.refl _ _⟩
  · have K1 := fun w => cell_ok sl 39 s0 s1 (by omega) (by omega) w
    obtain ⟨z, hz⟩ : ∃ z, 16 + 40 * sl + 39 = z := ⟨_, rfl⟩
    rw [hz] at K1
    have hzn : (n : Int) ≤ z := by omega
    clear hs s0 s1 hf hz
    go_enter Tryz.func34, Tryz.ntmps34
    go_wp2_with fail
    refine (M1 _).mono ?_
    rintro e w' ⟨rfl, rfl⟩
    go_wp2_with fail
    refine (K1 _).mono ?_
    rintro e w' ⟨rfl, rfl⟩
    go_wp2
    exact bodyPost_ret (lrun_results Tryz.results34 _ _ _ _ _ rfl rfl rfl) rfl ⟨rfl, Ch.refl _ _⟩
theorem lRun_go (l l' : List (BitVec 64)) (g c : Nat) (cur : Array Value) (sl : Int) (seed : BitVec 64) (p' : LayT) (k : Nat) (w : World) (h1 : 1 ≤ l.length) (hl : l.length ≤ 8192) (hb : w.heap[g]? = some (.cells cur 22 (0, 0))) (hw : WordsAt cur l) (s0 : 0 ≤ sl) (s1 : sl < 128) (hfit : 56 + 40 * sl ≤ (l.length : Int))
    (hrun : RunsL l (firstL 0 sl seed) k l' p') (hk : k ≤ 100000) :
    Calls Tryz.prog 34 #[.slice (some ⟨g, 0, none⟩) l.length c, I sl, U seed] w fun e w' => ∃ Q, e = .returned (.tuple #[.slice (some ⟨Q, 0, none⟩) l.length l.length, I (k : Nat), I 0]) ∧ w.heap.size ≤ Q ∧ w'.heap[Q]? = some (.cells (wcells l') 22 (0, 0)) ∧ Ch [] w w' := by
  obtain ⟨xs, hxs, hx⟩ := runsX_of hrun
  have M1 := fun w => lMany_any (some ⟨g, 0, none⟩) l.length c w
  rw [decide_eq_true h1, decide_eq_true hl, Bool.and_true] at M1
  have K1 := fun w => cell_ok sl 39 s0 s1 (by omega) (by omega) w
  have O1 := fun w h => lOwn_any l g c cur w (by omega) h hw
  have Y1 := fun Q S q1 q2 q3 w a b c d e => acc_yields l l' (firstL 0 sl seed) p' xs hx hl s0 Q S q1 q2 q3 w a b c d e
  obtain ⟨z, hz⟩ : ∃ z, 16 + 40 * sl + 39 = z := ⟨_, rfl⟩
  rw [hz] at K1
  obtain ⟨n, hn⟩ : ∃ n, l.length = n := ⟨_, rfl⟩
  rw [hn] at M1 O1 Y1 hfit ⊢
  have hzn : z < (n : Int) := by omega
  obtain ⟨f0, hf0⟩ : ∃ f, firstL 0 sl seed = f := ⟨_, rfl⟩
  have BB := fun w => buildLay2 sl seed w
  rw [hf0] at Y1 BB
  have hgn : ¬ g = w.heap.size := by have := (Array.getElem?_eq_some_iff.1 hb).1; omega
  clear h1 hl hw s0 s1 hfit hrun hx hz hn hf0
  have C0 : Ch [] w (w.alloc (.cells (layC f0) 163)) := (Ch.refl [] w).alloc _
  have S0 : (w.alloc (.cells (layC f0) 163)).heap[w.heap.size]? = some (.cells (layC f0) 163 (0, 0)) := by rw [zac, if_pos rfl]
  have g0 := hkeep C0 hb
  obtain ⟨w0, hw0⟩ : ∃ W, w.alloc (.cells (layC f0) 163) = W := ⟨_, rfl⟩
  rw [hw0] at C0 S0 g0
  obtain ⟨S, hS⟩ : ∃ S, w.heap.size = S := ⟨_, rfl⟩
  rw [hS] at S0
  have hSw : w.heap.size ≤ S := by omega
  clear hb hgn
  refine (callsIn_wide (n := 3)).1 ?_
  refine callsIn_of_wp_marks Tryz.func34 rfl trivial ?_
  simp only [Tryz.ntmps34, List.size_toArray, List.length_cons, List.length_nil, Nat.reduceAdd, Nat.reduceSub, Array.replicate_succ, Array.replicate_zero, List.push_toArray, List.append_toArray, List.nil_append, List.cons_append]
  gi_wp2_with (first
    | (refine ⟨trivial, ?_⟩; gi_at_call 101; refine (inW (M1 _)).mono ?_; rintro e w' ⟨rfl, rfl⟩)
    | (refine ⟨trivial, ?_⟩; gi_at_call 44; refine (inW (K1 _)).mono ?_; rintro e w' ⟨rfl, rfl⟩))
  refine ⟨trivial, ?_⟩
  gi_at_call 102
  try rw [hw0]
  try rw [hS]
  refine (inW (O1 _ g0)).mono ?_
  rintro e w1 ⟨rfl, Q1, hc1⟩
  have hQw : w.heap.size ≤ w0.heap.size := C0.size
  have S1 := hkeep hc1 S0
  have C1 := C0.trans hc1
  clear O1 g0 hc1 C0 hw0
  obtain ⟨Q, hQ⟩ : ∃ Q, w0.heap.size = Q := ⟨_, rfl⟩
  have hSQ : S < Q := by have := zae S0; omega
  rw [hQ] at Q1 hQw ⊢
  clear hQ S0
  have hc2 : Ch [] w1 (w1.alloc (.cells #[I 0] 3)) := (Ch.refl [] w1).alloc _
  have m2 : (w1.alloc (.cells #[I 0] 3)).heap[w1.heap.size]? = some (.cells #[I 0] 3 (0, 0)) := by rw [zac, if_pos rfl]
  have S2 := hkeep hc2 S1
  have Q2 := hkeep hc2 Q1
  have C2 := C1.trans hc2
  have hQl := zae Q1
  obtain ⟨M, hM⟩ : ∃ M, w1.heap.size = M := ⟨_, rfl⟩
  have hMQ : Q < M := by omega
  rw [hM] at m2
  obtain ⟨w2, hw2⟩ : ∃ W, w1.alloc (.cells #[I 0] 3) = W := ⟨_, rfl⟩
  rw [hw2] at m2 S2 Q2 C2
  clear hc2 S1 Q1 C1 hQl
  have m9 : (w2.setCell ⟨M, 0, none⟩ (.int .i64 0)).heap[M]? = some (.cells #[I 0] 3 (0, 0)) := by rw [zaa, if_pos rfl, m2]; rfl
  have S9 : (w2.setCell ⟨M, 0, none⟩ (.int .i64 0)).heap[S]? = some (.cells (layC f0) 163 (0, 0)) := by rw [zaa, if_neg (by omega)]; exact S2
  have Q9 : (w2.setCell ⟨M, 0, none⟩ (.int .i64 0)).heap[Q]? = some (.cells (wcells l) 22 (0, 0)) := by rw [zaa, if_neg (by omega)]; exact Q2
  have C9 : Ch [] w (w2.setCell ⟨M, 0, none⟩ (.int .i64 0)) := C2.setCell (p := ⟨M, 0, none⟩) (.inr (by show w.heap.size ≤ M; omega)) _
  obtain ⟨w9, hw9⟩ : ∃ W, w2.setCell ⟨M, 0, none⟩ (.int .i64 0) = W := ⟨_, rfl⟩
  rw [hw9] at m9 S9 Q9 C9
  have A1 := fun w h => lAccesses_any S (.slice (some ⟨Q, 0, none⟩) n n) rfl w h
  gi_wp2_with fail
  refine ⟨trivial, ?_⟩
  gi_at_call 103
  try rw [hw2]
  try rw [hM]
  try rw [hw9]
  refine (inW (A1 _ (zae S9))).mono ?_
  rintro e w3 ⟨q1, q2, q3, rfl, h1, h2, h3, k1, k2, k3, hc3⟩
  have m3 := hkeep hc3 m9
  have S3 := hkeep hc3 S9
  have Q3 := hkeep hc3 Q9
  have C3 := C9.trans hc3
  have hMl := zae m9
  have e1 : M ≠ q1 := by omega
  have e2 : M ≠ q2 := by omega
  have e3 : M ≠ q3 := by omega
  have l1 := zae h1
  have l2 := zae h2
  have l3 := zae h3
  have lM := zae m3
  have Y2 := Y1 Q S q1 q2 q3 w3 Q3 S3 h1 h2 h3
  clear A1 m2 S2 Q2 C2 m9 S9 Q9 C9 hw9 hc3 Y1 h1 h2 h3 hMl hw2 k1 k2 k3 hS hM
  gi_wp2
  refine range_lawE (n := 1) (xs := xs) rfl enters_acc2 Y2 ?hE (fun _ => rfl) (by simp; omega) (by simp; omega)
    (fun pre O W => (∀ x, O x ↔ x = M) ∧ Ch [] w W ∧ W.heap[M]? = some (.cells #[I (pre.length : Nat)] 3 (0, 0)))
    (fun c W => False)
    (fun x => x = M) ?hIO ?hI ?hIx ⟨fun _ => Iff.rfl, C3, m3⟩ ?a₁ ?assign ?body ?done ?stop
  case assign =>
    intro x W K hK
    gi_wp2
    exact hK
  case hE =>
    intro A B hA hAB
    exact (hAB.block Q (zae hA) (by simp; omega)).trans hA
  case hIO =>
    rintro pre O A ⟨h, hc, hm⟩ x hx
    rw [(h x).1 hx]
    refine ⟨.inl lM, zae hm, by simp; omega⟩
  case hI =>
    rintro pre O A B ⟨h, hc, hm⟩ hAB
    exact ⟨h, hc.trans2 hAB (by simp; omega), (hAB.block M (zae hm) (by simp; omega)).trans hm⟩
  case hIx =>
    rintro c A B h _
    exact h
  case body =>
    rintro pre O x post W hxx ⟨h, hc, hm⟩ hsz
    go_light
    have hle : (pre.length : Int) ≤ 100000 := by
      have := congrArg List.length hxx
      rw [List.length_append, List.length_cons, hxs] at this
      omega
    clear Y2 hxx
    gi_wp2
    refine ⟨⟨O, ⟨h, hc.setCell (p := ⟨M, 0, none⟩) (.inr (by show w.heap.size ≤ M; omega)) _, ?_⟩, fun _ h => .inl h⟩, by simp [World.setCell], fun b hb hn => ?_⟩
    · rw [zaa, if_pos rfl, hm, List.length_append]; rfl
    · rw [zaa, if_neg (fun e => hn ((h b).2 e))]
  case stop =>
    intro c W h _
    exact h.elim
  case done =>
    rintro O W ⟨h, hc, hm⟩ hE hd
    rw [hxs] at hm
    gi_wp2
    have hgM : ∀ g : Gar W, (g.1).heap[M]? = some (.cells #[I (k : Nat)] 3 (0, 0)) := fun g => hkeep g.2 hm
    refine wpIn_wide.2 (zda (by kernel_rfl) (by kernel_rfl) ?_)
    repeat (go_big_quiet_step (fail))
    refine wpQuiet_nil ?_
    rintro W4 ⟨g1, hw1⟩
    have hc4 : Ch [] W W4 := by rw [hw1]; exact g1.2
    have EW : W4.heap[Q]? = some (.cells (wcells l') 22 (0, 0)) := hkeep hc4 hE
    have hd' : W4.heap[w3.heap.size]? = some (.deferred (some [])) := hkeep hc4 hd
    have CW : Ch [] w W4 := hc.trans hc4
    clear hw1 g1 hgM
    gi_wp2
    refine marks_ret hd' (lrun_results Tryz.results34 _ _ _ _ _ rfl rfl rfl) ⟨Q, rfl, by omega, ?_, CW.trans2 (zcc _ _ _) (by simp; omega)⟩
    rw [heap_putObj, if_neg (by omega)]; exact EW
end
section
attribute [local go_sem] Oper.semAt_some zap
attribute [local go_sem] loadP storeP allOne_pair
attribute [local go_sem high] laidAt_p
attribute [local go_sem ↓] lrowP srowP zeroP
theorem neq_pair (x y : BitVec 64) (w : World) : (binOp .neq 31 (.agg #[U x, U y]) (.agg #[U x, U y])).run Tryz.prog w = .ok (.bool false) w := by
  have h := eql_pair x y x y w
  rw [run_eql_struct] at h
  rw [run_neq_struct]
  generalize (Op.equalIn 10000 31 (.agg #[U x, U y]) (.agg #[U x, U y])).run Tryz.prog w = r at *
  cases r with
  | ok b w' =>
    simp only [Result.andThen_ok, Result.ok.injEq, Value.bool.injEq, beq_self_eq_true, Bool.and_self] at h
    obtain ⟨rfl, rfl⟩ := h
    rfl
  | halt x w' => simp [Result.andThen] at h
theorem guardP' (op : BinOp) (x y : Operand) (xs ys : Array Value) (w : World) : (eqGuard op 31 x y (.agg xs) (.agg ys)).run Tryz.prog w = .ok () w := run_eqGuard_agg w op 31 x y xs ys (by kernel_rfl)
attribute [local go_sem high] neq_pair guardP'
theorem eqPairs_any (l : List (BitVec 64 × BitVec 64)) (a b : Option Addr) (c d : Nat) (cur cur2 : Array Value) (w : World) (hl : l.length ≤ 900000)
    (hpa : PairsAt cur l) (ha : 0 < l.length → ∃ r, a = some ⟨r, 0, none⟩) (hr : ∀ r, a = some ⟨r, 0, none⟩ → w.heap[r]? = some (.cells cur 31 (0, 0)))
    (hpb : PairsAt cur2 l) (hb : 0 < l.length → ∃ r, b = some ⟨r, 0, none⟩) (hs : ∀ r, b = some ⟨r, 0, none⟩ → w.heap[r]? = some (.cells cur2 31 (0, 0))) :
    Calls Tryz.prog 100 #[.slice a l.length c, .slice b l.length d] w fun e w' => e = .returned (.bool true) ∧ Ch [] w w' := by
  have HP := Lib.hid hpa
  have HA := Lib.hid ha
  have HR := Lib.hid hr
  have HPB := Lib.hid hpb
  have HAB := Lib.hid hb
  have HRB := Lib.hid hs
  clear hpa ha hr hpb hb hs
  go_enter Tryz.func100, Tryz.ntmps100
  go_wp2
  go_loopw [13] (fun i wr => ∃ j : Nat, i = .int .i64 j ∧ j ≤ l.length ∧ Ch [] w wr) (fun i _ => l.length - (intOf i).toNat)
  case atStart => exact ⟨0, rfl, Nat.zero_le _, Ch.refl _ _⟩
  case round =>
    obtain ⟨j, hj, hjl, hcr⟩ := hrel
    subst hj
    rcases Nat.lt_or_ge j l.length with hlt | hge
    · obtain ⟨r, hra⟩ := HA.out (by omega)
      obtain ⟨q, hqb⟩ := HAB.out (by omega)
      obtain ⟨p, hpm, -⟩ := drop_one hlt
      have hrow : rowAt (j * 2) 2 (.cells cur 31 (0, 0)) = some #[U p.1, U p.2] := by rw [Nat.mul_comm]; exact HP.out j p hpm
      have hrow2 : rowAt (j * 2) 2 (.cells cur2 31 (0, 0)) = some #[U p.1, U p.2] := by rw [Nat.mul_comm]; exact HPB.out j p hpm
      subst hra hqb
      have hrr : wr.heap[r]? = some (.cells cur 31 (0, 0)) := hkeep hcr (HR.out r rfl)
      have hqq : wr.heap[q]? = some (.cells cur2 31 (0, 0)) := hkeep hcr (HRB.out q rfl)
      have hdec : decide (j < l.length) = true := by simpa using hlt
      have hg0 : ∀ g : Gar wr, (g.1).heap[q]? = some (.cells cur2 31 (0, 0)) := fun g => hkeep g.2 hqq
      have hg1 : ∀ g : Gar wr, (g.1).heap[r]? = some (.cells cur 31 (0, 0)) := fun g => hkeep g.2 hrr
      clear hpm
      go_wp2
      refine zda (by kernel_rfl) (by kernel_rfl) ?_
      repeat (go_big_quiet_step (fail))
      refine wpQuiet_nil ?_
      rintro W6 ⟨g6, hw6⟩
      have hc6 : Ch [] wr W6 := by rw [hw6]; exact g6.2
      clear hw6 g6 hg0 hg1
      go_wp2
      go_roundw
      case rel => exact ⟨j + 1, by go_num, hlt, hcr.trans hc6⟩
      case measure => simp [intOf]; omega
    · have hme : j = l.length := Nat.le_antisymm hjl hge
      have hdec : decide (j < l.length) = false := by simpa using hge
      clear hme hge
      go_wp2
      go_ret
      exact ⟨rfl, hcr⟩
end
section
attribute [local go_sem] box26 zbx cell0 cell1 cell2 cell3 cell4 zci zch
attribute [local go_sem high] zcb
theorem tsetc (t : Tab) (x : BitVec 64) : (tcells t).setIfInBounds 0 (U x) = tcells { t with count := x } := by
  apply Array.ext_getElem?; intro i
  rw [Array.getElem?_setIfInBounds, zat, zat, zai]
  by_cases h : 0 = i
  · subst h; rfl
  · rw [if_neg h]
    match i, h with
    | 0, h => exact absurd rfl h
    | 1, _ => rfl
    | 2, _ => rfl
    | 3, _ => rfl
    | 4, _ => rfl
    | 5, _ => rfl
    | 6, _ => rfl
    | i + 7, _ => rfl
theorem run56 (l l' : List (BitVec 64)) (p' : LayT) (k : Nat) (hlen : l.length = 56) (hrun : RunsL l (firstL 0 0 0#64) k l' p') (hk : k ≤ 100) (g c : Nat) (cur : Array Value) (w : World) (hb : w.heap[g]? = some (.cells cur 22 (0, 0))) (hw : WordsAt cur l) :
    Calls Tryz.prog 34 #[.slice (some ⟨g, 0, none⟩) 56 c, .int .i64 0, .int .u64 0] w fun e w' => ∃ Q, e = .returned (.tuple #[.slice (some ⟨Q, 0, none⟩) 56 56, I (k : Nat), I 0]) ∧ w.heap.size ≤ Q ∧ w'.heap[Q]? = some (.cells (wcells l') 22 (0, 0)) ∧ Ch [] w w' := by
  have := lRun_go l l' g c cur 0 0#64 p' k w (by omega) (by omega) hb hw (by omega) (by omega) (by omega) hrun (by omega)
  rw [hlen] at this
  exact this
theorem cells_row (t : Tab) (hf : flatT t = true) (w : World) : Calls Tryz.prog 33 #[.agg (tcells t)] w fun e w' => ∃ R c cur, e = .returned (.slice (some ⟨R, 0, none⟩) 56 c) ∧ w.heap.size ≤ R ∧ WordsAt cur (cells20 t) ∧ w'.heap[R]? = some (.cells cur 22 (0, 0)) ∧ Ch [] w w' := by
  refine (cells20_ok t hf w).mono ?_
  rintro e w' ⟨v, rfl, ho, hc⟩
  obtain ⟨hlen, ⟨_, h0⟩ | ⟨r, c, cur, rfl, hb, hW, h56, hcm, hsz, hel⟩⟩ := ho
  · exact absurd h0 (by decide)
  · refine ⟨r, c, cur, rfl, hb, fun j x hj => ?_, hW, hc⟩
    have hj56 : j < 56 := by have := (List.getElem?_eq_some_iff.1 hj).1; rw [cells20_len] at this; exact this
    have h1 : ((cells20 t).map fun x => U x)[j]? = some (U x) := by rw [List.getElem?_map, hj]; rfl
    rw [← hel, List.getElem?_take, if_pos (by omega), Array.getElem?_toList] at h1
    exact h1
theorem ra_tc6 : tcells { ra3 with count := 6#64 } = tcells ra6 := (normT_cells _).symm
theorem ra_tc7 : tcells { ra6 with count := 7#64 } = tcells ra7 := by
  refine cells_same fun i hi => ?_
  match i, hi with
  | 0, _ => rfl
  | 1, _ => rfl
  | 2, _ => rfl
  | 3, _ => rfl
  | 4, _ => rfl
  | 5, _ => rfl
  | 6, _ => rfl
  | i + 7, _ => rfl
theorem ra_read : readE (tword { ra8 with count := 8#64 }) = .ok ra9 := by
  unfold readE
  rw [if_pos (read_ok ra_flat8), read_eq ra_flat8]
  rfl
theorem ra_at (l : List (BitVec 64)) (hl : 56 ≤ l.length) (t : Tab) : AtW (wcells (laidW l 16 t)) 16 (tword t) := by
  intro j hj
  refine wcells_at _ _ _ ?_
  rw [laidW_get t (by omega), if_pos (by omega), show 16 + j - 16 = j by omega]
theorem ra_pairsAt : PairsAt #[.int .u64 1, .int .u64 10, .int .u64 2, .int .u64 20] [(1#64, 10#64), (2#64, 20#64)] := by
  intro i p hp
  match i, hp with
  | 0, hp => cases hp; rfl
  | 1, hp => cases hp; rfl
  | i + 2, hp => cases hp
theorem ra_pairsAt1 : PairsAt #[.int .u64 2, .int .u64 20] [(2#64, 20#64)] := by
  intro i p hp
  match i, hp with
  | 0, hp => cases hp; rfl
  | i + 1, hp => cases hp
attribute [local irreducible] tcells ra0 ra1 ra2 ra3 ra6 ra7 ra8 ra9 cells20 laidW
theorem wakes20_any (w : World) : Calls Tryz.prog 32 #[] w fun e w' => e = .returned (.bool true) ∧ Ch [] w w' := by
  have N1 : ∀ w, Calls Tryz.prog 75 #[.int .i64 0, .int .u64 0] w fun e w' => e = .returned (.tuple #[.agg (tcells ra0), I 0]) ∧ Ch [] w w' := fun w => by
    have := New_any 0 0#64 w
    rw [ra_new] at this
    exact this
  have P1 : ∀ (r : Nat) w, w.heap[r]? = some (.cells #[.int .u64 1, .int .u64 10, .int .u64 2, .int .u64 20] 31 (0, 0)) → Calls Tryz.prog 17 #[.int .u64 0, .agg (tcells ra0), .slice (some ⟨r, 0, none⟩) 2 2] w fun e w' => e = .returned (.tuple #[.agg (tcells ra2), I 0]) ∧ Ch [] w w' := fun r w h => by
    have := Puts_any ra0 0#64 [(1#64, 10#64), (2#64, 20#64)] (some ⟨r, 0, none⟩) 2 _ w (by decide) ra_pairsAt (fun _ => ⟨r, rfl⟩) (fun r' e => by cases e; exact h)
    rw [ra_puts, ifMay, if_pos ra_may0] at this
    exact this
  have D1 : ∀ w, Calls Tryz.prog 73 #[.int .u64 0, .agg (tcells ra2), .int .u64 1] w fun e w' => e = .returned (.tuple #[.agg (tcells ra3), I 0, I 0]) ∧ Ch [] w w' := fun w => by
    have := Drop_any ra2 0#64 1#64 w
    rw [ra_drop, ifMay, if_pos ra_may2] at this
    exact this
  have L6 := fun w => cells_row ra6 ra_flat6 w
  have L7 := fun w => cells_row ra7 ra_flat7 w
  have R6 := fun g c cur w hb hw => run56 (cells20 ra6) _ _ 81 (cells20_len _) ra_run6 (by omega) g c cur w hb hw
  have R7 := fun g c cur w hb hw => run56 (cells20 ra7) _ _ 1 (cells20_len _) ra_run7 (by omega) g c cur w hb hw
  have RZ := fun g c cur w hb hw => run56 (List.replicate 56 0#64) _ _ 42 (List.length_replicate ..) ra_runz (by omega) g c cur w hb hw
  go_enter Tryz.func32, Tryz.ntmps32
  go_wp2_with fail
  refine (N1 _).mono ?_
  rintro e w1 ⟨rfl, hc1⟩
  go_upto_region 2 with (fail)
  have t2 := tab_put ra0 w1
  have C2 := hc1.trans (tab_put_ch [] ra0 w1)
  obtain ⟨w2, hw2⟩ : ∃ W, World.onObj (w1.alloc (.cells (tcells zeroT) 26)) w1.heap.size (laidAt 0 (tcells ra0)) = W := ⟨_, rfl⟩
  rw [hw2] at t2 C2 ⊢
  clear hw2
  obtain ⟨T, hT⟩ : ∃ T, w1.heap.size = T := ⟨_, rfl⟩
  have hTw : w.heap.size ≤ T := by have := hc1.size; omega
  rw [hT] at t2 ⊢
  clear hT hc1 N1
  go_wp2_with fail
  have r3 : (w2.alloc (.cells #[.int .u64 1, .int .u64 10, .int .u64 2, .int .u64 20] 31)).heap[w2.heap.size]? = some (.cells #[.int .u64 1, .int .u64 10, .int .u64 2, .int .u64 20] 31 (0, 0)) := by rw [zac, if_pos rfl]
  have hc3 : Ch [] w2 (w2.alloc (.cells #[.int .u64 1, .int .u64 10, .int .u64 2, .int .u64 20] 31)) := (Ch.refl [] w2).alloc _
  have t3 := hkeep hc3 t2
  have C3 := C2.trans hc3
  refine (P1 _ _ r3).mono ?_
  rintro e w4 ⟨rfl, hc4⟩
  have t4 := hkeep hc4 t3
  have C4 := C3.trans hc4
  clear t2 C2 r3 hc3 t3 C3 hc4 P1
  go_upto_region 3 with (fail)
  have t5 : (World.onObj w4 T (laidAt 0 (tcells ra2))).heap[T]? = some (.cells (tcells ra2) 26 (0, 0)) := by rw [zab, if_pos rfl, t4, Option.map_some, zcb]
  have C5 : Ch [] w (World.onObj w4 T (laidAt 0 (tcells ra2))) := C4.onObj (.inr hTw) _
  obtain ⟨w5, hw5⟩ : ∃ W, (World.onObj w4 T (laidAt 0 (tcells ra2))) = W := ⟨_, rfl⟩
  rw [hw5] at t5 C5 ⊢
  clear hw5 t4 C4
  go_wp2_with fail
  refine (D1 _).mono ?_
  rintro e w6 ⟨rfl, hc6⟩
  have t6 := hkeep hc6 t5
  have C6 := C5.trans hc6
  clear t5 C5 hc6 D1
  go_upto_region 4 with (fail)
  have t7 : (World.onObj w6 T (laidAt 0 (tcells ra3))).heap[T]? = some (.cells (tcells ra3) 26 (0, 0)) := by rw [zab, if_pos rfl, t6, Option.map_some, zcb]
  have C7 : Ch [] w (World.onObj w6 T (laidAt 0 (tcells ra3))) := C6.onObj (.inr hTw) _
  obtain ⟨w7, hw7⟩ : ∃ W, (World.onObj w6 T (laidAt 0 (tcells ra3))) = W := ⟨_, rfl⟩
  rw [hw7] at t7 C7 ⊢
  clear hw7 t6 C6
  go_upto_region 5 with (fail)
  have t8 : (w7.setCell ⟨T, 0, none⟩ (.int .u64 6)).heap[T]? = some (.cells (tcells ra6) 26 (0, 0)) := by rw [zaa, if_pos rfl, t7, Option.map_some, zad, ← ra_tc6]; exact congrArg (fun z => some (Obj.cells z 26 (0, 0))) (tsetc ra3 6#64)
  have C8 : Ch [] w (w7.setCell ⟨T, 0, none⟩ (.int .u64 6)) := C7.setCell (p := ⟨T, 0, none⟩) (.inr hTw) _
  obtain ⟨w8, hw8⟩ : ∃ W, (w7.setCell ⟨T, 0, none⟩ (.int .u64 6)) = W := ⟨_, rfl⟩
  rw [hw8] at t8 C8 ⊢
  clear hw8
  clear t7 C7
  go_wp2_with fail
  refine (L6 _).mono ?_
  rintro e w9 ⟨r9, c9, cur9, rfl, hr9, hcur9, hR9, hc9⟩
  have t9 := hkeep hc9 t8
  have C9 := C8.trans hc9
  clear t8 C8 hc9 L6
  go_wp2_with fail
  refine (R6 _ _ _ _ hR9 hcur9).mono ?_
  rintro e w10 ⟨Q6, rfl, hQ6, q10, hc10⟩
  have t10 := hkeep hc10 t9
  have C10 := C9.trans hc10
  have hQT : ¬ T = Q6 := zdb t10 q10 (by decide)
  clear t9 C9 hc10 R6 hR9 hcur9 hr9 hQ6
  go_upto_region 7 with (fail)
  have t11 : (w10.setCell ⟨T, 0, none⟩ (.int .u64 7)).heap[T]? = some (.cells (tcells ra7) 26 (0, 0)) := by rw [zaa, if_pos rfl, t10, Option.map_some, zad, ← ra_tc7]; exact congrArg (fun z => some (Obj.cells z 26 (0, 0))) (tsetc ra6 7#64)
  have C11 : Ch [] w (w10.setCell ⟨T, 0, none⟩ (.int .u64 7)) := C10.setCell (p := ⟨T, 0, none⟩) (.inr hTw) _
  have q11 : (w10.setCell ⟨T, 0, none⟩ (.int .u64 7)).heap[Q6]? = _ := (setCell_other (w := w10) (b := Q6) T 0 (.int .u64 7) (fun e => hQT e.symm)).trans q10
  obtain ⟨w11, hw11⟩ : ∃ W, (w10.setCell ⟨T, 0, none⟩ (.int .u64 7)) = W := ⟨_, rfl⟩
  rw [hw11] at t11 C11 q11 ⊢
  clear hw11
  clear t10 C10 q10
  go_wp2_with fail
  refine (L7 _).mono ?_
  rintro e w12 ⟨r12, c12, cur12, rfl, hr12, hcur12, hR12, hc12⟩
  have t12 := hkeep hc12 t11
  have q12 := hkeep hc12 q11
  have C12 := C11.trans hc12
  clear t11 q11 C11 hc12 L7
  go_wp2_with fail
  refine (R7 _ _ _ _ hR12 hcur12).mono ?_
  rintro e w13 ⟨Q7, rfl, hQ7, q7, hc13⟩
  have q13 := hkeep hc13 q12
  have C13 := C12.trans hc13
  clear t12 q12 C12 hc13 R7 hR12 hcur12 hr12 hQ7 q7
  have hmz : ∀ w, (Instr.makeSlice 44 (.int .i64 56) (.int .i64 56)).run Tryz.prog w = .ok (.slice (some ⟨w.heap.size, 0, none⟩) 56 56) (w.alloc (.cells (madeCells #[.int .u64 0] 56) 22)) := fun w => run_make_row' (P := Tryz.prog) 44 22 (.int .u64 0) 8 Tryz.underlying44 infoU rfl .i64 .i64 56 (by omega) (by omega) w
  obtain ⟨Zc, hZc⟩ : ∃ z, madeCells #[.int .u64 0] 56 = z := ⟨_, rfl⟩
  have hZw : WordsAt Zc (List.replicate 56 0#64) := by rw [← hZc, zeros_cells]; exact wcells_at _
  simp only [hZc] at hmz
  clear hZc
  go_wp2_with fail
  have hc14 : Ch [] w13 (w13.alloc (.cells Zc 22)) := (Ch.refl [] w13).alloc _
  have z14 : (w13.alloc (.cells Zc 22)).heap[w13.heap.size]? = some (.cells Zc 22 (0, 0)) := by rw [zac, if_pos rfl]
  have q14 := hkeep hc14 q13
  have C14 := C13.trans hc14
  refine (RZ _ _ _ _ z14 hZw).mono ?_
  rintro e w15 ⟨Qz, rfl, hQz, z15, hc15⟩
  have q15 := hkeep hc15 q14
  have C15 := C14.trans hc15
  clear hc14 z14 q14 C14 hc15 q13 C13 RZ hmz hZw hQz
  have T1 := fun w h => Table_any Q6 16 40 (wcells (laidW (cells20 ra6) 16 { ra8 with count := 8#64 })) 22 (tword { ra8 with count := 8#64 }) (by omega) (by omega) w h (ra_at _ (by rw [cells20_len]; omega) _)
  rw [ra_read] at T1
  have hz16 : (wcells ((List.replicate 56 0#64).set 16 2#64))[16]? = some (.int .u64 2) := by rfl
  obtain ⟨zz, hzz⟩ : ∃ z, wcells ((List.replicate 56 0#64).set 16 2#64) = z := ⟨_, rfl⟩
  rw [hzz] at z15 hz16
  obtain ⟨qq, hqq⟩ : ∃ z, wcells (laidW (cells20 ra6) 16 { ra8 with count := 8#64 }) = z := ⟨_, rfl⟩
  rw [hqq] at q15 T1
  clear hzz hqq
  go_wp2_with fail
  refine (T1 _ q15).mono ?_
  rintro e w16 ⟨rfl, hc16⟩
  have z16 := hkeep hc16 z15
  have C16 := C15.trans hc16
  simp only [tupOr]
  clear q15 z15 C15 hc16 T1
  go_upto_region 12 with (fail)
  have t17 := tab_put ra9 w16
  have hc17 := tab_put_ch [] ra9 w16
  have z17 := hkeep hc17 z16
  have C17 := C16.trans hc17
  obtain ⟨w17, hw17⟩ : ∃ W, World.onObj (w16.alloc (.cells (tcells zeroT) 26)) w16.heap.size (laidAt 0 (tcells ra9)) = W := ⟨_, rfl⟩
  rw [hw17] at t17 z17 C17 ⊢
  obtain ⟨D, hD⟩ : ∃ D, w16.heap.size = D := ⟨_, rfl⟩
  rw [hD] at t17 ⊢
  clear hw17 hc17 hD z16 C16
  have PP := fun w => Pairs_yes ra9 0#64 w ra_may9
  rw [ra_pairs9] at PP
  go_wp2_with fail
  refine (PP _).mono ?_
  rintro e w18 ⟨a, c, rfl, ho, hc18⟩
  have t18 := hkeep hc18 t17
  have z18 := hkeep hc18 z17
  have C18 := C17.trans hc18
  obtain ⟨cur, hp1, hp2, hp3⟩ := pairs_at rfl ho
  clear t17 z17 C17 hc18 PP ho
  have hN : (N ra9.count == 8) = true := by rw [ra9]; rfl
  have EQ := fun (r2 : Nat) (W : World) (hW : Ch [] w18 W) (h2 : W.heap[r2]? = some (.cells #[.int .u64 2, .int .u64 20] 31 (0, 0))) => eqPairs_any [(2#64, 20#64)] a (some ⟨r2, 0, none⟩) c 1 cur _ W (by decide) hp1 hp2 (fun r hr => hkeep hW (hp3 r hr).2) ra_pairsAt1 (fun _ => ⟨r2, rfl⟩) (fun r e => by cases e; exact h2)
  clear hp1 hp2 hp3
  go_wp2_with fail
  refine (EQ _ _ ((Ch.refl [] w18).alloc _) (by rw [zac, if_pos rfl])).mono ?_
  rintro e w19 ⟨rfl, hc19⟩
  go_wp2
  go_ret
  exact ⟨rfl, (C18.alloc _).trans hc19⟩
end
end Go.Proofs.Hc
