/- The reference of layer 22: halves (printed by gen_rhalves22.py). -/
import Derived.Test.YtcikopeddljgkaaGreatJHxs
import Derived.Test.YtcikopeddljgkaaGreatJ0
set_option linter.unusedSimpArgs false
set_option linter.unusedVariables false
set_option maxHeartbeats 8000000
set_option maxRecDepth 100000
namespace Go.Proofs.Hc
open Go.RowKit
attribute [local go_sem] zbu zcc zax zbf zbo zbd zbn zbp zbw signed64 signed8 zap BitVec.ofInt_add BitVec.ofInt_mul ofInt_sub' zbb zbc wide8 eqN neN zca shr1 shr7 shr56
attribute [local go_sem high] zbe zbv
attribute [local go_sem] zaw zby zaj zas zaf zaz zar zak zbm zal zay zba
attribute [local go_sem] load26 load73 load23 store26 build73
attribute [local go_sem ↓] lrow26 lrow73 lrow23 srow26 zero26 brow73 zae zbk zbg zaa zab
attribute [local go_sem] zai zav zat zbj zbl zbr zaq zau zbs zbi zbh
attribute [local go_sem] nn2 nm2 nn3 nm3 nn4 nm4 nn5 nm5 nn6 nm6 nn7 nm7 nn8 nm8
section
attribute [local go_sem] loadA loadT2 storeA storeT2 buildA_ts buildA_sm zdd make_func zda zcd acells_get zcz acells_one t2cells_one zcy acells_all t2cells_all t2cells_l t2cells_r
attribute [local go_sem ↓] lrowA lrowT2 srowA srowT2 browA zeroA_run zeroT2_run
attribute [local go_sem] zap zbq
attribute [local go_sem] Oper.semAt_some zao
attribute [local go_sem] zcj pacell0 pacell1 pacell2 pacell3 pacell4 pacell5 pacell6 pacell7 pacell42
attribute [local go_sem] zcs zcx zcp zcw zcv zdg zcu zdf zce zcr zdj zdc zch zbt zci zck boxPart loadPart storePart zcf zct buildPart0 buildPart4
attribute [local go_sem ↓] lrowPart srowPart browPart zcl zbz
attribute [local go_sem high] zag
attribute [local irreducible] partC
attribute [local go_sem] loadP storeP allOne_pair
attribute [local go_sem ↓] lrowP srowP zeroP mul2_64
attribute [local go_sem high] zco laidAt_p laidAt_t2 tmod255w tdiv8w wrap255
attribute [local irreducible] tcells t2cells
structure HalfAt (p : PartT) (j : Nat) (a b : Tab) : Prop where
  fl : flatT (bareS p 0) = true
  ma : May a p.seed
  mb : May b p.seed
  dep : a.depth = (bareS p 0).depth
  pre : a.pre = (bareS p 0).pre
  rest : halvesS p = (restS p a b ((toldS (gotS p) j 16).map (pairS p))).map wordsS
theorem halfAt_0 (p : PartT) (h : flatT (bareS p 0) = true) : HalfAt p 0 (bareS p 0) (bareS p 1) :=
  ⟨h, bare_may _ h, bare_may _ (by rw [← h, ← bareS_flat]; rfl), rfl, rfl, halvesS_flat p h⟩
theorem halfAt_no {p : PartT} {j : Nat} {a b : Tab} (hf : fullJ (gotS p) j = false) (h : HalfAt p j a b) : HalfAt p (j + 1) a b :=
  ⟨h.fl, h.ma, h.mb, h.dep, h.pre, by rw [← told_no _ _ _ hf]; exact h.rest⟩
theorem halfAt_goes {p : PartT} {j : Nat} {a b : Tab} (h : HalfAt p j a b) : hasT a (hashOf p.seed (p.k j)) = goS p (pairS p j) := goS_in p a h.ma.flat h.fl h.dep h.pre (pairS p j)
theorem halfAt_rest {p : PartT} {j : Nat} {a b : Tab} (hj : j < 16) (hf : fullJ (gotS p) j = true) (h : HalfAt p j a b) : halvesS p = (restS p a b (pairS p j :: (toldS (gotS p) (j + 1) 16).map (pairS p))).map wordsS := by
  have := h.rest
  rw [told_yes _ _ hf 16 hj, List.map_cons] at this
  exact this
theorem halfAt_lerr {p : PartT} {j : Nat} {a b : Tab} {e : Int} (hj : j < 16) (hf : fullJ (gotS p) j = true) (hg : goS p (pairS p j) = true) (h : HalfAt p j a b) (hp : placeT a p.seed (p.k j) = .error e) : halvesS p = none := by
  rw [halfAt_rest hj hf h, (restS_first p a b _ _ hg).1 e hp]; rfl
theorem halfAt_rerr {p : PartT} {j : Nat} {a b : Tab} {e : Int} (hj : j < 16) (hf : fullJ (gotS p) j = true) (hg : goS p (pairS p j) = false) (h : HalfAt p j a b) (hp : placeT b p.seed (p.k j) = .error e) : halvesS p = none := by
  rw [halfAt_rest hj hf h, (restS_second p a b _ _ hg).1 e hp]; rfl
theorem halfAt_lok {p : PartT} {j : Nat} {a b : Tab} {sl : Nat} (hj : j < 16) (hf : fullJ (gotS p) j = true) (hg : goS p (pairS p j) = true) (h : HalfAt p j a b) (hp : placeT a p.seed (p.k j) = .ok sl) : HalfAt p (j + 1) (fillT a p.seed (p.k j) (p.v j) sl) b :=
  ⟨h.fl, h.ma.fill _ (place_spot hp), h.mb, by rw [fill_depth, h.dep], by rw [fill_pre, h.pre], by rw [halfAt_rest hj hf h, (restS_first p a b _ _ hg).2 sl hp]; rfl⟩
theorem halfAt_rok {p : PartT} {j : Nat} {a b : Tab} {sl : Nat} (hj : j < 16) (hf : fullJ (gotS p) j = true) (hg : goS p (pairS p j) = false) (h : HalfAt p j a b) (hp : placeT b p.seed (p.k j) = .ok sl) : HalfAt p (j + 1) a (fillT b p.seed (p.k j) (p.v j) sl) :=
  ⟨h.fl, h.ma, h.mb.fill _ (place_spot hp), h.dep, h.pre, by rw [halfAt_rest hj hf h, (restS_second p a b _ _ hg).2 sl hp]; rfl⟩
theorem halfAt_end {p : PartT} {a b : Tab} (h : HalfAt p 16 a b) : halvesS p = some (wordsS ⟨a, b⟩) ∧ flatT a = true ∧ flatT b = true := by
  refine ⟨?_, h.ma.flat, h.mb.flat⟩
  have := h.rest
  rw [toldS_low _ _ _ (Nat.le_refl _), List.map_nil, restS_nil] at this
  exact this
theorem place_err22 {t : Tab} {s k : BitVec 64} {c : Int} (hP : placeT t s k = .error c) : (c != 0) = true := by
  rcases place_cases t s k with ⟨_, h⟩ | ⟨_, _, h⟩ | ⟨_, _, h⟩ | ⟨_, _, sl, h⟩
  all_goals
    rw [hP] at h
    first | (cases h; done) | (cases h; decide)
theorem build_t22 (a b : Tab) (w : World) : (buildRow 35 #[(0, .agg (tcells a)), (1, .agg (tcells b))]).run Tryz.prog w = .ok (.agg (t2cells ⟨a, b⟩)) w := by kernel_rfl
theorem brow_t22 (ps : Array (Nat × Value)) : Instr.build 35 ps = buildRow 35 ps := rfl
attribute [local go_sem] build_t22
attribute [local go_sem ↓] brow_t22
theorem t22_block (W : World) (a b : T2) : (World.onObj (W.alloc (.cells (t2cells a) 35)) W.heap.size (laidAt 0 (t2cells b))).heap[W.heap.size]? = some (.cells (t2cells b) 35 (0, 0)) := by
  rw [zab, if_pos rfl, zae, if_pos rfl, Option.map_some, laidAt_t2]
theorem t22_ch (W : World) (a b : T2) : Ch [] W (World.onObj (W.alloc (.cells (t2cells a) 35)) W.heap.size (laidAt 0 (t2cells b))) := ((Ch.refl [] W).alloc _).onObj (.inr (Nat.le_refl _)) _
theorem halves_world (p : PartT) (w : World) : ∃ W, (w.alloc (.cells (partC p) 51)).alloc (.cells (t2cells zeroT2) 35) = W ∧ Ch [] w W ∧ W.heap[w.heap.size]? = some (.cells (partC p) 51 (0, 0)) ∧ W.heap[w.heap.size + 1]? = some (.cells (t2cells zeroT2) 35 (0, 0)) :=
  ⟨_, rfl, ((Ch.refl [] w).alloc _).alloc _, by rw [zae, if_neg (by simp), zae, if_pos rfl], by rw [zae, if_pos (by simp)]⟩
theorem r22halves_any (p : PartT) (w : World) : Calls Tryz.prog 181 #[.agg (partC p)] w fun e w' => ∃ (x : T2) (ok : Bool), e = .returned (.tuple #[.agg (t2cells x), .bool ok]) ∧ (ok = true → halvesS p = some (wordsS x) ∧ flatT x.l = true ∧ flatT x.r = true) ∧ (ok = false → halvesS p = none) ∧ Ch [] w w' := by
  have N1 : ∀ w, Calls Tryz.prog 94 #[U 0#64, I (N (p.head &&& 255#64) + 1), U (2#64 * (p.head >>> 8))] w fun e w' => e = .returned (.agg (tcells (bareS p 0))) ∧ Ch [] w w' := fun w => by
    rw [bareS_0]; exact rNew_any 0#64 (deepS p + 1) (2#64 * preS p) w
  have N2 : ∀ w, Calls Tryz.prog 94 #[U 0#64, I (N (p.head &&& 255#64) + 1), U (2#64 * (p.head >>> 8) + 1#64)] w fun e w' => e = .returned (.agg (tcells (bareS p 1))) ∧ Ch [] w w' := fun w => rNew_any 0#64 (deepS p + 1) (2#64 * preS p + BitVec.ofNat 64 1) w
  have T1 := fun w => rTable_any (bareS p 0) w
  have HB := Lib.hid (halvesS_bad p)
  have H0 := Lib.hid (halfAt_0 p)
  have hwd : IntKind.i64.wrap (N (p.head &&& 255#64) + 1) = N (p.head &&& 255#64) + 1 := by
    have := and255_lt p.head
    have := N_nonneg (p.head &&& 255#64)
    rw [IntKind.wrap_i64]; omega
  obtain ⟨ff, hff⟩ : ∃ b, flatT (bareS p 0) = b := ⟨_, rfl⟩
  rw [hff] at T1
  have HF := Lib.hid hff
  clear hff
  obtain ⟨A0, hA0⟩ : ∃ t, bareS p 0 = t := ⟨_, rfl⟩
  obtain ⟨A1, hA1⟩ : ∃ t, bareS p 1 = t := ⟨_, rfl⟩
  rw [hA0] at N1 T1 HF HB H0
  rw [hA1] at N2 H0
  clear hA0 hA1
  obtain ⟨w0, hw0, C0, b0, z0⟩ := halves_world p w
  go_enter Tryz.func181, Tryz.ntmps181
  go_upto_region 1 with (fail)
  try rw [hw0]
  clear hw0
  obtain ⟨B, hB⟩ : ∃ B, w.heap.size = B := ⟨_, rfl⟩
  rw [hB] at b0 z0 ⊢
  have hBw : w.heap.size ≤ B := by omega
  clear hB
  have s1 : (fun W' : World => W'.heap[B]? = some (.cells (partC p) 51 (0, 0))) w0.drew := b0
  have z1 : w0.drew.heap[B + 1]? = some (.cells (t2cells zeroT2) 35 (0, 0)) := z0
  have C1 : Ch [] w w0.drew := C0.drew
  refine wp_region_held_drew (S := fun W' => W'.heap[B]? = some (.cells (partC p) 51 (0, 0))) (by kernel_rfl) s1 ?_
  intro _
  simp only [List.size_toArray, List.length_cons, List.length_nil, Nat.reduceAdd]
  clear b0 z0 C0
  obtain ⟨w1, hw1⟩ : ∃ W, w0.drew = W := ⟨_, rfl⟩
  rw [hw1] at s1 z1 C1 ⊢
  clear hw1
  refine tk 0 13 ?_ rfl s1 ?_ ?_; rotate_left
  · intro _ _; go_simp; try with_reducible rfl
  try go_frame
  refine tk 1 14 ?_ rfl s1 ?_ ?_; rotate_left
  · intro _ _; go_simp; try with_reducible rfl
  try go_frame
  refine tk 2 15 ?_ rfl s1 ?_ ?_; rotate_left
  · intro _ _; go_simp; try with_reducible rfl
  try go_frame
  refine tk 3 16 ?_ rfl s1 ?_ ?_; rotate_left
  · intro _ _; go_simp; try with_reducible rfl
  try go_frame
  refine tk 4 17 ?_ rfl s1 ?_ ?_; rotate_left
  · intro _ _; go_simp; try with_reducible rfl
  try go_frame
  refine tk 5 18 ?_ rfl s1 ?_ ?_; rotate_left
  · intro _ _; go_simp; try with_reducible rfl
  try go_frame
  refine tk 6 19 ?_ rfl s1 ?_ ?_; rotate_left
  · intro _ _; go_simp; try with_reducible rfl
  try go_frame
  refine tk 7 20 ?_ rfl s1 ?_ ?_; rotate_left
  · intro _ _; go_simp; try with_reducible rfl
  try go_frame
  refine tk 8 4 ?_ rfl s1 ?_ ?_; rotate_left
  · intro _ _; go_simp; try with_reducible rfl
  try go_frame
  refine tk 9 5 ?_ rfl s1 ?_ ?_; rotate_left
  · intro _ _; go_simp; try with_reducible rfl
  try go_frame
  refine wpAnyH_done (by kernel_rfl) ?_ _
  have b1 := s1
  clear s1
  go_wp2_with fail
  refine (N1 _).mono ?_
  rintro e w2 ⟨rfl, hc2⟩
  have b2 := hkeep hc2 b1
  have z2 := hkeep hc2 z1
  have C2 := C1.trans hc2
  clear b1 z1 C1 hc2 N1
  go_wp2_with fail
  refine (N2 _).mono ?_
  rintro e w3 ⟨rfl, hc3⟩
  have b3 := hkeep hc3 b2
  have z3 := hkeep hc3 z2
  have C3 := C2.trans hc3
  clear b2 z2 C2 hc3 N2
  have nb := nsz b3
  have nz : ¬ B + 1 = w3.heap.size := by have := zad z3; omega
  have hTB : B + 1 < w3.heap.size := zad z3
  go_upto_region 3 with (fail)
  have hc4 := t22_ch w3 zeroT2 ⟨A0, A1⟩
  have t4 := t22_block w3 zeroT2 ⟨A0, A1⟩
  have b4 := hkeep hc4 b3
  have z4 := hkeep hc4 z3
  have C4 := C3.trans hc4
  clear b3 z3 C3 hc4
  obtain ⟨w4, hw4⟩ : ∃ W, World.onObj (w3.alloc (.cells (t2cells zeroT2) 35)) w3.heap.size (laidAt 0 (t2cells ⟨A0, A1⟩)) = W := ⟨_, rfl⟩
  rw [hw4] at t4 b4 z4 C4 ⊢
  clear hw4
  obtain ⟨T, hT⟩ : ∃ T, w3.heap.size = T := ⟨_, rfl⟩
  rw [hT] at t4 nb nz hTB ⊢
  clear hT
  go_wp2_with fail
  refine (T1 _).mono ?_
  rintro e w5 ⟨rfl, hc5⟩
  have b5 := hkeep hc5 b4
  have z5 := hkeep hc5 z4
  have t5 := hkeep hc5 t4
  have C5 := C4.trans hc5
  clear b4 z4 t4 C4 hc5 T1
  cases ff with
  | false =>
    go_wp2
    refine bodyPost_ret (v := .tuple #[.agg (t2cells ⟨A0, A1⟩), .bool false]) (results_c0t Tryz.results181 _ _ _ rfl rfl (run_loadVar_row _ _ 35 35 (t2cells ⟨A0, A1⟩) (0, 0) _ ?_ Tryz.underlying35 rfl (by rw [zcd]; kernel_rfl))) rfl ⟨_, _, rfl, by simp, fun _ => HB.out HF.out, C5.onObj (p := B + 1) (.inr (by omega)) _⟩
    rw [zab, if_pos rfl, z5, Option.map_some, laidAt_t2]
  | true =>
    have HH := Lib.hid (H0.out HF.out)
    clear H0 HF HB nb nz
    go_wp2
    go_loopw [36] (fun i wr => ∃ (j : Nat) (a b : Tab), i = .int .i64 j ∧ j ≤ 16 ∧ HalfAt p j a b ∧ wr.heap[T]? = some (.cells (t2cells ⟨a, b⟩) 35 (0, 0)) ∧ Ch [T] w5 wr) (fun i _ => 16 - (intOf i).toNat)
    case atStart => exact ⟨0, A0, A1, rfl, by omega, HH.out, t5, Ch.refl _ _⟩
    case round =>
      obtain ⟨j, a, b, hj, hj16, hat, t6, D6⟩ := hrel
      subst hj
      have b6 : wr.heap[B]? = some (.cells (partC p) 51 (0, 0)) := hkeepS D6 (by simp; omega) b5
      have z6 : wr.heap[B + 1]? = some (.cells (t2cells zeroT2) 35 (0, 0)) := hkeepS D6 (by simp; omega) z5
      have hwT : w.heap.size ≤ T := by omega
      have h5T : T < w5.heap.size := zad t5
      clear b5 z5 t5 HH hwd
      obtain ⟨w6, hw6⟩ : ∃ W, wr = W := ⟨_, rfl⟩
      rw [hw6] at t6 D6 b6 z6 ⊢
      rcases (show j = 16 ∨ j < 16 by omega) with rfl | hlt
      · have HE := Lib.hid (halfAt_end hat)
        clear hat
        go_wp2
        refine bodyPost_ret (v := .tuple #[.agg (t2cells ⟨a, b⟩), .bool true]) (results_c0t Tryz.results181 _ _ _ rfl rfl (run_loadVar_row _ _ 35 35 (t2cells ⟨a, b⟩) (0, 0) _ ?_ Tryz.underlying35 rfl (by rw [zcd]; kernel_rfl))) rfl ⟨_, _, rfl, fun _ => HE.out, by simp, (C5.trans2 D6 (by simp; omega)).onObj (p := B + 1) (.inr (by omega)) _⟩
        rw [zab, if_pos rfl, z6, Option.map_some, laidAt_t2]
      · have F2 := fun w => r22Full_any p j hlt w
        have hltI : (j : Int) < 16 := by omega
        have hj0 : (0 : Int) ≤ j := by omega
        cases hfu : fullJ (gotS p) j with
        | false =>
          rw [hfu] at F2
          have HN := Lib.hid (halfAt_no hfu hat)
          clear hat hfu
          go_wp2_with fail
          refine (F2 _).mono ?_
          rintro e w7 ⟨rfl, hc7⟩
          have t7 := hkeep hc7 t6
          have D7 := D6.pure hc7
          clear t6 b6 z6 D6 hc7 F2
          go_wp2
          go_roundw
          case rel => exact ⟨j + 1, a, b, by go_num, by omega, HN.out, t7, D7⟩
          case measure => simp [intOf]; omega
        | true =>
          rw [hfu] at F2
          have G1 := fun w => rGoes_any a p.seed (p.k j) hat.ma.flat w
          rw [halfAt_goes hat] at G1
          have ek := part_gk p j hlt
          have ev := part_gv p j hlt
          have PA := Lib.hid (fun w => rPut17_any a p.seed (p.k j) (p.v j) hat.ma w)
          have PB := Lib.hid (fun w => rPut17_any b p.seed (p.k j) (p.v j) hat.mb w)
          have HLE := Lib.hid (fun hg e hp => @halfAt_lerr p j a b e hlt hfu hg hat hp)
          have HLO := Lib.hid (fun hg sl hp => @halfAt_lok p j a b sl hlt hfu hg hat hp)
          have HRE := Lib.hid (fun hg e hp => @halfAt_rerr p j a b e hlt hfu hg hat hp)
          have HRO := Lib.hid (fun hg sl hp => @halfAt_rok p j a b sl hlt hfu hg hat hp)
          unfold putA at PA PB
          clear hat hfu
          obtain ⟨pa, hpa⟩ : ∃ x, placeT a p.seed (p.k j) = x := ⟨_, rfl⟩
          obtain ⟨pb, hpb⟩ : ∃ x, placeT b p.seed (p.k j) = x := ⟨_, rfl⟩
          have EA := Lib.hid (fun c (h : pa = .error c) => place_err22 (hpa.trans h))
          have EB := Lib.hid (fun c (h : pb = .error c) => place_err22 (hpb.trans h))
          rw [hpa] at PA HLE HLO
          rw [hpb] at PB HRE HRO
          clear hpa hpb
          obtain ⟨gg, hgg⟩ : ∃ x, goS p (pairS p j) = x := ⟨_, rfl⟩
          rw [hgg] at G1 HLE HLO HRE HRO
          clear hgg
          obtain ⟨fa, hfa⟩ : ∃ f, (fun sl => fillT a p.seed (p.k j) (p.v j) sl) = f := ⟨_, rfl⟩
          obtain ⟨fb, hfb⟩ : ∃ f, (fun sl => fillT b p.seed (p.k j) (p.v j) sl) = f := ⟨_, rfl⟩
          have hfa : ∀ sl, fillT a p.seed (p.k j) (p.v j) sl = fa sl := fun sl => congrFun hfa sl
          have hfb : ∀ sl, fillT b p.seed (p.k j) (p.v j) sl = fb sl := fun sl => congrFun hfb sl
          simp only [hfa] at PA HLO
          simp only [hfb] at PB HRO
          clear hfa hfb
          obtain ⟨kk, hkk⟩ : ∃ x, p.k j = x := ⟨_, rfl⟩
          obtain ⟨vv, hvv⟩ : ∃ x, p.v j = x := ⟨_, rfl⟩
          rw [hkk] at ek
          rw [hvv] at ev
          rw [hkk] at G1
          rw [hkk, hvv] at PA PB
          clear hkk hvv
          go_wp2_with fail
          refine (F2 _).mono ?_
          rintro e w7 ⟨rfl, hc7⟩
          have t7 := hkeep hc7 t6
          have b7 := hkeep hc7 b6
          have z7 := hkeep hc7 z6
          have D7 := D6.pure hc7
          clear t6 b6 z6 D6 hc7 F2
          go_upto_region 9 with (fail)
          have s8 : (fun W' : World => W'.heap[B]? = some (.cells (partC p) 51 (0, 0))) w7.drew := b7
          have t8 : w7.drew.heap[T]? = some (.cells (t2cells ⟨a, b⟩) 35 (0, 0)) := t7
          have z8 : w7.drew.heap[B + 1]? = some (.cells (t2cells zeroT2) 35 (0, 0)) := z7
          have D8 : Ch [T] w5 w7.drew := D7.drew
          refine wp_region_held_drew (S := fun W' => W'.heap[B]? = some (.cells (partC p) 51 (0, 0))) (by kernel_rfl) s8 ?_
          intro _
          simp only [List.size_toArray, List.length_cons, List.length_nil, Nat.reduceAdd]
          clear b7 t7 z7 D7
          obtain ⟨w8, hw8⟩ : ∃ W, w7.drew = W := ⟨_, rfl⟩
          rw [hw8] at s8 t8 z8 D8 ⊢
          clear hw8
          refine tk 0 43 ?_ rfl s8 ?_ ?_; rotate_left
          · intro _ _; go_simp; try with_reducible rfl
          try go_frame
          refine tk 1 44 ?_ rfl s8 ?_ ?_; rotate_left
          · intro _ _; go_simp; try with_reducible rfl
          try go_frame
          refine tk 2 45 ?_ rfl s8 ?_ ?_; rotate_left
          · intro _ _; go_simp; try with_reducible rfl
          try go_frame
          refine tk 3 46 ?_ rfl s8 ?_ ?_; rotate_left
          · intro _ _; go_simp; try with_reducible rfl
          try go_frame
          refine tk 4 47 ?_ rfl s8 ?_ ?_; rotate_left
          · intro _ _; go_simp; try with_reducible rfl
          try go_frame
          refine tk 5 48 ?_ rfl s8 ?_ ?_; rotate_left
          · intro _ _; go_simp; try with_reducible rfl
          try go_frame
          refine tk 6 49 ?_ rfl s8 ?_ ?_; rotate_left
          · intro _ _; go_simp; try with_reducible rfl
          try go_frame
          refine tk 7 50 ?_ rfl s8 ?_ ?_; rotate_left
          · intro _ _; go_simp; try with_reducible rfl
          try go_frame
          refine tk 8 51 ?_ rfl s8 ?_ ?_; rotate_left
          · intro _ _; go_simp; try with_reducible rfl
          try go_frame
          refine rd (o := ⟨some 8, _, _, _, _, none⟩) 9 rfl (fun K hK => ?_); go_simp
          have hcA : Ch [] w8 (w8.alloc (.cells #[U 0#64, U 0#64] 31)) := (Ch.refl [] w8).alloc _
          refine hK.out _ _ (hkeep hcA s8) (fun _ => ?_)
          clear hK K
          refine rd (o := ⟨none, .store 31 (.tmp 8) (.tmp 51), 0, _, _, none⟩) 10 rfl (fun K hK => ?_); go_simp
          have hcB : Ch [] w8 (World.onObj (w8.alloc (.cells #[U 0#64, U 0#64] 31)) w8.heap.size (laidAt 0 #[U kk, U vv])) := hcA.onObj (.inr (Nat.le_refl _)) _
          have q9 : (World.onObj (w8.alloc (.cells #[U 0#64, U 0#64] 31)) w8.heap.size (laidAt 0 #[U kk, U vv])).heap[w8.heap.size]? = some (.cells #[U kk, U vv] 31 (0, 0)) := by rw [zab, if_pos rfl, zae, if_pos rfl, Option.map_some, laidAt_p]
          have b9 := hkeep hcB s8
          have t9 := hkeep hcB t8
          have z9 := hkeep hcB z8
          have D9 := D8.pure hcB
          refine hK.out _ _ b9 (fun _ => ?_)
          clear hK K s8 t8 z8 D8 hcA hcB ek ev
          obtain ⟨w9, hw9⟩ : ∃ W, World.onObj (w8.alloc (.cells #[U 0#64, U 0#64] 31)) w8.heap.size (laidAt 0 #[U kk, U vv]) = W := ⟨_, rfl⟩
          rw [hw9] at q9 b9 t9 z9 D9 ⊢
          clear hw9
          obtain ⟨Q, hQ⟩ : ∃ Q, w8.heap.size = Q := ⟨_, rfl⟩
          rw [hQ] at q9 ⊢
          clear hQ
          refine wpAnyH_done (by kernel_rfl) ?_ _
          go_wp2_with fail
          refine (G1 _).mono ?_
          rintro e w10 ⟨rfl, hc10⟩
          have b10 := hkeep hc10 b9
          have t10 := hkeep hc10 t9
          have z10 := hkeep hc10 z9
          have q10 := hkeep hc10 q9
          have D10 := D9.pure hc10
          clear b9 t9 z9 q9 D9 hc10 G1
          cases gg with
          | true =>
            clear PB HRE HRO EB
            go_upto_region 13 with (fail)
            cases pa with
            | error c0 =>
              have hc0 := EA.out c0 rfl
              have PA : ∀ w, Calls Tryz.prog 96 #[U p.seed, .agg (tcells a), .agg #[U kk, U vv]] w fun e w' => e = .returned (.tuple #[.agg (tcells zeroT), I 0, I c0]) ∧ Ch [] w w' := PA.out
              have s11 : (fun W' : World => W'.heap[B]? = some (.cells (partC p) 51 (0, 0)) ∧ W'.heap[T]? = some (.cells (t2cells ⟨a, b⟩) 35 (0, 0)) ∧ W'.heap[Q]? = some (.cells #[U kk, U vv] 31 (0, 0))) w10.drew := ⟨b10, t10, q10⟩
              have z11 : w10.drew.heap[B + 1]? = some (.cells (t2cells zeroT2) 35 (0, 0)) := z10
              have D11 : Ch [T] w5 w10.drew := D10.drew
              refine wp_region_held_drew (S := fun W' => W'.heap[B]? = some (.cells (partC p) 51 (0, 0)) ∧ W'.heap[T]? = some (.cells (t2cells ⟨a, b⟩) 35 (0, 0)) ∧ W'.heap[Q]? = some (.cells #[U kk, U vv] 31 (0, 0))) (by kernel_rfl) s11 ?_
              intro _
              simp only [List.size_toArray, List.length_cons, List.length_nil, Nat.reduceAdd]
              clear b10 t10 z10 q10 D10
              obtain ⟨w11, hw11⟩ : ∃ W, w10.drew = W := ⟨_, rfl⟩
              rw [hw11] at s11 z11 D11 ⊢
              clear hw11
              refine tk 0 60 ?_ rfl s11 ?_ ?_; rotate_left
              · intro wq hSq; obtain ⟨hSa, hSb, hSc⟩ := hSq; go_simp; try with_reducible rfl
              try go_frame
              refine tk 1 61 ?_ rfl s11 ?_ ?_; rotate_left
              · intro wq hSq; obtain ⟨hSa, hSb, hSc⟩ := hSq; go_simp; try with_reducible rfl
              try go_frame
              refine tk 2 62 ?_ rfl s11 ?_ ?_; rotate_left
              · intro wq hSq; obtain ⟨hSa, hSb, hSc⟩ := hSq; go_simp; try with_reducible rfl
              try go_frame
              refine tk 3 63 ?_ rfl s11 ?_ ?_; rotate_left
              · intro wq hSq; obtain ⟨hSa, hSb, hSc⟩ := hSq; go_simp; try with_reducible rfl
              try go_frame
              refine tk 4 64 ?_ rfl s11 ?_ ?_; rotate_left
              · intro wq hSq; obtain ⟨hSa, hSb, hSc⟩ := hSq; go_simp; try with_reducible rfl
              try go_frame
              refine tk 5 65 ?_ rfl s11 ?_ ?_; rotate_left
              · intro wq hSq; obtain ⟨hSa, hSb, hSc⟩ := hSq; go_simp; try with_reducible rfl
              try go_frame
              refine wpAnyH_ready (rs := [6, 11]) (by kernel_rfl) (by simp) ?_
              refine AllReadyH.cons (o := ⟨some 66, _, _, _, _, none⟩) rfl (fun K hK => ?_) (AllReadyH.cons (o := ⟨some 10, _, _, _, _, none⟩) rfl (fun K hK => ?_) AllReadyH.nil)
              · go_simp
                refine (PA _).mono ?_
                rintro e w12 ⟨rfl, hc12⟩
                have s12 : (fun W' : World => W'.heap[B]? = some (.cells (partC p) 51 (0, 0)) ∧ W'.heap[T]? = some (.cells (t2cells ⟨a, b⟩) 35 (0, 0)) ∧ W'.heap[Q]? = some (.cells #[U kk, U vv] 31 (0, 0))) w12 := ⟨hkeep hc12 s11.1, hkeep hc12 s11.2.1, hkeep hc12 s11.2.2⟩
                have z12 := hkeep hc12 z11
                have D12 := D11.pure hc12
                refine hK.out _ _ s12 (fun _ => ?_)
                clear hK K s11 z11 D11 hc12 PA
                refine tk 7 59 ?_ rfl s12 ?_ ?_; rotate_left
                · intro _ _; go_simp; try with_reducible rfl
                try go_frame
                refine tk 8 67 ?_ rfl s12 ?_ ?_; rotate_left
                · intro _ _; go_simp; try with_reducible rfl
                try go_frame
                refine tk 9 68 ?_ rfl s12 ?_ ?_; rotate_left
                · intro _ _; go_simp; try with_reducible rfl
                try go_frame
                refine tk 10 69 ?_ rfl s12 ?_ ?_; rotate_left
                · intro _ _; go_simp; try with_reducible rfl
                try go_frame
                refine rd (o := ⟨some 10, _, _, _, _, none⟩) 11 rfl (fun K hK => ?_); go_simp
                have hc13 : Ch [] w12 (w12.alloc (.cells (tcells zeroT) 26)) := (Ch.refl [] w12).alloc _
                have s13 : (fun W' : World => W'.heap[B]? = some (.cells (partC p) 51 (0, 0)) ∧ W'.heap[T]? = some (.cells (t2cells ⟨a, b⟩) 35 (0, 0)) ∧ W'.heap[Q]? = some (.cells #[U kk, U vv] 31 (0, 0))) (w12.alloc (.cells (tcells zeroT) 26)) := ⟨hkeep hc13 s12.1, hkeep hc13 s12.2.1, hkeep hc13 s12.2.2⟩
                have z13 := hkeep hc13 z12
                have D13 := D12.pure hc13
                have d13 : (w12.alloc (.cells (tcells zeroT) 26)).heap[w12.heap.size]? = some (.cells (tcells zeroT) 26 (0, 0)) := by rw [zae, if_pos rfl]
                have nB : ¬ B = w12.heap.size := by have := zad s12.1; omega
                have nT : ¬ T = w12.heap.size := by have := zad s12.2.1; omega
                have nQ : ¬ Q = w12.heap.size := by have := zad s12.2.2; omega
                have nZ : ¬ B + 1 = w12.heap.size := by have := zad z12; omega
                have hD5 := D12.size
                refine hK.out _ _ s13 (fun _ => ?_)
                clear hK K s12 z12 D12 hc13
                obtain ⟨w13, hw13⟩ : ∃ W, w12.alloc (.cells (tcells zeroT) 26) = W := ⟨_, rfl⟩
                rw [hw13] at s13 z13 D13 d13 ⊢
                clear hw13
                obtain ⟨E, hE⟩ : ∃ E, w12.heap.size = E := ⟨_, rfl⟩
                rw [hE] at d13 nB nT nQ nZ hD5 ⊢
                clear hE
                refine rd (o := ⟨none, .store 26 (.tmp 10) (.tmp 67), 0, _, _, none⟩) 12 rfl (fun K hK => ?_); go_simp
                have s14 : (fun W' : World => W'.heap[B]? = some (.cells (partC p) 51 (0, 0)) ∧ W'.heap[T]? = some (.cells (t2cells ⟨a, b⟩) 35 (0, 0)) ∧ W'.heap[Q]? = some (.cells #[U kk, U vv] 31 (0, 0))) (World.onObj w13 E (laidAt 0 (tcells zeroT))) := ⟨by rw [zab, if_neg nB]; exact s13.1, by rw [zab, if_neg nT]; exact s13.2.1, by rw [zab, if_neg nQ]; exact s13.2.2⟩
                have z14 : (World.onObj w13 E (laidAt 0 (tcells zeroT))).heap[B + 1]? = some (.cells (t2cells zeroT2) 35 (0, 0)) := by rw [zab, if_neg nZ]; exact z13
                have d14 : (World.onObj w13 E (laidAt 0 (tcells zeroT))).heap[E]? = some (.cells (tcells zeroT) 26 (0, 0)) := by rw [zab, if_pos rfl, d13, Option.map_some, zco]
                have D14 : Ch [T] w5 (World.onObj w13 E (laidAt 0 (tcells zeroT))) := D13.onObj (p := E) (.inr hD5) _
                refine hK.out _ _ s14 (fun _ => ?_)
                clear hK K s13 z13 D13 d13
                obtain ⟨w14, hw14⟩ : ∃ W, World.onObj w13 E (laidAt 0 (tcells zeroT)) = W := ⟨_, rfl⟩
                rw [hw14] at s14 z14 D14 d14 ⊢
                clear hw14
                refine tk 13 11 ?_ rfl s14 ?_ ?_; rotate_left
                · intro _ _; go_simp; try with_reducible rfl
                try go_frame
                refine tk 14 12 ?_ rfl s14 ?_ ?_; rotate_left
                · intro _ _; go_simp; try with_reducible rfl
                try go_frame
                refine wpAnyH_done (by kernel_rfl) ?_ _
                obtain ⟨b14, t14, q14⟩ := s14
                go_wp2
                refine bodyPost_ret (v := .tuple #[.agg (t2cells ⟨a, b⟩), .bool false]) (results_c0t Tryz.results181 _ _ _ rfl rfl (run_loadVar_row _ _ 35 35 (t2cells ⟨a, b⟩) (0, 0) _ ?_ Tryz.underlying35 rfl (by rw [zcd]; kernel_rfl))) rfl ⟨_, _, rfl, by simp, fun _ => HLE.out (by simp) c0 (by simp), (C5.trans2 D14 (by simp; omega)).onObj (p := B + 1) (.inr (by omega)) _⟩
                rw [zab, if_pos rfl, z14, Option.map_some, laidAt_t2]
              · go_simp
                have hc12 : Ch [] w11 (w11.alloc (.cells (tcells zeroT) 26)) := (Ch.refl [] w11).alloc _
                have s12 : (fun W' : World => W'.heap[B]? = some (.cells (partC p) 51 (0, 0)) ∧ W'.heap[T]? = some (.cells (t2cells ⟨a, b⟩) 35 (0, 0)) ∧ W'.heap[Q]? = some (.cells #[U kk, U vv] 31 (0, 0))) (w11.alloc (.cells (tcells zeroT) 26)) := ⟨hkeep hc12 s11.1, hkeep hc12 s11.2.1, hkeep hc12 s11.2.2⟩
                have z12 := hkeep hc12 z11
                have D12 := D11.pure hc12
                have d12 : (w11.alloc (.cells (tcells zeroT) 26)).heap[w11.heap.size]? = some (.cells (tcells zeroT) 26 (0, 0)) := by rw [zae, if_pos rfl]
                have nB : ¬ B = w11.heap.size := by have := zad s11.1; omega
                have nT : ¬ T = w11.heap.size := by have := zad s11.2.1; omega
                have nQ : ¬ Q = w11.heap.size := by have := zad s11.2.2; omega
                have nZ : ¬ B + 1 = w11.heap.size := by have := zad z11; omega
                have hD5 := D11.size
                refine hK.out _ _ s12 (fun _ => ?_)
                clear hK K s11 z11 D11 hc12
                obtain ⟨w12, hw12⟩ : ∃ W, w11.alloc (.cells (tcells zeroT) 26) = W := ⟨_, rfl⟩
                rw [hw12] at s12 z12 D12 d12 ⊢
                clear hw12
                obtain ⟨E, hE⟩ : ∃ E, w11.heap.size = E := ⟨_, rfl⟩
                rw [hE] at d12 nB nT nQ nZ hD5 ⊢
                clear hE
                refine rd (o := ⟨some 66, _, _, _, _, none⟩) 6 rfl (fun K hK => ?_); go_simp
                refine (PA _).mono ?_
                rintro e w13 ⟨rfl, hc13⟩
                have s13 : (fun W' : World => W'.heap[B]? = some (.cells (partC p) 51 (0, 0)) ∧ W'.heap[T]? = some (.cells (t2cells ⟨a, b⟩) 35 (0, 0)) ∧ W'.heap[Q]? = some (.cells #[U kk, U vv] 31 (0, 0))) w13 := ⟨hkeep hc13 s12.1, hkeep hc13 s12.2.1, hkeep hc13 s12.2.2⟩
                have z13 := hkeep hc13 z12
                have D13 := D12.pure hc13
                have d13 := hkeep hc13 d12
                refine hK.out _ _ s13 (fun _ => ?_)
                clear hK K s12 z12 D12 hc13 PA d12
                refine tk 7 59 ?_ rfl s13 ?_ ?_; rotate_left
                · intro _ _; go_simp; try with_reducible rfl
                try go_frame
                refine tk 8 67 ?_ rfl s13 ?_ ?_; rotate_left
                · intro _ _; go_simp; try with_reducible rfl
                try go_frame
                refine tk 9 68 ?_ rfl s13 ?_ ?_; rotate_left
                · intro _ _; go_simp; try with_reducible rfl
                try go_frame
                refine tk 10 69 ?_ rfl s13 ?_ ?_; rotate_left
                · intro _ _; go_simp; try with_reducible rfl
                try go_frame
                refine rd (o := ⟨none, .store 26 (.tmp 10) (.tmp 67), 0, _, _, none⟩) 12 rfl (fun K hK => ?_); go_simp
                have s14 : (fun W' : World => W'.heap[B]? = some (.cells (partC p) 51 (0, 0)) ∧ W'.heap[T]? = some (.cells (t2cells ⟨a, b⟩) 35 (0, 0)) ∧ W'.heap[Q]? = some (.cells #[U kk, U vv] 31 (0, 0))) (World.onObj w13 E (laidAt 0 (tcells zeroT))) := ⟨by rw [zab, if_neg nB]; exact s13.1, by rw [zab, if_neg nT]; exact s13.2.1, by rw [zab, if_neg nQ]; exact s13.2.2⟩
                have z14 : (World.onObj w13 E (laidAt 0 (tcells zeroT))).heap[B + 1]? = some (.cells (t2cells zeroT2) 35 (0, 0)) := by rw [zab, if_neg nZ]; exact z13
                have d14 : (World.onObj w13 E (laidAt 0 (tcells zeroT))).heap[E]? = some (.cells (tcells zeroT) 26 (0, 0)) := by rw [zab, if_pos rfl, d13, Option.map_some, zco]
                have D14 : Ch [T] w5 (World.onObj w13 E (laidAt 0 (tcells zeroT))) := D13.onObj (p := E) (.inr hD5) _
                refine hK.out _ _ s14 (fun _ => ?_)
                clear hK K s13 z13 D13 d13
                obtain ⟨w14, hw14⟩ : ∃ W, World.onObj w13 E (laidAt 0 (tcells zeroT)) = W := ⟨_, rfl⟩
                rw [hw14] at s14 z14 D14 d14 ⊢
                clear hw14
                refine tk 13 11 ?_ rfl s14 ?_ ?_; rotate_left
                · intro _ _; go_simp; try with_reducible rfl
                try go_frame
                refine tk 14 12 ?_ rfl s14 ?_ ?_; rotate_left
                · intro _ _; go_simp; try with_reducible rfl
                try go_frame
                refine wpAnyH_done (by kernel_rfl) ?_ _
                obtain ⟨b14, t14, q14⟩ := s14
                go_wp2
                refine bodyPost_ret (v := .tuple #[.agg (t2cells ⟨a, b⟩), .bool false]) (results_c0t Tryz.results181 _ _ _ rfl rfl (run_loadVar_row _ _ 35 35 (t2cells ⟨a, b⟩) (0, 0) _ ?_ Tryz.underlying35 rfl (by rw [zcd]; kernel_rfl))) rfl ⟨_, _, rfl, by simp, fun _ => HLE.out (by simp) c0 (by simp), (C5.trans2 D14 (by simp; omega)).onObj (p := B + 1) (.inr (by omega)) _⟩
                rw [zab, if_pos rfl, z14, Option.map_some, laidAt_t2]
            | ok sl =>
              have PA : ∀ w, Calls Tryz.prog 96 #[U p.seed, .agg (tcells a), .agg #[U kk, U vv]] w fun e w' => e = .returned (.tuple #[.agg (tcells (fa sl)), I sl, I 0]) ∧ Ch [] w w' := PA.out
              have s11 : (fun W' : World => W'.heap[B]? = some (.cells (partC p) 51 (0, 0)) ∧ W'.heap[T]? = some (.cells (t2cells ⟨a, b⟩) 35 (0, 0)) ∧ W'.heap[Q]? = some (.cells #[U kk, U vv] 31 (0, 0))) w10.drew := ⟨b10, t10, q10⟩
              have z11 : w10.drew.heap[B + 1]? = some (.cells (t2cells zeroT2) 35 (0, 0)) := z10
              have D11 : Ch [T] w5 w10.drew := D10.drew
              refine wp_region_held_drew (S := fun W' => W'.heap[B]? = some (.cells (partC p) 51 (0, 0)) ∧ W'.heap[T]? = some (.cells (t2cells ⟨a, b⟩) 35 (0, 0)) ∧ W'.heap[Q]? = some (.cells #[U kk, U vv] 31 (0, 0))) (by kernel_rfl) s11 ?_
              intro _
              simp only [List.size_toArray, List.length_cons, List.length_nil, Nat.reduceAdd]
              clear b10 t10 z10 q10 D10
              obtain ⟨w11, hw11⟩ : ∃ W, w10.drew = W := ⟨_, rfl⟩
              rw [hw11] at s11 z11 D11 ⊢
              clear hw11
              refine tk 0 60 ?_ rfl s11 ?_ ?_; rotate_left
              · intro wq hSq; obtain ⟨hSa, hSb, hSc⟩ := hSq; go_simp; try with_reducible rfl
              try go_frame
              refine tk 1 61 ?_ rfl s11 ?_ ?_; rotate_left
              · intro wq hSq; obtain ⟨hSa, hSb, hSc⟩ := hSq; go_simp; try with_reducible rfl
              try go_frame
              refine tk 2 62 ?_ rfl s11 ?_ ?_; rotate_left
              · intro wq hSq; obtain ⟨hSa, hSb, hSc⟩ := hSq; go_simp; try with_reducible rfl
              try go_frame
              refine tk 3 63 ?_ rfl s11 ?_ ?_; rotate_left
              · intro wq hSq; obtain ⟨hSa, hSb, hSc⟩ := hSq; go_simp; try with_reducible rfl
              try go_frame
              refine tk 4 64 ?_ rfl s11 ?_ ?_; rotate_left
              · intro wq hSq; obtain ⟨hSa, hSb, hSc⟩ := hSq; go_simp; try with_reducible rfl
              try go_frame
              refine tk 5 65 ?_ rfl s11 ?_ ?_; rotate_left
              · intro wq hSq; obtain ⟨hSa, hSb, hSc⟩ := hSq; go_simp; try with_reducible rfl
              try go_frame
              refine wpAnyH_ready (rs := [6, 11]) (by kernel_rfl) (by simp) ?_
              refine AllReadyH.cons (o := ⟨some 66, _, _, _, _, none⟩) rfl (fun K hK => ?_) (AllReadyH.cons (o := ⟨some 10, _, _, _, _, none⟩) rfl (fun K hK => ?_) AllReadyH.nil)
              · go_simp
                refine (PA _).mono ?_
                rintro e w12 ⟨rfl, hc12⟩
                have s12 : (fun W' : World => W'.heap[B]? = some (.cells (partC p) 51 (0, 0)) ∧ W'.heap[T]? = some (.cells (t2cells ⟨a, b⟩) 35 (0, 0)) ∧ W'.heap[Q]? = some (.cells #[U kk, U vv] 31 (0, 0))) w12 := ⟨hkeep hc12 s11.1, hkeep hc12 s11.2.1, hkeep hc12 s11.2.2⟩
                have z12 := hkeep hc12 z11
                have D12 := D11.pure hc12
                refine hK.out _ _ s12 (fun _ => ?_)
                clear hK K s11 z11 D11 hc12 PA
                refine tk 7 59 ?_ rfl s12 ?_ ?_; rotate_left
                · intro _ _; go_simp; try with_reducible rfl
                try go_frame
                refine tk 8 67 ?_ rfl s12 ?_ ?_; rotate_left
                · intro _ _; go_simp; try with_reducible rfl
                try go_frame
                refine tk 9 68 ?_ rfl s12 ?_ ?_; rotate_left
                · intro _ _; go_simp; try with_reducible rfl
                try go_frame
                refine tk 10 69 ?_ rfl s12 ?_ ?_; rotate_left
                · intro _ _; go_simp; try with_reducible rfl
                try go_frame
                refine rd (o := ⟨some 10, _, _, _, _, none⟩) 11 rfl (fun K hK => ?_); go_simp
                have hc13 : Ch [] w12 (w12.alloc (.cells (tcells zeroT) 26)) := (Ch.refl [] w12).alloc _
                have s13 : (fun W' : World => W'.heap[B]? = some (.cells (partC p) 51 (0, 0)) ∧ W'.heap[T]? = some (.cells (t2cells ⟨a, b⟩) 35 (0, 0)) ∧ W'.heap[Q]? = some (.cells #[U kk, U vv] 31 (0, 0))) (w12.alloc (.cells (tcells zeroT) 26)) := ⟨hkeep hc13 s12.1, hkeep hc13 s12.2.1, hkeep hc13 s12.2.2⟩
                have z13 := hkeep hc13 z12
                have D13 := D12.pure hc13
                have d13 : (w12.alloc (.cells (tcells zeroT) 26)).heap[w12.heap.size]? = some (.cells (tcells zeroT) 26 (0, 0)) := by rw [zae, if_pos rfl]
                have nB : ¬ B = w12.heap.size := by have := zad s12.1; omega
                have nT : ¬ T = w12.heap.size := by have := zad s12.2.1; omega
                have nQ : ¬ Q = w12.heap.size := by have := zad s12.2.2; omega
                have nZ : ¬ B + 1 = w12.heap.size := by have := zad z12; omega
                have hD5 := D12.size
                refine hK.out _ _ s13 (fun _ => ?_)
                clear hK K s12 z12 D12 hc13
                obtain ⟨w13, hw13⟩ : ∃ W, w12.alloc (.cells (tcells zeroT) 26) = W := ⟨_, rfl⟩
                rw [hw13] at s13 z13 D13 d13 ⊢
                clear hw13
                obtain ⟨E, hE⟩ : ∃ E, w12.heap.size = E := ⟨_, rfl⟩
                rw [hE] at d13 nB nT nQ nZ hD5 ⊢
                clear hE
                refine rd (o := ⟨none, .store 26 (.tmp 10) (.tmp 67), 0, _, _, none⟩) 12 rfl (fun K hK => ?_); go_simp
                have s14 : (fun W' : World => W'.heap[B]? = some (.cells (partC p) 51 (0, 0)) ∧ W'.heap[T]? = some (.cells (t2cells ⟨a, b⟩) 35 (0, 0)) ∧ W'.heap[Q]? = some (.cells #[U kk, U vv] 31 (0, 0))) (World.onObj w13 E (laidAt 0 (tcells (fa sl)))) := ⟨by rw [zab, if_neg nB]; exact s13.1, by rw [zab, if_neg nT]; exact s13.2.1, by rw [zab, if_neg nQ]; exact s13.2.2⟩
                have z14 : (World.onObj w13 E (laidAt 0 (tcells (fa sl)))).heap[B + 1]? = some (.cells (t2cells zeroT2) 35 (0, 0)) := by rw [zab, if_neg nZ]; exact z13
                have d14 : (World.onObj w13 E (laidAt 0 (tcells (fa sl)))).heap[E]? = some (.cells (tcells (fa sl)) 26 (0, 0)) := by rw [zab, if_pos rfl, d13, Option.map_some, zco]
                have D14 : Ch [T] w5 (World.onObj w13 E (laidAt 0 (tcells (fa sl)))) := D13.onObj (p := E) (.inr hD5) _
                refine hK.out _ _ s14 (fun _ => ?_)
                clear hK K s13 z13 D13 d13
                obtain ⟨w14, hw14⟩ : ∃ W, World.onObj w13 E (laidAt 0 (tcells (fa sl))) = W := ⟨_, rfl⟩
                rw [hw14] at s14 z14 D14 d14 ⊢
                clear hw14
                refine tk 13 11 ?_ rfl s14 ?_ ?_; rotate_left
                · intro _ _; go_simp; try with_reducible rfl
                try go_frame
                refine tk 14 12 ?_ rfl s14 ?_ ?_; rotate_left
                · intro _ _; go_simp; try with_reducible rfl
                try go_frame
                refine wpAnyH_done (by kernel_rfl) ?_ _
                obtain ⟨b14, t14, q14⟩ := s14
                go_wp2
                go_roundw
                case rel => exact ⟨j + 1, fa sl, b, by go_num, by omega, HLO.out (by simp) sl (by simp), by rw [zab, if_pos rfl, t14, Option.map_some, laid_l], D14.onObj (.inl (by simp)) _⟩
                case measure => simp [intOf]; omega
              · go_simp
                have hc12 : Ch [] w11 (w11.alloc (.cells (tcells zeroT) 26)) := (Ch.refl [] w11).alloc _
                have s12 : (fun W' : World => W'.heap[B]? = some (.cells (partC p) 51 (0, 0)) ∧ W'.heap[T]? = some (.cells (t2cells ⟨a, b⟩) 35 (0, 0)) ∧ W'.heap[Q]? = some (.cells #[U kk, U vv] 31 (0, 0))) (w11.alloc (.cells (tcells zeroT) 26)) := ⟨hkeep hc12 s11.1, hkeep hc12 s11.2.1, hkeep hc12 s11.2.2⟩
                have z12 := hkeep hc12 z11
                have D12 := D11.pure hc12
                have d12 : (w11.alloc (.cells (tcells zeroT) 26)).heap[w11.heap.size]? = some (.cells (tcells zeroT) 26 (0, 0)) := by rw [zae, if_pos rfl]
                have nB : ¬ B = w11.heap.size := by have := zad s11.1; omega
                have nT : ¬ T = w11.heap.size := by have := zad s11.2.1; omega
                have nQ : ¬ Q = w11.heap.size := by have := zad s11.2.2; omega
                have nZ : ¬ B + 1 = w11.heap.size := by have := zad z11; omega
                have hD5 := D11.size
                refine hK.out _ _ s12 (fun _ => ?_)
                clear hK K s11 z11 D11 hc12
                obtain ⟨w12, hw12⟩ : ∃ W, w11.alloc (.cells (tcells zeroT) 26) = W := ⟨_, rfl⟩
                rw [hw12] at s12 z12 D12 d12 ⊢
                clear hw12
                obtain ⟨E, hE⟩ : ∃ E, w11.heap.size = E := ⟨_, rfl⟩
                rw [hE] at d12 nB nT nQ nZ hD5 ⊢
                clear hE
                refine rd (o := ⟨some 66, _, _, _, _, none⟩) 6 rfl (fun K hK => ?_); go_simp
                refine (PA _).mono ?_
                rintro e w13 ⟨rfl, hc13⟩
                have s13 : (fun W' : World => W'.heap[B]? = some (.cells (partC p) 51 (0, 0)) ∧ W'.heap[T]? = some (.cells (t2cells ⟨a, b⟩) 35 (0, 0)) ∧ W'.heap[Q]? = some (.cells #[U kk, U vv] 31 (0, 0))) w13 := ⟨hkeep hc13 s12.1, hkeep hc13 s12.2.1, hkeep hc13 s12.2.2⟩
                have z13 := hkeep hc13 z12
                have D13 := D12.pure hc13
                have d13 := hkeep hc13 d12
                refine hK.out _ _ s13 (fun _ => ?_)
                clear hK K s12 z12 D12 hc13 PA d12
                refine tk 7 59 ?_ rfl s13 ?_ ?_; rotate_left
                · intro _ _; go_simp; try with_reducible rfl
                try go_frame
                refine tk 8 67 ?_ rfl s13 ?_ ?_; rotate_left
                · intro _ _; go_simp; try with_reducible rfl
                try go_frame
                refine tk 9 68 ?_ rfl s13 ?_ ?_; rotate_left
                · intro _ _; go_simp; try with_reducible rfl
                try go_frame
                refine tk 10 69 ?_ rfl s13 ?_ ?_; rotate_left
                · intro _ _; go_simp; try with_reducible rfl
                try go_frame
                refine rd (o := ⟨none, .store 26 (.tmp 10) (.tmp 67), 0, _, _, none⟩) 12 rfl (fun K hK => ?_); go_simp
                have s14 : (fun W' : World => W'.heap[B]? = some (.cells (partC p) 51 (0, 0)) ∧ W'.heap[T]? = some (.cells (t2cells ⟨a, b⟩) 35 (0, 0)) ∧ W'.heap[Q]? = some (.cells #[U kk, U vv] 31 (0, 0))) (World.onObj w13 E (laidAt 0 (tcells (fa sl)))) := ⟨by rw [zab, if_neg nB]; exact s13.1, by rw [zab, if_neg nT]; exact s13.2.1, by rw [zab, if_neg nQ]; exact s13.2.2⟩
                have z14 : (World.onObj w13 E (laidAt 0 (tcells (fa sl)))).heap[B + 1]? = some (.cells (t2cells zeroT2) 35 (0, 0)) := by rw [zab, if_neg nZ]; exact z13
                have d14 : (World.onObj w13 E (laidAt 0 (tcells (fa sl)))).heap[E]? = some (.cells (tcells (fa sl)) 26 (0, 0)) := by rw [zab, if_pos rfl, d13, Option.map_some, zco]
                have D14 : Ch [T] w5 (World.onObj w13 E (laidAt 0 (tcells (fa sl)))) := D13.onObj (p := E) (.inr hD5) _
                refine hK.out _ _ s14 (fun _ => ?_)
                clear hK K s13 z13 D13 d13
                obtain ⟨w14, hw14⟩ : ∃ W, World.onObj w13 E (laidAt 0 (tcells (fa sl))) = W := ⟨_, rfl⟩
                rw [hw14] at s14 z14 D14 d14 ⊢
                clear hw14
                refine tk 13 11 ?_ rfl s14 ?_ ?_; rotate_left
                · intro _ _; go_simp; try with_reducible rfl
                try go_frame
                refine tk 14 12 ?_ rfl s14 ?_ ?_; rotate_left
                · intro _ _; go_simp; try with_reducible rfl
                try go_frame
                refine wpAnyH_done (by kernel_rfl) ?_ _
                obtain ⟨b14, t14, q14⟩ := s14
                go_wp2
                go_roundw
                case rel => exact ⟨j + 1, fa sl, b, by go_num, by omega, HLO.out (by simp) sl (by simp), by rw [zab, if_pos rfl, t14, Option.map_some, laid_l], D14.onObj (.inl (by simp)) _⟩
                case measure => simp [intOf]; omega
          | false =>
            clear PA HLE HLO EA
            go_upto_region 13 with (fail)
            cases pb with
            | error c0 =>
              have hc0 := EB.out c0 rfl
              have PB : ∀ w, Calls Tryz.prog 96 #[U p.seed, .agg (tcells b), .agg #[U kk, U vv]] w fun e w' => e = .returned (.tuple #[.agg (tcells zeroT), I 0, I c0]) ∧ Ch [] w w' := PB.out
              have s11 : (fun W' : World => W'.heap[B]? = some (.cells (partC p) 51 (0, 0)) ∧ W'.heap[T]? = some (.cells (t2cells ⟨a, b⟩) 35 (0, 0)) ∧ W'.heap[Q]? = some (.cells #[U kk, U vv] 31 (0, 0))) w10.drew := ⟨b10, t10, q10⟩
              have z11 : w10.drew.heap[B + 1]? = some (.cells (t2cells zeroT2) 35 (0, 0)) := z10
              have D11 : Ch [T] w5 w10.drew := D10.drew
              refine wp_region_held_drew (S := fun W' => W'.heap[B]? = some (.cells (partC p) 51 (0, 0)) ∧ W'.heap[T]? = some (.cells (t2cells ⟨a, b⟩) 35 (0, 0)) ∧ W'.heap[Q]? = some (.cells #[U kk, U vv] 31 (0, 0))) (by kernel_rfl) s11 ?_
              intro _
              simp only [List.size_toArray, List.length_cons, List.length_nil, Nat.reduceAdd]
              clear b10 t10 z10 q10 D10
              obtain ⟨w11, hw11⟩ : ∃ W, w10.drew = W := ⟨_, rfl⟩
              rw [hw11] at s11 z11 D11 ⊢
              clear hw11
              refine tk 0 60 ?_ rfl s11 ?_ ?_; rotate_left
              · intro wq hSq; obtain ⟨hSa, hSb, hSc⟩ := hSq; go_simp; try with_reducible rfl
              try go_frame
              refine tk 1 61 ?_ rfl s11 ?_ ?_; rotate_left
              · intro wq hSq; obtain ⟨hSa, hSb, hSc⟩ := hSq; go_simp; try with_reducible rfl
              try go_frame
              refine tk 2 62 ?_ rfl s11 ?_ ?_; rotate_left
              · intro wq hSq; obtain ⟨hSa, hSb, hSc⟩ := hSq; go_simp; try with_reducible rfl
              try go_frame
              refine tk 3 63 ?_ rfl s11 ?_ ?_; rotate_left
              · intro wq hSq; obtain ⟨hSa, hSb, hSc⟩ := hSq; go_simp; try with_reducible rfl
              try go_frame
              refine tk 4 64 ?_ rfl s11 ?_ ?_; rotate_left
              · intro wq hSq; obtain ⟨hSa, hSb, hSc⟩ := hSq; go_simp; try with_reducible rfl
              try go_frame
              refine tk 5 65 ?_ rfl s11 ?_ ?_; rotate_left
              · intro wq hSq; obtain ⟨hSa, hSb, hSc⟩ := hSq; go_simp; try with_reducible rfl
              try go_frame
              refine wpAnyH_ready (rs := [6, 11]) (by kernel_rfl) (by simp) ?_
              refine AllReadyH.cons (o := ⟨some 66, _, _, _, _, none⟩) rfl (fun K hK => ?_) (AllReadyH.cons (o := ⟨some 10, _, _, _, _, none⟩) rfl (fun K hK => ?_) AllReadyH.nil)
              · go_simp
                refine (PB _).mono ?_
                rintro e w12 ⟨rfl, hc12⟩
                have s12 : (fun W' : World => W'.heap[B]? = some (.cells (partC p) 51 (0, 0)) ∧ W'.heap[T]? = some (.cells (t2cells ⟨a, b⟩) 35 (0, 0)) ∧ W'.heap[Q]? = some (.cells #[U kk, U vv] 31 (0, 0))) w12 := ⟨hkeep hc12 s11.1, hkeep hc12 s11.2.1, hkeep hc12 s11.2.2⟩
                have z12 := hkeep hc12 z11
                have D12 := D11.pure hc12
                refine hK.out _ _ s12 (fun _ => ?_)
                clear hK K s11 z11 D11 hc12 PB
                refine tk 7 59 ?_ rfl s12 ?_ ?_; rotate_left
                · intro _ _; go_simp; try with_reducible rfl
                try go_frame
                refine tk 8 67 ?_ rfl s12 ?_ ?_; rotate_left
                · intro _ _; go_simp; try with_reducible rfl
                try go_frame
                refine tk 9 68 ?_ rfl s12 ?_ ?_; rotate_left
                · intro _ _; go_simp; try with_reducible rfl
                try go_frame
                refine tk 10 69 ?_ rfl s12 ?_ ?_; rotate_left
                · intro _ _; go_simp; try with_reducible rfl
                try go_frame
                refine rd (o := ⟨some 10, _, _, _, _, none⟩) 11 rfl (fun K hK => ?_); go_simp
                have hc13 : Ch [] w12 (w12.alloc (.cells (tcells zeroT) 26)) := (Ch.refl [] w12).alloc _
                have s13 : (fun W' : World => W'.heap[B]? = some (.cells (partC p) 51 (0, 0)) ∧ W'.heap[T]? = some (.cells (t2cells ⟨a, b⟩) 35 (0, 0)) ∧ W'.heap[Q]? = some (.cells #[U kk, U vv] 31 (0, 0))) (w12.alloc (.cells (tcells zeroT) 26)) := ⟨hkeep hc13 s12.1, hkeep hc13 s12.2.1, hkeep hc13 s12.2.2⟩
                have z13 := hkeep hc13 z12
                have D13 := D12.pure hc13
                have d13 : (w12.alloc (.cells (tcells zeroT) 26)).heap[w12.heap.size]? = some (.cells (tcells zeroT) 26 (0, 0)) := by rw [zae, if_pos rfl]
                have nB : ¬ B = w12.heap.size := by have := zad s12.1; omega
                have nT : ¬ T = w12.heap.size := by have := zad s12.2.1; omega
                have nQ : ¬ Q = w12.heap.size := by have := zad s12.2.2; omega
                have nZ : ¬ B + 1 = w12.heap.size := by have := zad z12; omega
                have hD5 := D12.size
                refine hK.out _ _ s13 (fun _ => ?_)
                clear hK K s12 z12 D12 hc13
                obtain ⟨w13, hw13⟩ : ∃ W, w12.alloc (.cells (tcells zeroT) 26) = W := ⟨_, rfl⟩
                rw [hw13] at s13 z13 D13 d13 ⊢
                clear hw13
                obtain ⟨E, hE⟩ : ∃ E, w12.heap.size = E := ⟨_, rfl⟩
                rw [hE] at d13 nB nT nQ nZ hD5 ⊢
                clear hE
                refine rd (o := ⟨none, .store 26 (.tmp 10) (.tmp 67), 0, _, _, none⟩) 12 rfl (fun K hK => ?_); go_simp
                have s14 : (fun W' : World => W'.heap[B]? = some (.cells (partC p) 51 (0, 0)) ∧ W'.heap[T]? = some (.cells (t2cells ⟨a, b⟩) 35 (0, 0)) ∧ W'.heap[Q]? = some (.cells #[U kk, U vv] 31 (0, 0))) (World.onObj w13 E (laidAt 0 (tcells zeroT))) := ⟨by rw [zab, if_neg nB]; exact s13.1, by rw [zab, if_neg nT]; exact s13.2.1, by rw [zab, if_neg nQ]; exact s13.2.2⟩
                have z14 : (World.onObj w13 E (laidAt 0 (tcells zeroT))).heap[B + 1]? = some (.cells (t2cells zeroT2) 35 (0, 0)) := by rw [zab, if_neg nZ]; exact z13
                have d14 : (World.onObj w13 E (laidAt 0 (tcells zeroT))).heap[E]? = some (.cells (tcells zeroT) 26 (0, 0)) := by rw [zab, if_pos rfl, d13, Option.map_some, zco]
                have D14 : Ch [T] w5 (World.onObj w13 E (laidAt 0 (tcells zeroT))) := D13.onObj (p := E) (.inr hD5) _
                refine hK.out _ _ s14 (fun _ => ?_)
                clear hK K s13 z13 D13 d13
                obtain ⟨w14, hw14⟩ : ∃ W, World.onObj w13 E (laidAt 0 (tcells zeroT)) = W := ⟨_, rfl⟩
                rw [hw14] at s14 z14 D14 d14 ⊢
                clear hw14
                refine tk 13 11 ?_ rfl s14 ?_ ?_; rotate_left
                · intro _ _; go_simp; try with_reducible rfl
                try go_frame
                refine tk 14 12 ?_ rfl s14 ?_ ?_; rotate_left
                · intro _ _; go_simp; try with_reducible rfl
                try go_frame
                refine wpAnyH_done (by kernel_rfl) ?_ _
                obtain ⟨b14, t14, q14⟩ := s14
                go_wp2
                refine bodyPost_ret (v := .tuple #[.agg (t2cells ⟨a, b⟩), .bool false]) (results_c0t Tryz.results181 _ _ _ rfl rfl (run_loadVar_row _ _ 35 35 (t2cells ⟨a, b⟩) (0, 0) _ ?_ Tryz.underlying35 rfl (by rw [zcd]; kernel_rfl))) rfl ⟨_, _, rfl, by simp, fun _ => HRE.out (by simp) c0 (by simp), (C5.trans2 D14 (by simp; omega)).onObj (p := B + 1) (.inr (by omega)) _⟩
                rw [zab, if_pos rfl, z14, Option.map_some, laidAt_t2]
              · go_simp
                have hc12 : Ch [] w11 (w11.alloc (.cells (tcells zeroT) 26)) := (Ch.refl [] w11).alloc _
                have s12 : (fun W' : World => W'.heap[B]? = some (.cells (partC p) 51 (0, 0)) ∧ W'.heap[T]? = some (.cells (t2cells ⟨a, b⟩) 35 (0, 0)) ∧ W'.heap[Q]? = some (.cells #[U kk, U vv] 31 (0, 0))) (w11.alloc (.cells (tcells zeroT) 26)) := ⟨hkeep hc12 s11.1, hkeep hc12 s11.2.1, hkeep hc12 s11.2.2⟩
                have z12 := hkeep hc12 z11
                have D12 := D11.pure hc12
                have d12 : (w11.alloc (.cells (tcells zeroT) 26)).heap[w11.heap.size]? = some (.cells (tcells zeroT) 26 (0, 0)) := by rw [zae, if_pos rfl]
                have nB : ¬ B = w11.heap.size := by have := zad s11.1; omega
                have nT : ¬ T = w11.heap.size := by have := zad s11.2.1; omega
                have nQ : ¬ Q = w11.heap.size := by have := zad s11.2.2; omega
                have nZ : ¬ B + 1 = w11.heap.size := by have := zad z11; omega
                have hD5 := D11.size
                refine hK.out _ _ s12 (fun _ => ?_)
                clear hK K s11 z11 D11 hc12
                obtain ⟨w12, hw12⟩ : ∃ W, w11.alloc (.cells (tcells zeroT) 26) = W := ⟨_, rfl⟩
                rw [hw12] at s12 z12 D12 d12 ⊢
                clear hw12
                obtain ⟨E, hE⟩ : ∃ E, w11.heap.size = E := ⟨_, rfl⟩
                rw [hE] at d12 nB nT nQ nZ hD5 ⊢
                clear hE
                refine rd (o := ⟨some 66, _, _, _, _, none⟩) 6 rfl (fun K hK => ?_); go_simp
                refine (PB _).mono ?_
                rintro e w13 ⟨rfl, hc13⟩
                have s13 : (fun W' : World => W'.heap[B]? = some (.cells (partC p) 51 (0, 0)) ∧ W'.heap[T]? = some (.cells (t2cells ⟨a, b⟩) 35 (0, 0)) ∧ W'.heap[Q]? = some (.cells #[U kk, U vv] 31 (0, 0))) w13 := ⟨hkeep hc13 s12.1, hkeep hc13 s12.2.1, hkeep hc13 s12.2.2⟩
                have z13 := hkeep hc13 z12
                have D13 := D12.pure hc13
                have d13 := hkeep hc13 d12
                refine hK.out _ _ s13 (fun _ => ?_)
                clear hK K s12 z12 D12 hc13 PB d12
                refine tk 7 59 ?_ rfl s13 ?_ ?_; rotate_left
                · intro _ _; go_simp; try with_reducible rfl
                try go_frame
                refine tk 8 67 ?_ rfl s13 ?_ ?_; rotate_left
                · intro _ _; go_simp; try with_reducible rfl
                try go_frame
                refine tk 9 68 ?_ rfl s13 ?_ ?_; rotate_left
                · intro _ _; go_simp; try with_reducible rfl
                try go_frame
                refine tk 10 69 ?_ rfl s13 ?_ ?_; rotate_left
                · intro _ _; go_simp; try with_reducible rfl
                try go_frame
                refine rd (o := ⟨none, .store 26 (.tmp 10) (.tmp 67), 0, _, _, none⟩) 12 rfl (fun K hK => ?_); go_simp
                have s14 : (fun W' : World => W'.heap[B]? = some (.cells (partC p) 51 (0, 0)) ∧ W'.heap[T]? = some (.cells (t2cells ⟨a, b⟩) 35 (0, 0)) ∧ W'.heap[Q]? = some (.cells #[U kk, U vv] 31 (0, 0))) (World.onObj w13 E (laidAt 0 (tcells zeroT))) := ⟨by rw [zab, if_neg nB]; exact s13.1, by rw [zab, if_neg nT]; exact s13.2.1, by rw [zab, if_neg nQ]; exact s13.2.2⟩
                have z14 : (World.onObj w13 E (laidAt 0 (tcells zeroT))).heap[B + 1]? = some (.cells (t2cells zeroT2) 35 (0, 0)) := by rw [zab, if_neg nZ]; exact z13
                have d14 : (World.onObj w13 E (laidAt 0 (tcells zeroT))).heap[E]? = some (.cells (tcells zeroT) 26 (0, 0)) := by rw [zab, if_pos rfl, d13, Option.map_some, zco]
                have D14 : Ch [T] w5 (World.onObj w13 E (laidAt 0 (tcells zeroT))) := D13.onObj (p := E) (.inr hD5) _
                refine hK.out _ _ s14 (fun _ => ?_)
                clear hK K s13 z13 D13 d13
                obtain ⟨w14, hw14⟩ : ∃ W, World.onObj w13 E (laidAt 0 (tcells zeroT)) = W := ⟨_, rfl⟩
                rw [hw14] at s14 z14 D14 d14 ⊢
                clear hw14
                refine tk 13 11 ?_ rfl s14 ?_ ?_; rotate_left
                · intro _ _; go_simp; try with_reducible rfl
                try go_frame
                refine tk 14 12 ?_ rfl s14 ?_ ?_; rotate_left
                · intro _ _; go_simp; try with_reducible rfl
                try go_frame
                refine wpAnyH_done (by kernel_rfl) ?_ _
                obtain ⟨b14, t14, q14⟩ := s14
                go_wp2
                refine bodyPost_ret (v := .tuple #[.agg (t2cells ⟨a, b⟩), .bool false]) (results_c0t Tryz.results181 _ _ _ rfl rfl (run_loadVar_row _ _ 35 35 (t2cells ⟨a, b⟩) (0, 0) _ ?_ Tryz.underlying35 rfl (by rw [zcd]; kernel_rfl))) rfl ⟨_, _, rfl, by simp, fun _ => HRE.out (by simp) c0 (by simp), (C5.trans2 D14 (by simp; omega)).onObj (p := B + 1) (.inr (by omega)) _⟩
                rw [zab, if_pos rfl, z14, Option.map_some, laidAt_t2]
            | ok sl =>
              have PB : ∀ w, Calls Tryz.prog 96 #[U p.seed, .agg (tcells b), .agg #[U kk, U vv]] w fun e w' => e = .returned (.tuple #[.agg (tcells (fb sl)), I sl, I 0]) ∧ Ch [] w w' := PB.out
              have s11 : (fun W' : World => W'.heap[B]? = some (.cells (partC p) 51 (0, 0)) ∧ W'.heap[T]? = some (.cells (t2cells ⟨a, b⟩) 35 (0, 0)) ∧ W'.heap[Q]? = some (.cells #[U kk, U vv] 31 (0, 0))) w10.drew := ⟨b10, t10, q10⟩
              have z11 : w10.drew.heap[B + 1]? = some (.cells (t2cells zeroT2) 35 (0, 0)) := z10
              have D11 : Ch [T] w5 w10.drew := D10.drew
              refine wp_region_held_drew (S := fun W' => W'.heap[B]? = some (.cells (partC p) 51 (0, 0)) ∧ W'.heap[T]? = some (.cells (t2cells ⟨a, b⟩) 35 (0, 0)) ∧ W'.heap[Q]? = some (.cells #[U kk, U vv] 31 (0, 0))) (by kernel_rfl) s11 ?_
              intro _
              simp only [List.size_toArray, List.length_cons, List.length_nil, Nat.reduceAdd]
              clear b10 t10 z10 q10 D10
              obtain ⟨w11, hw11⟩ : ∃ W, w10.drew = W := ⟨_, rfl⟩
              rw [hw11] at s11 z11 D11 ⊢
              clear hw11
              refine tk 0 60 ?_ rfl s11 ?_ ?_; rotate_left
              · intro wq hSq; obtain ⟨hSa, hSb, hSc⟩ := hSq; go_simp; try with_reducible rfl
              try go_frame
              refine tk 1 61 ?_ rfl s11 ?_ ?_; rotate_left
              · intro wq hSq; obtain ⟨hSa, hSb, hSc⟩ := hSq; go_simp; try with_reducible rfl
              try go_frame
              refine tk 2 62 ?_ rfl s11 ?_ ?_; rotate_left
              · intro wq hSq; obtain ⟨hSa, hSb, hSc⟩ := hSq; go_simp; try with_reducible rfl
              try go_frame
              refine tk 3 63 ?_ rfl s11 ?_ ?_; rotate_left
              · intro wq hSq; obtain ⟨hSa, hSb, hSc⟩ := hSq; go_simp; try with_reducible rfl
              try go_frame
              refine tk 4 64 ?_ rfl s11 ?_ ?_; rotate_left
              · intro wq hSq; obtain ⟨hSa, hSb, hSc⟩ := hSq; go_simp; try with_reducible rfl
              try go_frame
              refine tk 5 65 ?_ rfl s11 ?_ ?_; rotate_left
              · intro wq hSq; obtain ⟨hSa, hSb, hSc⟩ := hSq; go_simp; try with_reducible rfl
              try go_frame
              refine wpAnyH_ready (rs := [6, 11]) (by kernel_rfl) (by simp) ?_
              refine AllReadyH.cons (o := ⟨some 66, _, _, _, _, none⟩) rfl (fun K hK => ?_) (AllReadyH.cons (o := ⟨some 10, _, _, _, _, none⟩) rfl (fun K hK => ?_) AllReadyH.nil)
              · go_simp
                refine (PB _).mono ?_
                rintro e w12 ⟨rfl, hc12⟩
                have s12 : (fun W' : World => W'.heap[B]? = some (.cells (partC p) 51 (0, 0)) ∧ W'.heap[T]? = some (.cells (t2cells ⟨a, b⟩) 35 (0, 0)) ∧ W'.heap[Q]? = some (.cells #[U kk, U vv] 31 (0, 0))) w12 := ⟨hkeep hc12 s11.1, hkeep hc12 s11.2.1, hkeep hc12 s11.2.2⟩
                have z12 := hkeep hc12 z11
                have D12 := D11.pure hc12
                refine hK.out _ _ s12 (fun _ => ?_)
                clear hK K s11 z11 D11 hc12 PB
                refine tk 7 59 ?_ rfl s12 ?_ ?_; rotate_left
                · intro _ _; go_simp; try with_reducible rfl
                try go_frame
                refine tk 8 67 ?_ rfl s12 ?_ ?_; rotate_left
                · intro _ _; go_simp; try with_reducible rfl
                try go_frame
                refine tk 9 68 ?_ rfl s12 ?_ ?_; rotate_left
                · intro _ _; go_simp; try with_reducible rfl
                try go_frame
                refine tk 10 69 ?_ rfl s12 ?_ ?_; rotate_left
                · intro _ _; go_simp; try with_reducible rfl
                try go_frame
                refine rd (o := ⟨some 10, _, _, _, _, none⟩) 11 rfl (fun K hK => ?_); go_simp
                have hc13 : Ch [] w12 (w12.alloc (.cells (tcells zeroT) 26)) := (Ch.refl [] w12).alloc _
                have s13 : (fun W' : World => W'.heap[B]? = some (.cells (partC p) 51 (0, 0)) ∧ W'.heap[T]? = some (.cells (t2cells ⟨a, b⟩) 35 (0, 0)) ∧ W'.heap[Q]? = some (.cells #[U kk, U vv] 31 (0, 0))) (w12.alloc (.cells (tcells zeroT) 26)) := ⟨hkeep hc13 s12.1, hkeep hc13 s12.2.1, hkeep hc13 s12.2.2⟩
                have z13 := hkeep hc13 z12
                have D13 := D12.pure hc13
                have d13 : (w12.alloc (.cells (tcells zeroT) 26)).heap[w12.heap.size]? = some (.cells (tcells zeroT) 26 (0, 0)) := by rw [zae, if_pos rfl]
                have nB : ¬ B = w12.heap.size := by have := zad s12.1; omega
                have nT : ¬ T = w12.heap.size := by have := zad s12.2.1; omega
                have nQ : ¬ Q = w12.heap.size := by have := zad s12.2.2; omega
                have nZ : ¬ B + 1 = w12.heap.size := by have := zad z12; omega
                have hD5 := D12.size
                refine hK.out _ _ s13 (fun _ => ?_)
                clear hK K s12 z12 D12 hc13
                obtain ⟨w13, hw13⟩ : ∃ W, w12.alloc (.cells (tcells zeroT) 26) = W := ⟨_, rfl⟩
                rw [hw13] at s13 z13 D13 d13 ⊢
                clear hw13
                obtain ⟨E, hE⟩ : ∃ E, w12.heap.size = E := ⟨_, rfl⟩
                rw [hE] at d13 nB nT nQ nZ hD5 ⊢
                clear hE
                refine rd (o := ⟨none, .store 26 (.tmp 10) (.tmp 67), 0, _, _, none⟩) 12 rfl (fun K hK => ?_); go_simp
                have s14 : (fun W' : World => W'.heap[B]? = some (.cells (partC p) 51 (0, 0)) ∧ W'.heap[T]? = some (.cells (t2cells ⟨a, b⟩) 35 (0, 0)) ∧ W'.heap[Q]? = some (.cells #[U kk, U vv] 31 (0, 0))) (World.onObj w13 E (laidAt 0 (tcells (fb sl)))) := ⟨by rw [zab, if_neg nB]; exact s13.1, by rw [zab, if_neg nT]; exact s13.2.1, by rw [zab, if_neg nQ]; exact s13.2.2⟩
                have z14 : (World.onObj w13 E (laidAt 0 (tcells (fb sl)))).heap[B + 1]? = some (.cells (t2cells zeroT2) 35 (0, 0)) := by rw [zab, if_neg nZ]; exact z13
                have d14 : (World.onObj w13 E (laidAt 0 (tcells (fb sl)))).heap[E]? = some (.cells (tcells (fb sl)) 26 (0, 0)) := by rw [zab, if_pos rfl, d13, Option.map_some, zco]
                have D14 : Ch [T] w5 (World.onObj w13 E (laidAt 0 (tcells (fb sl)))) := D13.onObj (p := E) (.inr hD5) _
                refine hK.out _ _ s14 (fun _ => ?_)
                clear hK K s13 z13 D13 d13
                obtain ⟨w14, hw14⟩ : ∃ W, World.onObj w13 E (laidAt 0 (tcells (fb sl))) = W := ⟨_, rfl⟩
                rw [hw14] at s14 z14 D14 d14 ⊢
                clear hw14
                refine tk 13 11 ?_ rfl s14 ?_ ?_; rotate_left
                · intro _ _; go_simp; try with_reducible rfl
                try go_frame
                refine tk 14 12 ?_ rfl s14 ?_ ?_; rotate_left
                · intro _ _; go_simp; try with_reducible rfl
                try go_frame
                refine wpAnyH_done (by kernel_rfl) ?_ _
                obtain ⟨b14, t14, q14⟩ := s14
                go_wp2
                go_roundw
                case rel => exact ⟨j + 1, a, fb sl, by go_num, by omega, HRO.out (by simp) sl (by simp), by rw [zab, if_pos rfl, t14, Option.map_some, laid_r], D14.onObj (.inl (by simp)) _⟩
                case measure => simp [intOf]; omega
              · go_simp
                have hc12 : Ch [] w11 (w11.alloc (.cells (tcells zeroT) 26)) := (Ch.refl [] w11).alloc _
                have s12 : (fun W' : World => W'.heap[B]? = some (.cells (partC p) 51 (0, 0)) ∧ W'.heap[T]? = some (.cells (t2cells ⟨a, b⟩) 35 (0, 0)) ∧ W'.heap[Q]? = some (.cells #[U kk, U vv] 31 (0, 0))) (w11.alloc (.cells (tcells zeroT) 26)) := ⟨hkeep hc12 s11.1, hkeep hc12 s11.2.1, hkeep hc12 s11.2.2⟩
                have z12 := hkeep hc12 z11
                have D12 := D11.pure hc12
                have d12 : (w11.alloc (.cells (tcells zeroT) 26)).heap[w11.heap.size]? = some (.cells (tcells zeroT) 26 (0, 0)) := by rw [zae, if_pos rfl]
                have nB : ¬ B = w11.heap.size := by have := zad s11.1; omega
                have nT : ¬ T = w11.heap.size := by have := zad s11.2.1; omega
                have nQ : ¬ Q = w11.heap.size := by have := zad s11.2.2; omega
                have nZ : ¬ B + 1 = w11.heap.size := by have := zad z11; omega
                have hD5 := D11.size
                refine hK.out _ _ s12 (fun _ => ?_)
                clear hK K s11 z11 D11 hc12
                obtain ⟨w12, hw12⟩ : ∃ W, w11.alloc (.cells (tcells zeroT) 26) = W := ⟨_, rfl⟩
                rw [hw12] at s12 z12 D12 d12 ⊢
                clear hw12
                obtain ⟨E, hE⟩ : ∃ E, w11.heap.size = E := ⟨_, rfl⟩
                rw [hE] at d12 nB nT nQ nZ hD5 ⊢
                clear hE
                refine rd (o := ⟨some 66, _, _, _, _, none⟩) 6 rfl (fun K hK => ?_); go_simp
                refine (PB _).mono ?_
                rintro e w13 ⟨rfl, hc13⟩
                have s13 : (fun W' : World => W'.heap[B]? = some (.cells (partC p) 51 (0, 0)) ∧ W'.heap[T]? = some (.cells (t2cells ⟨a, b⟩) 35 (0, 0)) ∧ W'.heap[Q]? = some (.cells #[U kk, U vv] 31 (0, 0))) w13 := ⟨hkeep hc13 s12.1, hkeep hc13 s12.2.1, hkeep hc13 s12.2.2⟩
                have z13 := hkeep hc13 z12
                have D13 := D12.pure hc13
                have d13 := hkeep hc13 d12
                refine hK.out _ _ s13 (fun _ => ?_)
                clear hK K s12 z12 D12 hc13 PB d12
                refine tk 7 59 ?_ rfl s13 ?_ ?_; rotate_left
                · intro _ _; go_simp; try with_reducible rfl
                try go_frame
                refine tk 8 67 ?_ rfl s13 ?_ ?_; rotate_left
                · intro _ _; go_simp; try with_reducible rfl
                try go_frame
                refine tk 9 68 ?_ rfl s13 ?_ ?_; rotate_left
                · intro _ _; go_simp; try with_reducible rfl
                try go_frame
                refine tk 10 69 ?_ rfl s13 ?_ ?_; rotate_left
                · intro _ _; go_simp; try with_reducible rfl
                try go_frame
                refine rd (o := ⟨none, .store 26 (.tmp 10) (.tmp 67), 0, _, _, none⟩) 12 rfl (fun K hK => ?_); go_simp
                have s14 : (fun W' : World => W'.heap[B]? = some (.cells (partC p) 51 (0, 0)) ∧ W'.heap[T]? = some (.cells (t2cells ⟨a, b⟩) 35 (0, 0)) ∧ W'.heap[Q]? = some (.cells #[U kk, U vv] 31 (0, 0))) (World.onObj w13 E (laidAt 0 (tcells (fb sl)))) := ⟨by rw [zab, if_neg nB]; exact s13.1, by rw [zab, if_neg nT]; exact s13.2.1, by rw [zab, if_neg nQ]; exact s13.2.2⟩
                have z14 : (World.onObj w13 E (laidAt 0 (tcells (fb sl)))).heap[B + 1]? = some (.cells (t2cells zeroT2) 35 (0, 0)) := by rw [zab, if_neg nZ]; exact z13
                have d14 : (World.onObj w13 E (laidAt 0 (tcells (fb sl)))).heap[E]? = some (.cells (tcells (fb sl)) 26 (0, 0)) := by rw [zab, if_pos rfl, d13, Option.map_some, zco]
                have D14 : Ch [T] w5 (World.onObj w13 E (laidAt 0 (tcells (fb sl)))) := D13.onObj (p := E) (.inr hD5) _
                refine hK.out _ _ s14 (fun _ => ?_)
                clear hK K s13 z13 D13 d13
                obtain ⟨w14, hw14⟩ : ∃ W, World.onObj w13 E (laidAt 0 (tcells (fb sl))) = W := ⟨_, rfl⟩
                rw [hw14] at s14 z14 D14 d14 ⊢
                clear hw14
                refine tk 13 11 ?_ rfl s14 ?_ ?_; rotate_left
                · intro _ _; go_simp; try with_reducible rfl
                try go_frame
                refine tk 14 12 ?_ rfl s14 ?_ ?_; rotate_left
                · intro _ _; go_simp; try with_reducible rfl
                try go_frame
                refine wpAnyH_done (by kernel_rfl) ?_ _
                obtain ⟨b14, t14, q14⟩ := s14
                go_wp2
                go_roundw
                case rel => exact ⟨j + 1, a, fb sl, by go_num, by omega, HRO.out (by simp) sl (by simp), by rw [zab, if_pos rfl, t14, Option.map_some, laid_r], D14.onObj (.inl (by simp)) _⟩
                case measure => simp [intOf]; omega
end
end Go.Proofs.Hc
