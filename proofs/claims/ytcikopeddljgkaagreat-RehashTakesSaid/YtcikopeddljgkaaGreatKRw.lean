/- Package rehash: accesses, and what tells them. -/
import Derived.Test.YtcikopeddljgkaaGreatKTi
import Derived.Test.YtcikopeddljgkaaGreatK0
set_option linter.unusedSimpArgs false
set_option linter.unusedVariables false
set_option maxHeartbeats 4000000
set_option maxRecDepth 100000
namespace Go.Proofs.Hc
open Go.RowKit
attribute [local go_sem] zbs zca zax zbc zbn zba zbm zbo zbu signed64 signed8 zar BitVec.ofInt_add BitVec.ofInt_mul ofInt_sub' zay zaz wide8 eqN neN zbz shr1 shr7 shr56
attribute [local go_sem high] zbb zbt
attribute [local go_sem] zag zbw zah zas zad zbe zaq zal zbl zan zbd zbf
attribute [local go_sem] load26 load73 load23 store26 build73
attribute [local go_sem ↓] lrow26 lrow73 lrow23 srow26 zero26 brow73 zac zaw zbg zaa zab
attribute [local go_sem] zai zav zat zbj zbk zbp zao zau zbq zbi zbh
attribute [local go_sem] nn2 nm2 nn3 nm3 nn4 nm4 nn5 nm5 nn6 nm6 nn7 nm7 nn8 nm8
section
attribute [local go_sem] acc_g0 acc_g1 acc_g2 acc_g4 acc_s0 acc_s1 acc_s2 acc_s4 zcv accC_one accC_all loadAcc storeAcc bacc0 bacc2 bacc3 bacc3u bacc4
attribute [local go_sem ↓] lrowAcc srowAcc browAcc zcn
attribute [local go_sem high] zak
attribute [local go_sem] zcq seenC_one seenC_all seenC_g0 loadSeen storeSeen buildSeen buildSeen0
attribute [local go_sem ↓] lrowSeen srowSeen browSeen zcr
attribute [local go_sem high] zam
attribute [local irreducible] seenC
attribute [local go_sem] zar zby
attribute [local go_sem] Oper.semAt_some zap
attribute [local go_sem] layC_idx lcell0 lcell1 lcell2 lcell3 lcell4 lcell5 lcell46
attribute [local go_sem] lay_g0 lay_g1 lay_g2 lay_g3 lay_g4 lay_g5 lay_g46 lay_s0 lay_s4 lay_s5 lay_s46 zck layC_one layC_all layC_ws boxLay loadLay storeLay build_lay box_lay buildLay0 buildLay2 buildLay3
attribute [local go_sem ↓] lrowLay srowLay browLay brow_lay zcs
attribute [local go_sem high] zaj
attribute [local irreducible] layC
attribute [local irreducible] accC
attribute [local go_sem] boxSeen
theorem lAccesses_any (S : Nat) (v : Value) (hv : v.oneCell' = true) (w : World) (hS : S < w.heap.size) : Calls Tryz.prog 103 #[.pointer (some ⟨S, 0, none⟩), v] w fun e w' =>
    ∃ q1 q2 q3, e = .returned (.func (.func 161) #[] #[.pointer (some ⟨q1, 0, none⟩), .pointer (some ⟨q2, 0, none⟩), .pointer (some ⟨q3, 0, none⟩)]) ∧
      w'.heap[q1]? = some (.cells #[.pointer (some ⟨S, 0, none⟩)] 161 (0, 0)) ∧ w'.heap[q2]? = some (.cells #[v] 44 (0, 0)) ∧ w'.heap[q3]? = some (.cells #[.func (.func 160) #[] #[.pointer (some ⟨q1, 0, none⟩)]] 241 (0, 0)) ∧ w.heap.size ≤ q1 ∧ w.heap.size ≤ q2 ∧ w.heap.size ≤ q3 ∧ Ch [] w w' := by
  go_enter Tryz.func103, Tryz.ntmps103
  go_wp2
  go_ret
  refine ⟨w.heap.size, w.heap.size + 1, w.heap.size + 1 + 1, rfl, ?_, ?_, ?_, by omega, by omega, by omega, ?_⟩
  · simp [go_sem]
  · simp [go_sem]
  · simp [go_sem]
  · exact (((Ch.refl [] w).alloc _).alloc _).alloc _
theorem lTakes_any (p : LayT) (S q : Nat) (x : BitVec 64) (b : Bool) (hr : rightL p = true) (h4 : p.ph ≤ 4) (w : World) (hS : w.heap[S]? = some (.cells (layC p) 163 (0, 0))) (hq : w.heap[q]? = some (.cells #[.pointer (some ⟨S, 0, none⟩)] 161 (0, 0))) :
    Calls Tryz.prog 160 #[.agg (seenC (N x) b), .pointer (some ⟨q, 0, none⟩)] w fun e w' => e = .returned (.tuple #[]) ∧ w'.heap[S]? = some (.cells (layC (takeL p x)) 163 (0, 0)) ∧ Ch [S] w w' := by
  have T1 := fun w => lTake_yes p hr h4 x b w
  obtain ⟨r, hrr⟩ : ∃ r, takeL p x = r := ⟨_, rfl⟩
  rw [hrr] at T1 ⊢
  clear hrr hr h4
  have C0 : Ch [S] w (w.alloc (.cells (seenC (N x) b) 93)) := (Ch.refl [S] w).alloc _
  have hc0 : Ch [] w (w.alloc (.cells (seenC (N x) b) 93)) := (Ch.refl [] w).alloc _
  have y0 : (w.alloc (.cells (seenC (N x) b) 93)).heap[w.heap.size]? = some (.cells (seenC (N x) b) 93 (0, 0)) := by rw [zac, if_pos rfl]
  have s0 := hkeep hc0 hS
  have q0 := hkeep hc0 hq
  have hSn : ¬ S = w.heap.size := by have := (Array.getElem?_eq_some_iff.1 hS).1; omega
  have hqS : ¬ q = S := zdb hq hS (by decide)
  clear hS hq hc0
  go_enter Tryz.func160, Tryz.ntmps160
  go_upto_region 1 with (fail)
  generalize w.alloc (.cells (seenC (N x) b) 93) = W0 at *
  generalize w.heap.size = B at *
  have hBS : ¬ B = S := fun e => hSn e.symm
  have s2 : (fun W' : World => W'.heap[q]? = some (.cells #[.pointer (some ⟨S, 0, none⟩)] 161 (0, 0)) ∧ W'.heap[B]? = some (.cells (seenC (N x) b) 93 (0, 0))) W0.drew := ⟨q0, y0⟩
  have g2 : W0.drew.heap[S]? = some (.cells (layC p) 163 (0, 0)) := s0
  have C2 : Ch [S] w W0.drew := C0.drew
  refine wp_region_held_drew (S := fun W' => W'.heap[q]? = some (.cells #[.pointer (some ⟨S, 0, none⟩)] 161 (0, 0)) ∧ W'.heap[B]? = some (.cells (seenC (N x) b) 93 (0, 0))) (by kernel_rfl) s2 ?_
  intro _
  simp only [List.size_toArray, List.length_cons, List.length_nil, Nat.reduceAdd]
  clear s0 q0 y0 C0
  generalize W0.drew = w2 at *
  refine tk 0 4 ?_ rfl s2 ?_ ?_; rotate_left
  · intro wq hSq; obtain ⟨hSa, hSb⟩ := hSq; go_simp; try with_reducible rfl
  try go_frame
  refine tk 1 5 ?_ rfl s2 ?_ ?_; rotate_left
  · intro wq hSq; obtain ⟨hSa, hSb⟩ := hSq; go_simp; try with_reducible rfl
  try go_frame
  refine tk 2 6 ?_ rfl s2 ?_ ?_; rotate_left
  · intro wq hSq; obtain ⟨hSa, hSb⟩ := hSq; go_simp; try with_reducible rfl
  try go_frame
  refine tk 3 7 ?_ rfl s2 ?_ ?_; rotate_left
  · intro wq hSq; obtain ⟨hSa, hSb⟩ := hSq; go_simp; try with_reducible rfl
  try go_frame
  refine tk 5 9 ?_ rfl s2 ?_ ?_; rotate_left
  · intro wq hSq; obtain ⟨hSa, hSb⟩ := hSq; go_simp; try with_reducible rfl
  try go_frame
  refine rd (o := ⟨some 8, _, _, _, _, none⟩) 4 rfl (fun K hK => ?_); go_simp
  refine hK.out _ _ s2 (fun _ => ?_)
  clear hK K
  refine rd (o := ⟨some 10, _, _, _, _, none⟩) 6 rfl (fun K hK => ?_); go_simp
  refine (T1 _).mono ?_
  rintro e w3 ⟨rfl, hc3⟩
  have s3 : w3.heap[q]? = some (.cells #[.pointer (some ⟨S, 0, none⟩)] 161 (0, 0)) ∧ w3.heap[B]? = some (.cells (seenC (N x) b) 93 (0, 0)) := ⟨hkeep hc3 s2.1, hkeep hc3 s2.2⟩
  have g3 := hkeep hc3 g2
  have C3 := C2.trans hc3.of_nil
  refine hK.out _ _ s3 (fun _ => ?_)
  clear hK K hc3 s2 g2 C2 T1
  refine tk 7 3 ?_ rfl s3 ?_ ?_; rotate_left
  · intro _ _; go_simp; try with_reducible rfl
  try go_frame
  refine tk 8 11 ?_ rfl s3 ?_ ?_; rotate_left
  · intro _ _; go_simp; try with_reducible rfl
  try go_frame
  refine tk 9 12 ?_ rfl s3 ?_ ?_; rotate_left
  · intro _ _; go_simp; try with_reducible rfl
  try go_frame
  refine tk 10 13 ?_ rfl s3 ?_ ?_; rotate_left
  · intro _ _; go_simp; try with_reducible rfl
  try go_frame
  refine tk 11 14 ?_ rfl s3 ?_ ?_; rotate_left
  · intro _ _; go_simp; try with_reducible rfl
  try go_frame
  refine rd 12 rfl (fun K hK => ?_); go_simp
  have g4 : (World.onObj w3 S (laidAt 0 (layC r))).heap[S]? = some (.cells (layC r) 163 (0, 0)) := by rw [zab, if_pos rfl, g3, Option.map_some, zaj]
  have C4 : Ch [S] w (World.onObj w3 S (laidAt 0 (layC r))) := C3.onObj (p := S) (.inl (by simp)) _
  refine hK.out _ _ ⟨?_, ?_⟩ (fun _ => ?_)
  · rw [zab, if_neg hqS]; exact s3.1
  · rw [zab, if_neg hBS]; exact s3.2
  clear hK K
  refine wpAnyH_done (by kernel_rfl) ?_ _
  go_wp2
  go_end0
  exact ⟨rfl, g4, C4⟩
def runLeft (S : Nat) (w : World) : Nat :=
  match w.heap[S]? with
  | some (.cells cs _ _) => match cs[0]?, cs[5]? with
    | some (Value.int _ a), some (Value.int _ b) => measL { zeroLay with ph := a, at_ := b }
    | _, _ => 0
  | _ => 0
theorem runLeft_eq {S : Nat} {w : World} {p : LayT} {T : TypeId} (h : w.heap[S]? = some (.cells (layC p) T (0, 0))) : runLeft S w = measL p := by
  unfold runLeft
  rw [h]
  dsimp only
  rw [lay_g0, lay_g5]
  rfl
theorem enters_acc2 (args : Array Value) (w : World) : (callFunc 161 args).run Tryz.prog w = .ok (.enter 161 args) w := by kernel_rfl
theorem acc_yields (l0 l' : List (BitVec 64)) (p0 p' : LayT) (xs : List AccT) (hrun : RunsX l0 p0 xs l' p') (hlen : l0.length ≤ 8192) (hsl : 0 ≤ p0.sl) (Q S q1 q2 q3 : Nat) (w : World)
    (hQ : w.heap[Q]? = some (.cells (wcells l0) 22 (0, 0))) (hS : w.heap[S]? = some (.cells (layC p0) 163 (0, 0))) (h1 : w.heap[q1]? = some (.cells #[.pointer (some ⟨S, 0, none⟩)] 161 (0, 0)))
    (h2 : w.heap[q2]? = some (.cells #[.slice (some ⟨Q, 0, none⟩) l0.length l0.length] 44 (0, 0))) (h3 : w.heap[q3]? = some (.cells #[.func (.func 160) #[] #[.pointer (some ⟨q1, 0, none⟩)]] 241 (0, 0))) :
    YieldsE Tryz.prog 161 #[.pointer (some ⟨q1, 0, none⟩), .pointer (some ⟨q2, 0, none⟩), .pointer (some ⟨q3, 0, none⟩)] (fun a : AccT => #[.agg (accC p0.who a.kind a.at_ (N a.new))]) xs [Q, S] [Q, S, q1, q2, q3] (fun W => W.heap[Q]? = some (.cells (wcells l') 22 (0, 0))) w := by
  intro n l J Jx W O0 hW hk hO hJ hJx hY h0
  have Q0 := (hk Q (by simp)).trans hQ
  have S0 := (hk S (by simp)).trans hS
  have a0 := (hk q1 (by simp)).trans h1
  have b0 := (hk q2 (by simp)).trans h2
  have c0 := (hk q3 (by simp)).trans h3
  clear hQ hS h1 h2 h3 hk hW
  obtain ⟨wh, hwh⟩ : ∃ x, p0.who = x := ⟨_, rfl⟩
  obtain ⟨m, hm⟩ : ∃ m, l0.length = m := ⟨_, rfl⟩
  rw [hwh] at hY
  rw [hm] at b0 hlen
  refine callsIn_of_wp Tryz.func161 rfl trivial ?_
  simp only [Tryz.ntmps161, List.size_toArray, List.length_cons, List.length_nil, Nat.reduceAdd, Nat.reduceSub, Array.replicate_succ, Array.replicate_zero, List.push_toArray, List.append_toArray, List.nil_append, List.cons_append]
  refine wpIn_wide.2 ?_
  apply wp_scope_straight
  refine (wpIn_wide (n := n + 1)).1 ?_
  gi_wp2
  apply wpIn_label
  gi_wp2
  gi_loopw [] (fun wr => ∃ pre post l1 p1 O, xs = pre ++ post ∧ RunsX l1 p1 post l' p' ∧ l1.length = m ∧ p1.who = wh ∧ wr.heap[Q]? = some (.cells (wcells l1) 22 (0, 0)) ∧ wr.heap[S]? = some (.cells (layC p1) 163 (0, 0)) ∧ wr.heap[q1]? = some (.cells #[.pointer (some ⟨S, 0, none⟩)] 161 (0, 0)) ∧ wr.heap[q2]? = some (.cells #[.slice (some ⟨Q, 0, none⟩) m m] 44 (0, 0)) ∧ wr.heap[q3]? = some (.cells #[.func (.func 160) #[] #[.pointer (some ⟨q1, 0, none⟩)]] 241 (0, 0)) ∧ J pre O wr) (fun wr => runLeft S wr)
  case atStart => exact ⟨[], xs, l0, p0, O0, rfl, hrun, hm, hwh, Q0, S0, a0, b0, c0, h0⟩
  case round =>
    obtain ⟨pre, post, l1, p1, O, hx, hr, hl1, hw1, Qr, Sr, ar, br, cr, hj⟩ := hrel
    clear Q0 S0 a0 b0 c0 h0 hrun hm hwh
    have N1 := fun w => lNeed_any p1 w
    have hjN := fun b hb => (hO _ _ _ hj b hb).1
    have hjK := fun b hb => (hO _ _ _ hj b hb).2
    rcases hr.inv with ⟨h4, hpost, hl', hp'⟩ | ⟨⟨kd, at_, nw⟩, ⟨l2, u⟩, xs', hpost, h4, hR, ha, hy, hrest⟩
    · have hnone : needL p1 = none := by
        unfold needL
        rw [if_neg]
        rw [decide_eq_false (by omega), Bool.and_false]; decide
      rw [hnone] at N1
      simp only [needLV] at N1
      have HX := Lib.hid hx
      have HP := Lib.hid hpost
      have HL := Lib.hid hl'
      clear hx hpost hl' hp' hr h4 hnone
      gi_wp2_with (refine ⟨trivial, ?_⟩; gi_at_call 58; refine (inW (N1 _)).mono ?_; rintro e w2 ⟨rfl, hc2⟩)
      refine ⟨(fun f h => by cases h), ?_⟩
      gi_wp2
      rw [Exit.noGoto_normal]
      refine bodyPost_end (results_none rfl _ _ _) rfl ?_
      have hcz := zcu 0 0 0 0 w2
      have hch := hc2.trans hcz
      refine ⟨⟨_, rfl⟩, .inl ⟨O, ?_, ?_⟩⟩
      · rw [HX.out, HP.out, List.append_nil]; exact hJ _ _ _ _ hj (hch.mono (by simp))
      · rw [HL.out]; exact hkeep hch Qr
    · obtain ⟨j, hje, hjl, hju, hkk⟩ := needL_row ha hy
      dsimp only at hje hjl hju hkk hrest
      subst hje
      rw [ha] at N1
      simp only [needLV, hw1] at N1
      have hjm : j < m := by omega
      have hjmI : (j : Int) < m := by omega
      have hu : (wcells l1)[j]? = some (U u) := wcells_at l1 j u hju
      rcases hkk with ⟨rfl, rfl⟩ | ⟨rfl, rfl⟩
      · gi_wp2_with fail
        refine ⟨trivial, ?_⟩
        gi_at_call 58
        refine (inW (N1 _)).mono ?_
        rintro e w2 ⟨rfl, hc2⟩
        clear N1
        have hcz := zcu wh 1 (j : Int) (N nw) w2
        have t3 := accv_put wh 1 (j : Int) (N nw) w2
        have hch := hc2.trans hcz
        have hT : wr.heap.size ≤ w2.heap.size := hc2.size
        have Q3 := hkeep hch Qr
        have S3 := hkeep hch Sr
        have a3 := hkeep hch ar
        have b3 := hkeep hch br
        have c3 := hkeep hch cr
        have hj3 := hJ _ _ _ _ hj (hch.mono (by simp))
        obtain ⟨T, hTe⟩ : ∃ T, w2.heap.size = T := ⟨_, rfl⟩
        rw [hTe] at t3 Q3 S3 a3 b3 c3 hj3 hT
        obtain ⟨w3, hw3⟩ : ∃ W, World.onObj (w2.alloc (.cells (accC 0 0 0 0) 87)) T (laidAt 0 (accC wh 1 (j : Int) (N nw))) = W := ⟨_, rfl⟩
        rw [hw3] at t3 Q3 S3 a3 b3 c3 hj3
        clear hcz hch hc2 Qr ar br cr
        obtain ⟨fn, tmps, assign, body, hyl, hRd⟩ := hY pre O ⟨1, (j : Int), nw⟩ xs' w3 (by rw [hx, hpost]) hj3
        have hyl : Sem.run Tryz.prog (Instr.yield l #[.agg (accC wh 1 (j : Int) (N nw))]) w3 = .ok (.round l fn tmps assign body) w3 := hyl
        have hOT : ¬ O T := fun h => by have := hjN T h; omega
        have hl3T := Lib.hid (Array.getElem?_eq_some_iff.1 t3).1
        have hOQ : ¬ O Q := fun h => hjK Q h (by simp)
        have hOS : ¬ O S := fun h => hjK S h (by simp)
        have hO1 : ¬ O q1 := fun h => hjK q1 h (by simp)
        have hO2 : ¬ O q2 := fun h => hjK q2 h (by simp)
        have hO3 : ¬ O q3 := fun h => hjK q3 h (by simp)
        have HX := Lib.hid hx
        have HP := Lib.hid hpost
        have HR := Lib.hid hrest
        have HY2 := Lib.hid hR
        clear hx hpost hrest hR hj hj3 hjN hjK
        gi_wp2
        refine hRd.mono ?_
        clear hyl hRd hw3
        rintro e w4 (⟨rfl, ⟨O', hj4, hO'⟩, hz4, hk4⟩ | ⟨rfl, hJx4⟩)
        · have Q4 := (hk4 Q (zae Q3) hOQ).trans Q3
          have S4 := (hk4 S (zae S3) hOS).trans S3
          have a4 := (hk4 q1 (zae a3) hO1).trans a3
          have b4 := (hk4 q2 (zae b3) hO2).trans b3
          have c4 := (hk4 q3 (zae c3) hO3).trans c3
          have t4 := (hk4 T (zae t3) hOT).trans t3
          clear hk4 hz4 Q3 S3 a3 b3 c3 t3 hl3T hOQ hOS hO1 hO2 hO3 hOT hT hTe
          have hcs := zbr (N u) true w4
          have y5 := seen_put (N u) true w4
          have Q5 := hkeep hcs Q4
          have S5 := hkeep hcs S4
          have a5 := hkeep hcs a4
          have b5 := hkeep hcs b4
          have c5 := hkeep hcs c4
          have t5 := hkeep hcs t4
          have hj5 := hJ _ _ _ _ hj4 (hcs.mono (by simp))
          have nT := ns t4
          have nQ := ns Q4
          have nS := ns S4
          have n1 := ns a4
          have n2 := ns b4
          have n3 := ns c4
          obtain ⟨w5, hw5⟩ : ∃ W, World.onObj (w4.alloc (.cells (seenC 0 false) 93)) w4.heap.size (laidAt 0 (seenC (N u) true)) = W := ⟨_, rfl⟩
          rw [hw5] at y5 Q5 S5 a5 b5 c5 t5 hj5
          clear hcs hj4 S4 a4 c4
          have K1 := fun W h1 h2 => lTakes_any p1 S q1 u true HY2.out h4 W h1 h2
          gi_wp2_with fail
          refine ⟨trivial, ?_⟩
          gi_at_call 160
          try rw [hw5]
          refine (inW (K1 _ S5 a5)).mono ?_
          rintro e w7 ⟨rfl, S7, hc7⟩
          have Q7 := (hc7.block Q (zae Q5) (by simpa using zdb Q5 S5 (by decide))).trans Q5
          have a7 := (hc7.block q1 (zae a5) (by simpa using zdb a5 S5 (by decide))).trans a5
          have b7 := (hc7.block q2 (zae b5) (by simpa using zdb b5 S5 (by decide))).trans b5
          have c7 := (hc7.block q3 (zae c5) (by simpa using zdb c5 S5 (by decide))).trans c5
          have hj7 := hJ _ _ _ _ hj5 (hc7.mono (by simp))
          gi_wp2
          go_roundw
          case rel => exact ⟨pre ++ [⟨1, (j : Int), nw⟩], xs', _, takeL p1 u, O', by rw [HX.out, HP.out]; simp, HR.out, hl1, (takeL_who p1 u).trans hw1, Q7, S7, a7, b7, c7, hj7⟩
          case measure =>
            rw [runLeft_eq S7, runLeft_eq Sr]
            exact measL_take ((zdc p1).1 HY2.out) h4 u
        · gi_wp2
          rw [Exit.noGoto_normal]
          refine bodyPost_end (results_none rfl _ _ _) rfl ?_
          exact ⟨⟨_, rfl⟩, .inr hJx4⟩
      · gi_wp2_with fail
        refine ⟨trivial, ?_⟩
        gi_at_call 58
        refine (inW (N1 _)).mono ?_
        rintro e w2 ⟨rfl, hc2⟩
        clear N1
        have hcz := zcu wh 2 (j : Int) (N nw) w2
        have t3 := accv_put wh 2 (j : Int) (N nw) w2
        have hch := hc2.trans hcz
        have hT : wr.heap.size ≤ w2.heap.size := hc2.size
        have Q3 := hkeep hch Qr
        have S3 := hkeep hch Sr
        have a3 := hkeep hch ar
        have b3 := hkeep hch br
        have c3 := hkeep hch cr
        have hj3 := hJ _ _ _ _ hj (hch.mono (by simp))
        obtain ⟨T, hTe⟩ : ∃ T, w2.heap.size = T := ⟨_, rfl⟩
        rw [hTe] at t3 Q3 S3 a3 b3 c3 hj3 hT
        obtain ⟨w3, hw3⟩ : ∃ W, World.onObj (w2.alloc (.cells (accC 0 0 0 0) 87)) T (laidAt 0 (accC wh 2 (j : Int) (N nw))) = W := ⟨_, rfl⟩
        rw [hw3] at t3 Q3 S3 a3 b3 c3 hj3
        clear hcz hch hc2 Qr ar br cr
        obtain ⟨fn, tmps, assign, body, hyl, hRd⟩ := hY pre O ⟨2, (j : Int), nw⟩ xs' w3 (by rw [hx, hpost]) hj3
        have hyl : Sem.run Tryz.prog (Instr.yield l #[.agg (accC wh 2 (j : Int) (N nw))]) w3 = .ok (.round l fn tmps assign body) w3 := hyl
        have hOT : ¬ O T := fun h => by have := hjN T h; omega
        have hl3T := Lib.hid (Array.getElem?_eq_some_iff.1 t3).1
        have hOQ : ¬ O Q := fun h => hjK Q h (by simp)
        have hOS : ¬ O S := fun h => hjK S h (by simp)
        have hO1 : ¬ O q1 := fun h => hjK q1 h (by simp)
        have hO2 : ¬ O q2 := fun h => hjK q2 h (by simp)
        have hO3 : ¬ O q3 := fun h => hjK q3 h (by simp)
        have HX := Lib.hid hx
        have HP := Lib.hid hpost
        have HR := Lib.hid hrest
        have HY2 := Lib.hid hR
        clear hx hpost hrest hR hj hj3 hjN hjK
        gi_wp2
        refine hRd.mono ?_
        clear hyl hRd hw3
        rintro e w4 (⟨rfl, ⟨O', hj4, hO'⟩, hz4, hk4⟩ | ⟨rfl, hJx4⟩)
        · have Q4 := (hk4 Q (zae Q3) hOQ).trans Q3
          have S4 := (hk4 S (zae S3) hOS).trans S3
          have a4 := (hk4 q1 (zae a3) hO1).trans a3
          have b4 := (hk4 q2 (zae b3) hO2).trans b3
          have c4 := (hk4 q3 (zae c3) hO3).trans c3
          have t4 := (hk4 T (zae t3) hOT).trans t3
          clear hk4 hz4 Q3 S3 a3 b3 c3 t3 hl3T hOQ hOS hO1 hO2 hO3 hOT hT hTe
          have hcs := zbr (N u) true w4
          have y5 := seen_put (N u) true w4
          have Q5 := hkeep hcs Q4
          have S5 := hkeep hcs S4
          have a5 := hkeep hcs a4
          have b5 := hkeep hcs b4
          have c5 := hkeep hcs c4
          have t5 := hkeep hcs t4
          have hj5 := hJ _ _ _ _ hj4 (hcs.mono (by simp))
          have nT := ns t4
          have nQ := ns Q4
          have nS := ns S4
          have n1 := ns a4
          have n2 := ns b4
          have n3 := ns c4
          obtain ⟨w5, hw5⟩ : ∃ W, World.onObj (w4.alloc (.cells (seenC 0 false) 93)) w4.heap.size (laidAt 0 (seenC (N u) true)) = W := ⟨_, rfl⟩
          rw [hw5] at y5 Q5 S5 a5 b5 c5 t5 hj5
          clear hcs hj4 S4 a4 c4
          have hSQ : ¬ S = Q := zdb S5 Q5 (by decide)
          have haQ : ¬ q1 = Q := zdb a5 Q5 (by decide)
          have hbQ : ¬ q2 = Q := zdb b5 Q5 (by decide)
          have hcQ : ¬ q3 = Q := zdb c5 Q5 (by decide)
          have htQ : ¬ T = Q := zdb t5 Q5 (by decide)
          have hyQ : ¬ w4.heap.size = Q := fun e => nQ e.symm
          have Q6 : (w5.setCell ⟨Q, j, none⟩ (U nw)).heap[Q]? = some (.cells (wcells (l1.set j nw)) 22 (0, 0)) := by rw [zaa, if_pos rfl, Q5, Option.map_some, zad, wcells_set]
          have S6 := (show (w5.setCell ⟨Q, j, none⟩ (U nw)).heap[S]? = w5.heap[S]? by rw [zaa, if_neg hSQ]).trans S5
          have a6 := (show (w5.setCell ⟨Q, j, none⟩ (U nw)).heap[q1]? = w5.heap[q1]? by rw [zaa, if_neg haQ]).trans a5
          have b6 := (show (w5.setCell ⟨Q, j, none⟩ (U nw)).heap[q2]? = w5.heap[q2]? by rw [zaa, if_neg hbQ]).trans b5
          have c6 := (show (w5.setCell ⟨Q, j, none⟩ (U nw)).heap[q3]? = w5.heap[q3]? by rw [zaa, if_neg hcQ]).trans c5
          have y6 := (show (w5.setCell ⟨Q, j, none⟩ (U nw)).heap[w4.heap.size]? = w5.heap[w4.heap.size]? by rw [zaa, if_neg hyQ]).trans y5
          have hj6 := hJ _ _ _ _ hj5 ((Ch.refl [Q, S] w5).setCell (p := ⟨Q, j, none⟩) (.inl (by simp)) (U nw))
          obtain ⟨w6, hw6⟩ : ∃ W, w5.setCell ⟨Q, j, none⟩ (U nw) = W := ⟨_, rfl⟩
          rw [hw6] at Q6 S6 a6 b6 c6 y6 hj6
          have K1 := fun W h1 h2 => lTakes_any p1 S q1 u true HY2.out h4 W h1 h2
          gi_wp2_with fail
          refine ⟨trivial, ?_⟩
          gi_at_call 160
          try rw [hw5]
          try rw [hw6]
          refine (inW (K1 _ S6 a6)).mono ?_
          rintro e w7 ⟨rfl, S7, hc7⟩
          have Q7 := (hc7.block Q (zae Q6) (by simpa using zdb Q6 S6 (by decide))).trans Q6
          have a7 := (hc7.block q1 (zae a6) (by simpa using zdb a6 S6 (by decide))).trans a6
          have b7 := (hc7.block q2 (zae b6) (by simpa using zdb b6 S6 (by decide))).trans b6
          have c7 := (hc7.block q3 (zae c6) (by simpa using zdb c6 S6 (by decide))).trans c6
          have hj7 := hJ _ _ _ _ hj6 (hc7.mono (by simp))
          gi_wp2
          go_roundw
          case rel => exact ⟨pre ++ [⟨2, (j : Int), nw⟩], xs', _, takeL p1 u, O', by rw [HX.out, HP.out]; simp, HR.out, by rw [List.length_set]; exact hl1, (takeL_who p1 u).trans hw1, Q7, S7, a7, b7, c7, hj7⟩
          case measure =>
            rw [runLeft_eq S7, runLeft_eq Sr]
            exact measL_take ((zdc p1).1 HY2.out) h4 u
        · gi_wp2
          rw [Exit.noGoto_normal]
          refine bodyPost_end (results_none rfl _ _ _) rfl ?_
          exact ⟨⟨_, rfl⟩, .inr hJx4⟩
end
end Go.Proofs.Hc
