/- Package write: takes. -/
import Derived.Test.YtmfajobocpaimaaGreatKHmet
import Derived.Test.YtmfajobocpaimaaGreatKHcs
import Derived.Test.YtmfajobocpaimaaGreatKHj
import Derived.Test.YtmfajobocpaimaaGreatKHm
import Derived.Test.YtmfajobocpaimaaGreatKHma
import Derived.Test.YtmfajobocpaimaaGreatKHnl
import Derived.Test.YtmfajobocpaimaaGreatKHnq
import Derived.Test.YtmfajobocpaimaaGreatKHnr
import Derived.Test.YtmfajobocpaimaaGreatKHns
import Derived.Test.YtmfajobocpaimaaGreatKHnv
import Derived.Test.YtmfajobocpaimaaGreatKHnw
import Derived.Test.YtmfajobocpaimaaGreatKHni
import Derived.Test.YtmfajobocpaimaaGreatKHxh
import Derived.Below
import Derived.BigQuiet
import Derived.Deep.Draws
import Derived.Deep.Light
import Derived.Deep.QuietTactic
import Derived.Deep.RegionHeld
import Derived.Laws.CopyRow
import Derived.Laws.StructEq
import Derived.Laws.Tables
import Derived.Lib.AppendZerosOnto
import Derived.Lib.Hide
import Derived.Lib.Tables
import Derived.Lib.Walk
import Derived.LoopIn
import Derived.LoopN
import Derived.LoopNIn
import Derived.Maps.AppendAt
import Derived.Maps.Views
import Derived.OwnWalkIn
import Derived.RangeFuncBox
import Derived.RangeFuncCalls
import Derived.RangeFuncRecord
import Derived.RangeFuncSeq
import Derived.Recover
import Derived.RegionTactic
import Derived.ScopeJumps
import Derived.Shelf.Slices.Clone
import Derived.StillTail
import Derived.StillTailTactics
import Derived.TacticsInMore
import Derived.Test.YtmfajobocpaimaaGreatProg
import Derived.WalkKit
import Derived.WalkLawsBesides
import Derived.WalkMore
import Derived.WalkSpells
set_option linter.unusedSimpArgs false
set_option linter.unusedVariables false
namespace Go.Proofs.Hc
open Go.RowKit
attribute [local go_sem] wrap_u64 wrap_u8 bits_xor64 bits_and64 bits_or64 bits_not64 bits_xor8 bits_and8 bits_or8 signed64 signed8 ofInt_N BitVec.ofInt_add BitVec.ofInt_mul ofInt_sub' ofInt8_N64 ofInt64_N8 wide8 eqN neN shr_pow shr1 shr7 shr56
attribute [local go_sem high] bits_com64 shl_wrap
attribute [local go_sem] cell_heap ice_heap cellAt_cells iceAt_cells setAt_cells rowAt_cells canLay_cells laidAt_cells size_onObj size_setCell rowRes_some layRes_true
attribute [local go_sem] load26 load73 load23 store26 build73
attribute [local go_sem ↓] lrow26 lrow73 lrow23 srow26 zero26 brow73 heap_alloc heap_drew heap_drewN heap_setCell heap_onObj
attribute [local go_sem] tcells_size hcells_size tcells_get hcells_get tcells_one hcells_one hcells_table tcells_table hcells_all hcells_ctrl tcells_ctrl
attribute [local go_sem] nn2 nm2 nn3 nm3 nn4 nm4 nn5 nm5 nn6 nm6 nn7 nm7 nn8 nm8
attribute [local go_sem] nn2 nm2 nn3 nm3 nn4 nm4 nn5 nm5 nn6 nm6 nn7 nm7 nn8 nm8
attribute [local go_sem] ofInt_N ofInt_pow8
attribute [local go_sem] Oper.semAt_some make_func1
attribute [local go_sem] pen_g0 pen_g1 pen_g2 pen_g3 pen_g4 pen_g5 pen_g6 pen_g7 pen_g8 pen_g9 pen_g10 pen_g11 pen_g12 pen_g13 pen_g14 pen_g15 pen_g16 pen_g17 penC_size penC_one penC_all
attribute [local irreducible] penC
attribute [local go_sem] pen_s0 pen_s1 pen_s2 pen_s3 pen_s4 pen_s5 pen_s6 pen_s7 pen_s8 pen_s9 pen_s10 pen_s11 pen_s12 pen_s13 pen_s14 pen_s15 pen_s16 pen_s17
attribute [local go_sem high] tmod2_64w bit64w bit64zw
theorem bits_not8 (x y : Int) : bits .andNot .u8 x y = N (BitVec.ofInt 8 x &&& ~~~BitVec.ofInt 8 y) := by
  show IntKind.u8.wrap (N (BitVec.ofInt 8 x &&& ~~~BitVec.ofInt 8 y)) = _
  rw [wrap_u8, ofInt_N]
attribute [local go_sem] bits_not8
theorem takeP_0 {p : PenT} (h : p.ph = 0) (x : BitVec 64) : takeP p x = if oddB x then { p with ph := 15 } else { p with count := x, grp := 0, ph := 1 } := by unfold takeP; rw [if_pos h]
theorem takeP_1 {p : PenT} (h : p.ph = 1) (x : BitVec 64) : takeP p x = lookedP p x := by unfold takeP; rw [if_neg (by omega), if_pos h]
theorem takeP_2 {p : PenT} (h : p.ph = 2) (x : BitVec 64) : takeP p x = if x == p.key then { p with slot := ((8 * groupP p + laneP p.left : Nat) : Int), ph := 3 } else onP { p with left := p.left &&& ~~~(1#8 <<< laneP p.left) } := by unfold takeP; rw [if_neg (by omega), if_neg (by omega), if_pos h]
theorem takeP_3 {p : PenT} (h : p.ph = 3) (x : BitVec 64) : takeP p x = decidedP { p with val := x, found := true } := by unfold takeP; rw [if_neg (by omega), if_neg (by omega), if_neg (by omega), if_pos h]
theorem takeP_4 {p : PenT} (h : p.ph = 4) (x : BitVec 64) : takeP p x = { p with can := x, ph := if wantsP p == 1 && wasP p && x == 0#64 then 16 else 5 } := by unfold takeP; rw [if_neg (by omega), if_neg (by omega), if_neg (by omega), if_neg (by omega), if_pos h]
theorem takeP_5 {p : PenT} (h : p.ph = 5) (x : BitVec 64) : takeP p x = { p with live := x, ph := 6 } := by unfold takeP; rw [if_neg (by omega), if_neg (by omega), if_neg (by omega), if_neg (by omega), if_neg (by omega), if_pos h]
theorem takeP_6 {p : PenT} (h : 6 ≤ p.ph) (x : BitVec 64) : takeP p x = { p with ph := nextP (wantsP p) p.ph } := by unfold takeP; rw [if_neg (by omega), if_neg (by omega), if_neg (by omega), if_neg (by omega), if_neg (by omega), if_neg (by omega)]
set_option maxHeartbeats 1000000 in
set_option maxRecDepth 100000 in
theorem takes_0 (p : PenT) (hph : p.ph = 0) (x : BitVec 64) (g : Nat) (w : World) (hg : w.heap[g]? = some (.cells (penC p) 170 (0, 0))) : Calls Tryz.prog 159 #[.pointer (some ⟨g, 0, none⟩), U x] w (PenPost g (takeP p x) w) := by
  have HT := Lib.hid (takeP_0 hph x)
  have ho : oddB x = true ∨ oddB x = false := by cases oddB x <;> simp
  generalize takeP p x = d at *
  rcases ho with ho | ho
  all_goals
    rw [ho] at HT
    go_enter Tryz.func159, Tryz.ntmps159
    go_wp2
    first | go_end0 | (refine bodyPost_ret (results_none Tryz.results159 _ _ _) rfl ?_)
    rw [HT.out]
  · refine ⟨rfl, (Ch.refl [g] w).setCell (p := ⟨g, 0, none⟩) (.inl (by simp)) _, ?_⟩
    simp [go_sem, hg]
  · refine ⟨rfl, (((Ch.refl [g] w).setCell (p := ⟨g, 7, none⟩) (.inl (by simp)) _).setCell (p := ⟨g, 10, none⟩) (.inl (by simp)) _).setCell (p := ⟨g, 0, none⟩) (.inl (by simp)) _, ?_⟩
    simp [go_sem, hg]
set_option maxHeartbeats 1000000 in
set_option maxRecDepth 100000 in
theorem takes_1 (p : PenT) (R : RightP p) (hph : p.ph = 1) (x : BitVec 64) (g : Nat) (w : World) (hg : w.heap[g]? = some (.cells (penC p) 170 (0, 0))) : Calls Tryz.prog 159 #[.pointer (some ⟨g, 0, none⟩), U x] w (PenPost g (takeP p x) w) := by
  rw [takeP_1 hph x]
  have L1 := wLooked_any p R.grp x g w hg
  generalize lookedP p x = d at *
  clear R
  go_enter Tryz.func159, Tryz.ntmps159
  go_wp2_with fail
  refine L1.mono ?_
  rintro e w1 ⟨rfl, hc1, h1⟩
  go_wp2
  go_end0
  exact ⟨rfl, hc1, h1⟩
set_option maxHeartbeats 1000000 in
set_option maxRecDepth 100000 in
theorem takes_2 (p : PenT) (R : RightP p) (hph : p.ph = 2) (x : BitVec 64) (g : Nat) (w : World) (hg : w.heap[g]? = some (.cells (penC p) 170 (0, 0))) : Calls Tryz.prog 159 #[.pointer (some ⟨g, 0, none⟩), U x] w (PenPost g (takeP p x) w) := by
  have HT := Lib.hid (takeP_2 hph x)
  have G1 := fun w hg => wGroup_any p R.grp g w hg
  have L1 := fun w hg => wLane_any p g w hg
  have O1 := fun w hg => wOn_any { p with left := p.left &&& ~~~(1#8 <<< laneP p.left) } R.grp g w hg
  have hg2 : (groupP p : Int) < 2 := by have := groupP_lt p; omega
  have hl8 : (laneP p.left : Int) < 8 := by have := laneP_lt p.left; omega
  have hl8' := laneP_lt p.left
  generalize takeP p x = d at *
  generalize onP { p with left := p.left &&& ~~~(1#8 <<< laneP p.left) } = q at *
  generalize groupP p = gp at *
  generalize laneP p.left = l at *
  clear R
  have hk : (x == p.key) = true ∨ (x == p.key) = false := by cases (x == p.key) <;> simp
  rcases hk with hk | hk
  · rw [hk] at HT
    go_enter Tryz.func159, Tryz.ntmps159
    go_wp2_with fail
    refine (G1 _ hg).mono ?_
    rintro e w1 ⟨rfl, hc1⟩
    have h1 := hkeep hc1 hg
    go_wp2_with fail
    refine (L1 _ h1).mono ?_
    rintro e w2 ⟨rfl, hc2⟩
    have h2 := hkeep hc2 h1
    have C2 := hc1.trans hc2
    clear hg h1 hc1 hc2
    go_wp2
    first | go_end0 | (refine bodyPost_ret (results_none Tryz.results159 _ _ _) rfl ?_)
    refine ⟨rfl, ((C2.of_nil).setCell (p := ⟨g, 15, none⟩) (.inl (by simp)) _).setCell (p := ⟨g, 0, none⟩) (.inl (by simp)) _, ?_⟩
    rw [HT.out]
    simp [go_sem, h2]
  · rw [hk] at HT
    go_enter Tryz.func159, Tryz.ntmps159
    go_wp2_with fail
    have hgg : ∀ g1 : Gar w, (g1.1).heap[g]? = some (.cells (penC p) 170 (0, 0)) := fun g1 => hkeep g1.2 hg
    refine wp_region_gar_tail 9 (by kernel_rfl) (by kernel_rfl) ?_
    simp only [List.take_succ_cons, List.take_zero, List.drop_succ_cons, List.drop_zero]
    repeat (go_big_quiet_step (exact garC (L1 _ (hgg _))))
    refine wpQuiet_nil ?_
    rintro W1 ⟨g1, hw1⟩
    have hc1 : Ch [] w W1 := by rw [hw1]; exact g1.2
    have h1 := hkeep hc1 hg
    clear hw1 g1 hgg hg
    go_wp2_with fail
    have hq : (W1.setCell ⟨g, 12, none⟩ (.int .u8 (N (p.left &&& ~~~laneM l)))).heap[g]? = some (.cells (penC { p with left := p.left &&& ~~~(1#8 <<< l) }) 170 (0, 0)) := by simp [go_sem, h1, laneM]
    refine (O1 _ hq).mono ?_
    rintro e W2 ⟨rfl, hc2, h2⟩
    go_wp2
    go_end0
    refine ⟨rfl, ((hc1.of_nil).setCell (p := ⟨g, 12, none⟩) (.inl (by simp)) _).trans hc2, ?_⟩
    rw [HT.out, if_neg (by decide)]; exact h2
set_option maxHeartbeats 1000000 in
set_option maxRecDepth 100000 in
theorem takes_3 (p : PenT) (hph : p.ph = 3) (x : BitVec 64) (g : Nat) (w : World) (hg : w.heap[g]? = some (.cells (penC p) 170 (0, 0))) : Calls Tryz.prog 159 #[.pointer (some ⟨g, 0, none⟩), U x] w (PenPost g (takeP p x) w) := by
  rw [takeP_3 hph x]
  have D1 := fun w hg => wDecided_any { p with val := x, found := true } g w hg
  generalize decidedP { p with val := x, found := true } = d at *
  go_enter Tryz.func159, Tryz.ntmps159
  go_wp2_with fail
  refine (D1 _ (by simp [go_sem, hg])).mono ?_
  rintro e w1 ⟨rfl, hc1, h1⟩
  go_wp2
  go_end0
  exact ⟨rfl, (((Ch.refl [g] w).setCell (p := ⟨g, 16, none⟩) (.inl (by simp)) _).setCell (p := ⟨g, 17, none⟩) (.inl (by simp)) _).trans hc1, h1⟩
set_option maxHeartbeats 1000000 in
set_option maxRecDepth 100000 in
theorem takes_5 (p : PenT) (hph : p.ph = 5) (x : BitVec 64) (g : Nat) (w : World) (hg : w.heap[g]? = some (.cells (penC p) 170 (0, 0))) : Calls Tryz.prog 159 #[.pointer (some ⟨g, 0, none⟩), U x] w (PenPost g (takeP p x) w) := by
  have HT := Lib.hid (takeP_5 hph x)
  generalize takeP p x = d at *
  go_enter Tryz.func159, Tryz.ntmps159
  go_wp2
  go_end0
  refine ⟨rfl, ((Ch.refl [g] w).setCell (p := ⟨g, 9, none⟩) (.inl (by simp)) _).setCell (p := ⟨g, 0, none⟩) (.inl (by simp)) _, ?_⟩
  rw [HT.out]
  simp [go_sem, hg]
set_option maxHeartbeats 1000000 in
set_option maxRecDepth 100000 in
theorem takes_6 (p : PenT) (R : RightP p) (h6 : 6 ≤ p.ph) (h13 : p.ph ≤ 13) (x : BitVec 64) (g : Nat) (w : World) (hg : w.heap[g]? = some (.cells (penC p) 170 (0, 0))) : Calls Tryz.prog 159 #[.pointer (some ⟨g, 0, none⟩), U x] w (PenPost g (takeP p x) w) := by
  rw [takeP_6 h6 x]
  have hth := ((R.goes.resolve_left (by omega)).resolve_left (by omega)).1
  have hn3 : wantsP p = 1 ∨ wantsP p = 2 ∨ wantsP p = 3 := by
    rcases wantsP_cases p with h | h | h | h
    · rw [h, goes_zero p.ph (by omega) h13] at hth; cases hth
    · exact .inl h
    · exact .inr (.inl h)
    · exact .inr (.inr h)
  have hmem : p.ph ∈ storesL (wantsP p) := by
    rw [goes_mem (wantsP p) hn3 p.ph (by omega) h13 (by omega)] at hth
    simpa using hth
  have N1 := wNext_any p hn3 hmem g w hg
  clear R hth hn3 hmem
  generalize nextP (wantsP p) p.ph = np at *
  have e0 : (p.ph == 0) = false := by simp; omega
  have e1 : (p.ph == 1) = false := by simp; omega
  have e2 : (p.ph == 2) = false := by simp; omega
  have e3 : (p.ph == 3) = false := by simp; omega
  have e4 : (p.ph == 4) = false := by simp; omega
  have e5 : (p.ph == 5) = false := by simp; omega
  clear h6 h13
  go_enter Tryz.func159, Tryz.ntmps159
  go_wp2_with fail
  refine N1.mono ?_
  rintro e w1 ⟨rfl, hc1, h1⟩
  go_wp2
  go_end0
  exact ⟨rfl, hc1, h1⟩
set_option maxHeartbeats 2000000 in
set_option maxRecDepth 100000 in
theorem takes_4 (p : PenT) (R : RightP p) (hph : p.ph = 4) (x : BitVec 64) (g : Nat) (w : World) (hg : w.heap[g]? = some (.cells (penC p) 170 (0, 0))) : Calls Tryz.prog 159 #[.pointer (some ⟨g, 0, none⟩), U x] w (PenPost g (takeP p x) w) := by
  have HT := Lib.hid (takeP_4 hph x)
  have W1 : ∀ w, w.heap[g]? = some (.cells (penC { p with can := x, ph := 5 }) 170 (0, 0)) → Calls Tryz.prog 115 #[.pointer (some ⟨g, 0, none⟩)] w fun e w' => e = .returned (I (wantsP p : Nat)) ∧ Ch [] w w' := fun w hg => wants_any { p with can := x, ph := 5 } g w hg
  have S1 : ∀ w, w.heap[g]? = some (.cells (penC { p with can := x, ph := 5 }) 170 (0, 0)) → Calls Tryz.prog 225 #[.pointer (some ⟨g, 0, none⟩)] w fun e w' => e = .returned (I (slotP p)) ∧ Ch [] w w' := fun w hg => wSlot_any { p with can := x, ph := 5 } R.free0 R.free1 g w hg
  have E2 : ∀ w, Calls Tryz.prog 208 #[U p.fctrl, .int .u8 128] w fun e w' => e = .returned (Y (emptyM p.fctrl)) ∧ w = w' := fun w => equal_any p.fctrl 128#8 w
  have hslot : slotP p = if wantsP p == 1 then p.free - 1 else p.slot := by rw [slotP]
  have hwas : wasP p = (emptyM p.fctrl).getLsbD ((p.free - 1).toNat % 8) := by rw [wasP]
  have hf0 := R.free0
  have hf1 := R.free1
  have hfr : wantsP p = 1 → 0 < p.free := fun h => by have := ((R.goes.resolve_left (by omega)).resolve_left (by omega)).2; omega
  have hn : wantsP p = 1 ∨ ((wantsP p : Int) == 1) = false ∧ (wantsP p == 1) = false := by
    rcases (show wantsP p = 1 ∨ wantsP p ≠ 1 by omega) with h | h
    · exact .inl h
    · exact .inr ⟨by simp; omega, by simpa using h⟩
  have hx0 : ((N x == 0) = true ∧ (x == 0#64) = true) ∨ ((N x == 0) = false ∧ (x == 0#64) = false) := by
    have : (N x == 0) = (x == 0#64) := by rw [← eqN]; rfl
    rw [this]; cases (x == 0#64) <;> simp
  clear R
  generalize takeP p x = d at *
  generalize emptyM p.fctrl = fm at *
  generalize wasP p = ws at *
  generalize slotP p = s at *
  generalize wantsP p = n at *
  have C0 : Ch [g] w ((w.setCell ⟨g, 8, none⟩ (.int .u64 (N x))).setCell ⟨g, 0, none⟩ (.int .i64 5)) := ((Ch.refl [g] w).setCell (p := ⟨g, 8, none⟩) (.inl (by simp)) _).setCell (p := ⟨g, 0, none⟩) (.inl (by simp)) _
  have g0' : ((w.setCell ⟨g, 8, none⟩ (.int .u64 (N x))).setCell ⟨g, 0, none⟩ (.int .i64 5)).heap[g]? = some (.cells (penC { p with can := x, ph := 5 }) 170 (0, 0)) := by simp [go_sem, hg]
  rcases hn with rfl | ⟨hn, hnb⟩
  · have hf := hfr rfl
    obtain ⟨sn, hsn⟩ : ∃ n : Nat, p.free - 1 = n := ⟨(p.free - 1).toNat, by omega⟩
    have hs : s = (sn : Int) := by rw [hslot]; exact hsn
    rw [hsn, Int.toNat_natCast] at hwas
    obtain ⟨k, hk⟩ : ∃ k, sn % 8 = k := ⟨_, rfl⟩
    have hmod : (sn : Int) % 8 = (k : Int) := by omega
    have hk8 : k < 8 := by omega
    have hsn0 : (0 : Int) ≤ sn := by omega
    rw [hk, ← and_laneW fm k hk8] at hwas
    rw [hs] at S1
    have hd := left_casesW (fm &&& laneM k)
    clear hslot hs hsn hf hfr hf0 hf1 hk
    rw [← hwas] at hd
    clear hwas
    rcases hd with ⟨rfl, d1, d2⟩ | ⟨rfl, d1, d2⟩ <;> rcases hx0 with ⟨y1, y2⟩ | ⟨y1, y2⟩
    all_goals
      rw [y2] at HT
      clear y2
      go_enter Tryz.func159, Tryz.ntmps159
      go_wp2_with fail
      generalize (w.setCell ⟨g, 8, none⟩ (.int .u64 (N x))).setCell ⟨g, 0, none⟩ (.int .i64 5) = W0 at *
      refine (W1 _ g0').mono ?_
      rintro e w1 ⟨rfl, hc1⟩
      have b1 := hkeep hc1 g0'
      clear hg
      go_wp2_with (go_at_call 208; refine (E2 _).mono ?_; rintro e w' ⟨rfl, rfl⟩)
      refine (S1 _ b1).mono ?_
      rintro e w2 ⟨rfl, hc2⟩
      have b2 := hkeep hc2 b1
      have C2 : Ch [g] w w2 := C0.pure (hc1.trans hc2)
      clear hc1 hc2 b1
      go_wp2
      go_end0
      first
        | (refine ⟨rfl, C2, ?_⟩
           rw [HT.out, if_neg (by decide)]
           exact b2)
        | (refine ⟨rfl, C2.setCell (p := ⟨g, 0, none⟩) (.inl (by simp)) _, ?_⟩
           rw [HT.out]
           simp [go_sem, b2])
  · rw [hnb] at HT
    clear hslot hwas S1 E2 hfr hnb hx0
    go_enter Tryz.func159, Tryz.ntmps159
    go_wp2_with fail
    generalize (w.setCell ⟨g, 8, none⟩ (.int .u64 (N x))).setCell ⟨g, 0, none⟩ (.int .i64 5) = W0 at *
    refine (W1 _ g0').mono ?_
    rintro e w1 ⟨rfl, hc1⟩
    have b1 := hkeep hc1 g0'
    go_wp2
    go_end0
    refine ⟨rfl, C0.pure hc1, ?_⟩
    rw [HT.out, if_neg (by simp)]
    exact b1
theorem takes_any (p : PenT) (R : RightP p) (h13 : p.ph ≤ 13) (x : BitVec 64) (g : Nat) (w : World) (hg : w.heap[g]? = some (.cells (penC p) 170 (0, 0))) : Calls Tryz.prog 159 #[.pointer (some ⟨g, 0, none⟩), U x] w (PenPost g (takeP p x) w) := by
  have h0 := R.ph0
  rcases (show p.ph = 0 ∨ p.ph = 1 ∨ p.ph = 2 ∨ p.ph = 3 ∨ p.ph = 4 ∨ p.ph = 5 ∨ 6 ≤ p.ph by omega) with h | h | h | h | h | h | h
  · exact takes_0 p h x g w hg
  · exact takes_1 p R h x g w hg
  · exact takes_2 p R h x g w hg
  · exact takes_3 p h x g w hg
  · exact takes_4 p R h x g w hg
  · exact takes_5 p h x g w hg
  · exact takes_6 p R h h13 x g w hg
end Go.Proofs.Hc
