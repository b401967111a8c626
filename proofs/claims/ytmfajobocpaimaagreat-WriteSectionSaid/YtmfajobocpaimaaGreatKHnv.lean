/- Package write: group, slot, lane, mark, less, value, by. -/
import Derived.Test.YtmfajobocpaimaaGreatKHmet
import Derived.Test.YtmfajobocpaimaaGreatKHcs
import Derived.Test.YtmfajobocpaimaaGreatKHg
import Derived.Test.YtmfajobocpaimaaGreatKHj
import Derived.Test.YtmfajobocpaimaaGreatKHm
import Derived.Test.YtmfajobocpaimaaGreatKHma
import Derived.Test.YtmfajobocpaimaaGreatKHnl
import Derived.Test.YtmfajobocpaimaaGreatKHnq
import Derived.Test.YtmfajobocpaimaaGreatKHye
import Derived.Test.YtmfajobocpaimaaGreatKHni
import Derived.Test.YtmfajobocpaimaaGreatKHxh
import Derived.Below
import Derived.BigQuiet
import Derived.Deep.Draws
import Derived.Deep.Light
import Derived.Deep.QuietTactic
import Derived.Deep.RegionHeld
import Derived.Laws.CopyRow
import Derived.Laws.StructEq
import Derived.Laws.Tables
import Derived.Lib.AppendZerosOnto
import Derived.Lib.Hide
import Derived.Lib.Tables
import Derived.Lib.Walk
import Derived.LoopIn
import Derived.LoopN
import Derived.LoopNIn
import Derived.Maps.AppendAt
import Derived.Maps.Views
import Derived.OwnWalkIn
import Derived.RangeFuncBox
import Derived.RangeFuncCalls
import Derived.RangeFuncRecord
import Derived.RangeFuncSeq
import Derived.Recover
import Derived.RegionTactic
import Derived.ScopeJumps
import Derived.Shelf.Slices.Clone
import Derived.StillTail
import Derived.StillTailTactics
import Derived.TacticsInMore
import Derived.Test.YtmfajobocpaimaaGreatProg
import Derived.WalkKit
import Derived.WalkLawsBesides
import Derived.WalkMore
import Derived.WalkSpells
set_option linter.unusedSimpArgs false
set_option linter.unusedVariables false
namespace Go.Proofs.Hc
open Go.RowKit
attribute [local go_sem] wrap_u64 wrap_u8 bits_xor64 bits_and64 bits_or64 bits_not64 bits_xor8 bits_and8 bits_or8 signed64 signed8 ofInt_N BitVec.ofInt_add BitVec.ofInt_mul ofInt_sub' ofInt8_N64 ofInt64_N8 wide8 eqN neN shr_pow shr1 shr7 shr56
attribute [local go_sem high] bits_com64 shl_wrap
attribute [local go_sem] cell_heap ice_heap cellAt_cells iceAt_cells setAt_cells rowAt_cells canLay_cells laidAt_cells size_onObj size_setCell rowRes_some layRes_true
attribute [local go_sem] load26 load73 load23 store26 build73
attribute [local go_sem ↓] lrow26 lrow73 lrow23 srow26 zero26 brow73 heap_alloc heap_drew heap_drewN heap_setCell heap_onObj
attribute [local go_sem] tcells_size hcells_size tcells_get hcells_get tcells_one hcells_one hcells_table tcells_table hcells_all hcells_ctrl tcells_ctrl
attribute [local go_sem] nn2 nm2 nn3 nm3 nn4 nm4 nn5 nm5 nn6 nm6 nn7 nm7 nn8 nm8
attribute [local go_sem] nn2 nm2 nn3 nm3 nn4 nm4 nn5 nm5 nn6 nm6 nn7 nm7 nn8 nm8
attribute [local go_sem] ofInt_N ofInt_pow8
attribute [local go_sem] Oper.semAt_some make_func1
attribute [local go_sem] pen_g0 pen_g1 pen_g2 pen_g3 pen_g4 pen_g5 pen_g6 pen_g7 pen_g8 pen_g9 pen_g10 pen_g11 pen_g12 pen_g13 pen_g14 pen_g15 pen_g16 pen_g17 penC_size penC_one penC_all
attribute [local irreducible] penC
set_option maxHeartbeats 400000 in
set_option maxRecDepth 100000 in
theorem wGroup_any (p : PenT) (hgr : p.grp = 0 ∨ p.grp = 1) (g : Nat) (w : World) (hg : w.heap[g]? = some (.cells (penC p) 170 (0, 0))) : Calls Tryz.prog 221 #[.pointer (some ⟨g, 0, none⟩)] w fun e w' => e = .returned (I (groupP p : Nat)) ∧ Ch [] w w' := by
  have H1 := fun w => hash1_any p.hash w
  have A1 := fun w => pAt0_any (hash1 p.hash) w
  have A2 := fun w => pAt1_any (hash1 p.hash) w
  have hlt := g0_lt (hash1 p.hash)
  have HG : Hid (groupP p = (g0 (hash1 p.hash) + p.grp.toNat) % 2) := Lib.hid (by rw [groupP])
  have hgg : ∀ g1 : Gar w, (g1.1).heap[g]? = some (.cells (penC p) 170 (0, 0)) := fun g1 => hkeep g1.2 hg
  generalize groupP p = gp at *
  generalize g0 (hash1 p.hash) = x at *
  rcases hgr with hgr | hgr
  · rw [hgr] at HG
    rw [show x = gp by rw [HG.out]; show x = (x + 0) % 2; omega] at A1
    clear A2 HG hlt
    go_enter Tryz.func221, Tryz.ntmps221
    go_wp2
    refine wp_region_gar (by kernel_rfl) (by kernel_rfl) ?_
    repeat (go_big_quiet_step (first | (go_at_call 195; exact garL (H1 _)) | (go_at_call 254; exact garL (A1 _))))
    refine wpQuiet_nil ?_
    rintro W1 ⟨g1, hw1⟩
    have hc1 : Ch [] w W1 := by rw [hw1]; exact g1.2
    clear hw1 g1 hgg
    go_wp2
    go_ret
    exact ⟨rfl, hc1⟩
  · rw [hgr] at HG
    rw [show (x + 1) % 2 = gp by rw [HG.out]; rfl] at A2
    clear A1 HG hlt
    go_enter Tryz.func221, Tryz.ntmps221
    go_wp2
    refine wp_region_gar (by kernel_rfl) (by kernel_rfl) ?_
    repeat (go_big_quiet_step (first | (go_at_call 195; exact garL (H1 _)) | (go_at_call 254; exact garL (A2 _))))
    refine wpQuiet_nil ?_
    rintro W1 ⟨g1, hw1⟩
    have hc1 : Ch [] w W1 := by rw [hw1]; exact g1.2
    clear hw1 g1 hgg
    go_wp2
    go_ret
    exact ⟨rfl, hc1⟩
set_option maxHeartbeats 400000 in
set_option maxRecDepth 100000 in
theorem wSlot_any (p : PenT) (h0 : 0 ≤ p.free) (h1 : p.free ≤ 16) (g : Nat) (w : World) (hg : w.heap[g]? = some (.cells (penC p) 170 (0, 0))) : Calls Tryz.prog 225 #[.pointer (some ⟨g, 0, none⟩)] w fun e w' => e = .returned (I (slotP p)) ∧ Ch [] w w' := by
  have W1 := wants_any p g w hg
  have HS : Hid (slotP p = if wantsP p == 1 then p.free - 1 else p.slot) := Lib.hid (by rw [slotP])
  have hn : wantsP p = 1 ∨ ((wantsP p : Int) == 1) = false ∧ wantsP p ≠ 1 := by rcases (show wantsP p = 1 ∨ wantsP p ≠ 1 by omega) with h | h; exact .inl h; exact .inr ⟨by simp; omega, h⟩
  generalize slotP p = s at *
  generalize wantsP p = n at *
  rcases hn with rfl | ⟨hn, hne⟩
  · go_enter Tryz.func225, Tryz.ntmps225
    go_wp2_with fail
    refine W1.mono ?_
    rintro e w1 ⟨rfl, hc1⟩
    have b1 := hkeep hc1 hg
    go_wp2
    go_ret
    exact ⟨by rw [HS.out]; rfl, hc1⟩
  · have HN := Lib.hid hne
    clear hne
    go_enter Tryz.func225, Tryz.ntmps225
    go_wp2_with fail
    refine W1.mono ?_
    rintro e w1 ⟨rfl, hc1⟩
    have b1 := hkeep hc1 hg
    go_wp2
    go_ret
    exact ⟨by rw [HS.out, if_neg (by simpa using HN.out)]; rfl, hc1⟩
theorem firstV_eq (m : BitVec 8) : ∃ b : Bool, firstV m = .tuple #[I ((laneP m : Nat) : Int), .bool b] := by
  unfold firstV laneP
  cases h : lanesOf m with
  | nil => exact ⟨false, rfl⟩
  | cons x l => exact ⟨true, rfl⟩
set_option maxHeartbeats 400000 in
set_option maxRecDepth 100000 in
theorem wLane_any (p : PenT) (g : Nat) (w : World) (hg : w.heap[g]? = some (.cells (penC p) 170 (0, 0))) : Calls Tryz.prog 222 #[.pointer (some ⟨g, 0, none⟩)] w fun e w' => e = .returned (I (laneP p.left : Nat)) ∧ Ch [] w w' := by
  have F1 := first_any p.left w
  obtain ⟨b, hb⟩ := firstV_eq p.left
  rw [hb] at F1
  clear hb
  generalize laneP p.left = l at *
  go_enter Tryz.func222, Tryz.ntmps222
  go_wp2_with fail
  refine F1.mono ?_
  rintro e w1 ⟨rfl, hc1⟩
  go_wp2
  go_ret
  exact ⟨rfl, hc1⟩
/-- What it stores as a value. -/
def valP (p : PenT) : BitVec 64 := if p.op = 4 then p.b else p.a
set_option maxHeartbeats 400000 in
set_option maxRecDepth 100000 in
theorem wValue_any (p : PenT) (g : Nat) (w : World) (hg : w.heap[g]? = some (.cells (penC p) 170 (0, 0))) : Calls Tryz.prog 232 #[.pointer (some ⟨g, 0, none⟩)] w fun e w' => e = .returned (U (valP p)) ∧ w = w' := by
  have HV : Hid (valP p = if p.op = 4 then p.b else p.a) := Lib.hid (by rw [valP])
  generalize valP p = v at *
  rcases eqw_cases p.op 4 with h | h
  · rw [h, if_pos rfl] at HV
    go_enter Tryz.func232, Tryz.ntmps232
    go_wp2
    go_ret
    exact ⟨by rw [HV.out]; rfl, rfl⟩
  · rw [if_neg (by simpa using h)] at HV
    go_enter Tryz.func232, Tryz.ntmps232
    go_wp2
    go_ret
    exact ⟨by rw [HV.out]; rfl, rfl⟩
set_option maxHeartbeats 400000 in
set_option maxRecDepth 100000 in
theorem wBy_any (p : PenT) (g : Nat) (w : World) (hg : w.heap[g]? = some (.cells (penC p) 170 (0, 0))) : Calls Tryz.prog 235 #[.pointer (some ⟨g, 0, none⟩)] w fun e w' => e = .returned (U (byP (wantsP p))) ∧ Ch [] w w' := by
  have W1 := wants_any p g w hg
  have hb1 : U (byP 1) = .int .u64 1 := rfl
  have hb0 : ∀ n, n ≠ 1 → U (byP n) = .int .u64 18446744073709551615 := fun n h => by rw [byP_drop n h]; exact U_minus
  have hn : wantsP p = 1 ∨ ((wantsP p : Int) == 1) = false ∧ wantsP p ≠ 1 := by rcases (show wantsP p = 1 ∨ wantsP p ≠ 1 by omega) with h | h; exact .inl h; exact .inr ⟨by simp; omega, h⟩
  generalize wantsP p = n at *
  rcases hn with rfl | ⟨hn, hne⟩
  · rw [hb1]
    clear hb1 hb0
    go_enter Tryz.func235, Tryz.ntmps235
    go_wp2_with fail
    refine W1.mono ?_
    rintro e w1 ⟨rfl, hc1⟩
    go_wp2
    go_ret
    exact ⟨rfl, hc1⟩
  · rw [hb0 n hne]
    clear hb1 hb0 hne
    go_enter Tryz.func235, Tryz.ntmps235
    go_wp2_with fail
    refine W1.mono ?_
    rintro e w1 ⟨rfl, hc1⟩
    go_wp2
    go_ret
    exact ⟨rfl, hc1⟩
end Go.Proofs.Hc
/- Package write: less. -/
namespace Go.Proofs.Hc
open Go.RowKit
attribute [local go_sem] wrap_u64 wrap_u8 bits_xor64 bits_and64 bits_or64 bits_not64 bits_xor8 bits_and8 bits_or8 signed64 signed8 ofInt_N BitVec.ofInt_add BitVec.ofInt_mul ofInt_sub' ofInt8_N64 ofInt64_N8 wide8 eqN neN shr_pow shr1 shr7 shr56
attribute [local go_sem high] bits_com64 shl_wrap
attribute [local go_sem] cell_heap ice_heap cellAt_cells iceAt_cells setAt_cells rowAt_cells canLay_cells laidAt_cells size_onObj size_setCell rowRes_some layRes_true
attribute [local go_sem] load26 load73 load23 store26 build73
attribute [local go_sem ↓] lrow26 lrow73 lrow23 srow26 zero26 brow73 heap_alloc heap_drew heap_drewN heap_setCell heap_onObj
attribute [local go_sem] tcells_size hcells_size tcells_get hcells_get tcells_one hcells_one hcells_table tcells_table hcells_all hcells_ctrl tcells_ctrl
attribute [local go_sem] nn2 nm2 nn3 nm3 nn4 nm4 nn5 nm5 nn6 nm6 nn7 nm7 nn8 nm8
attribute [local go_sem] nn2 nm2 nn3 nm3 nn4 nm4 nn5 nm5 nn6 nm6 nn7 nm7 nn8 nm8
attribute [local go_sem] ofInt_N ofInt_pow8
attribute [local go_sem] Oper.semAt_some make_func1
attribute [local go_sem] pen_g0 pen_g1 pen_g2 pen_g3 pen_g4 pen_g5 pen_g6 pen_g7 pen_g8 pen_g9 pen_g10 pen_g11 pen_g12 pen_g13 pen_g14 pen_g15 pen_g16 pen_g17 penC_size penC_one penC_all
attribute [local irreducible] penC
/-- How many slots can be filled then. -/
def lessP (p : PenT) : BitVec 64 := if wantsP p == 1 && wasP p then p.can - 1#64 else if wantsP p == 3 && emptyM p.ctrl != 0#8 then p.can + 1#64 else p.can
theorem and_laneW : ∀ (m : BitVec 8) (x : Nat), x < 8 → (m &&& laneM x != 0#8) = m.getLsbD x := by
  have h : ∀ (m : BitVec 8) (x : Fin 8), (m &&& laneM x.1 != 0#8) = m.getLsbD x.1 := by decide +kernel
  intro m x hx; exact h m ⟨x, hx⟩
set_option maxHeartbeats 2000000 in
set_option maxRecDepth 100000 in
theorem wLess_any (p : PenT) (hf0 : 0 ≤ p.free) (hf1 : p.free ≤ 16) (hfr : wantsP p = 1 → 0 < p.free) (g : Nat) (w : World) (hg : w.heap[g]? = some (.cells (penC p) 170 (0, 0))) : Calls Tryz.prog 234 #[.pointer (some ⟨g, 0, none⟩)] w fun e w' => e = .returned (U (lessP p)) ∧ Ch [] w w' := by
  have W1 := fun w hg => wants_any p g w hg
  have S1 := fun w hg => wSlot_any p hf0 hf1 g w hg
  have E1 : ∀ w, Calls Tryz.prog 208 #[U p.ctrl, .int .u8 128] w fun e w' => e = .returned (Y (emptyM p.ctrl)) ∧ w = w' := fun w => equal_any p.ctrl 128#8 w
  have E2 : ∀ w, Calls Tryz.prog 208 #[U p.fctrl, .int .u8 128] w fun e w' => e = .returned (Y (emptyM p.fctrl)) ∧ w = w' := fun w => equal_any p.fctrl 128#8 w
  have HL : Hid (lessP p = if wantsP p == 1 && wasP p then p.can - 1#64 else if wantsP p == 3 && emptyM p.ctrl != 0#8 then p.can + 1#64 else p.can) := Lib.hid (by rw [lessP])
  have hem := left_casesW (emptyM p.ctrl)
  have hslot : slotP p = if wantsP p == 1 then p.free - 1 else p.slot := by rw [slotP]
  have hwas : wasP p = (emptyM p.fctrl).getLsbD ((p.free - 1).toNat % 8) := by rw [wasP]
  have hn : wantsP p = 1 ∨ wantsP p = 3 ∨ (((wantsP p : Int) == 1) = false ∧ ((wantsP p : Int) == 3) = false) ∧ wantsP p ≠ 1 ∧ wantsP p ≠ 3 := by
    rcases wantsP_cases p with h | h | h | h <;> rw [h] <;> simp
  generalize lessP p = r at *
  generalize emptyM p.ctrl = em at *
  generalize emptyM p.fctrl = fm at *
  generalize wasP p = ws at *
  generalize slotP p = s at *
  generalize wantsP p = n at *
  rcases hn with rfl | rfl | ⟨⟨n1, n3⟩, hn1, hn3⟩
  · have hf := hfr rfl
    obtain ⟨sn, hsn⟩ : ∃ n : Nat, p.free - 1 = n := ⟨(p.free - 1).toNat, by omega⟩
    have hs : s = (sn : Int) := by rw [hslot]; exact hsn
    rw [hsn, Int.toNat_natCast] at hwas
    obtain ⟨k, hk⟩ : ∃ k, sn % 8 = k := ⟨_, rfl⟩
    have hmod : (sn : Int) % 8 = (k : Int) := by omega
    have hk8 : k < 8 := by omega
    have hsn0 : (0 : Int) ≤ sn := by omega
    rw [hk, ← and_laneW fm k hk8] at hwas
    rw [hs] at S1
    have hd := left_casesW (fm &&& laneM k)
    clear hslot hs hsn hf hfr hf0 hf1 hem E1 hk
    rw [← hwas] at hd
    rcases hd with ⟨rfl, d1, d2⟩ | ⟨rfl, d1, d2⟩
    all_goals
      clear hwas
      go_enter Tryz.func234, Tryz.ntmps234
      go_wp2_with fail
      refine (W1 _ hg).mono ?_
      rintro e w1 ⟨rfl, hc1⟩
      have b1 := hkeep hc1 hg
      clear hg
      go_wp2_with (go_at_call 208; refine (E2 _).mono ?_; rintro e w' ⟨rfl, rfl⟩)
      refine (S1 _ b1).mono ?_
      rintro e w2 ⟨rfl, hc2⟩
      have b2 := hkeep hc2 b1
      have C2 := hc1.trans hc2
      clear hc1 hc2 b1
      first
        | (go_wp2
           go_ret
           exact ⟨by rw [HL.out]; rfl, C2⟩)
        | (go_wp2_with fail
           refine (W1 _ b2).mono ?_
           rintro e w3 ⟨rfl, hc3⟩
           have b3 := hkeep hc3 b2
           go_wp2
           go_ret
           exact ⟨by rw [HL.out]; rfl, C2.trans hc3⟩)
  · clear hslot hwas S1 E2 hfr
    rcases hem with ⟨he, e1, e2⟩ | ⟨he, e1, e2⟩
    all_goals
      rw [he] at HL
      clear he
      go_enter Tryz.func234, Tryz.ntmps234
      go_wp2_with fail
      refine (W1 _ hg).mono ?_
      rintro e w1 ⟨rfl, hc1⟩
      have b1 := hkeep hc1 hg
      clear hg
      go_wp2_with fail
      refine (W1 _ b1).mono ?_
      rintro e w2 ⟨rfl, hc2⟩
      have b2 := hkeep hc2 b1
      have C2 := hc1.trans hc2
      clear hc1 hc2 b1
      go_wp2_with (go_at_call 208; refine (E1 _).mono ?_; rintro e w' ⟨rfl, rfl⟩)
      go_ret
      exact ⟨by rw [HL.out]; rfl, C2⟩
  · clear hslot hwas S1 E1 E2 hfr hem
    have HN := Lib.hid hn1
    have HN3 := Lib.hid hn3
    clear hn1 hn3
    go_enter Tryz.func234, Tryz.ntmps234
    go_wp2_with fail
    refine (W1 _ hg).mono ?_
    rintro e w1 ⟨rfl, hc1⟩
    have b1 := hkeep hc1 hg
    clear hg
    go_wp2_with fail
    refine (W1 _ b1).mono ?_
    rintro e w2 ⟨rfl, hc2⟩
    have b2 := hkeep hc2 b1
    have C2 := hc1.trans hc2
    clear hc1 hc2 b1
    go_wp2
    go_ret
    refine ⟨?_, C2⟩
    rw [HL.out, show (n == 1) = false by simpa using HN.out, show (n == 3) = false by simpa using HN3.out]
    rfl
end Go.Proofs.Hc
/- Package write: decided, on, looked, next. -/
namespace Go.Proofs.Hc
open Go.RowKit
attribute [local go_sem] wrap_u64 wrap_u8 bits_xor64 bits_and64 bits_or64 bits_not64 bits_xor8 bits_and8 bits_or8 signed64 signed8 ofInt_N BitVec.ofInt_add BitVec.ofInt_mul ofInt_sub' ofInt8_N64 ofInt64_N8 wide8 eqN neN shr_pow shr1 shr7 shr56
attribute [local go_sem high] bits_com64 shl_wrap
attribute [local go_sem] cell_heap ice_heap cellAt_cells iceAt_cells setAt_cells rowAt_cells canLay_cells laidAt_cells size_onObj size_setCell rowRes_some layRes_true
attribute [local go_sem] load26 load73 load23 store26 build73
attribute [local go_sem ↓] lrow26 lrow73 lrow23 srow26 zero26 brow73 heap_alloc heap_drew heap_drewN heap_setCell heap_onObj
attribute [local go_sem] tcells_size hcells_size tcells_get hcells_get tcells_one hcells_one hcells_table tcells_table hcells_all hcells_ctrl tcells_ctrl
attribute [local go_sem] nn2 nm2 nn3 nm3 nn4 nm4 nn5 nm5 nn6 nm6 nn7 nm7 nn8 nm8
attribute [local go_sem] nn2 nm2 nn3 nm3 nn4 nm4 nn5 nm5 nn6 nm6 nn7 nm7 nn8 nm8
attribute [local go_sem] ofInt_N ofInt_pow8
attribute [local go_sem] Oper.semAt_some make_func1
attribute [local go_sem] pen_g0 pen_g1 pen_g2 pen_g3 pen_g4 pen_g5 pen_g6 pen_g7 pen_g8 pen_g9 pen_g10 pen_g11 pen_g12 pen_g13 pen_g14 pen_g15 pen_g16 pen_g17 penC_size penC_one penC_all
attribute [local irreducible] penC
attribute [local go_sem] pen_s0 pen_s1 pen_s2 pen_s3 pen_s4 pen_s5 pen_s6 pen_s7 pen_s8 pen_s9 pen_s10 pen_s11 pen_s12 pen_s13 pen_s14 pen_s15 pen_s16 pen_s17
/-- A pen at a block, behind a call that changed it. -/
def PenPost (g : Nat) (q : PenT) (w : World) (e : Ending) (w' : World) : Prop := e = .returned (.tuple #[]) ∧ Ch [g] w w' ∧ w'.heap[g]? = some (.cells (penC q) 170 (0, 0))
set_option maxHeartbeats 1000000 in
set_option maxRecDepth 100000 in
theorem wDecided_any (p : PenT) (g : Nat) (w : World) (hg : w.heap[g]? = some (.cells (penC p) 170 (0, 0))) : Calls Tryz.prog 224 #[.pointer (some ⟨g, 0, none⟩)] w (PenPost g (decidedP p) w) := by
  have W1 := wants_any p g w hg
  have HD : Hid (decidedP p = { p with ph := if wantsP p = 0 then 14 else if wantsP p = 2 then 6 else if wantsP p = 1 ∧ p.free = 0 then 16 else 4 }) := Lib.hid (by rw [decidedP])
  have hw := wantsP_cases p
  generalize decidedP p = d at *
  generalize wantsP p = n at *
  have hf : p.free = 0 ∨ (p.free == 0) = false := eqw_cases _ _
  rcases hf with hf | hf <;> rcases hw with rfl | rfl | rfl | rfl
  all_goals
    go_enter Tryz.func224, Tryz.ntmps224
    go_wp2_with fail
    refine W1.mono ?_
    rintro e w1 ⟨rfl, hc1⟩
    have b1 := hkeep hc1 hg
    clear hg W1
    go_wp2
    go_end0
    refine ⟨rfl, (hc1.of_nil).setCell (p := ⟨g, 0, none⟩) (.inl (by simp)) _, ?_⟩
    rw [HD.out]
    first | (simp [go_sem, b1, hf]; done) | (simp [go_sem, b1, show ¬ p.free = 0 by simpa using hf]; done)
set_option maxHeartbeats 1000000 in
set_option maxRecDepth 100000 in
theorem wOn_any (p : PenT) (hgr : p.grp = 0 ∨ p.grp = 1) (g : Nat) (w : World) (hg : w.heap[g]? = some (.cells (penC p) 170 (0, 0))) : Calls Tryz.prog 223 #[.pointer (some ⟨g, 0, none⟩)] w (PenPost g (onP p) w) := by
  have E1 : ∀ w, Calls Tryz.prog 208 #[U p.ctrl, .int .u8 128] w fun e w' => e = .returned (Y (emptyM p.ctrl)) ∧ w = w' := fun w => equal_any p.ctrl 128#8 w
  have D1 := wDecided_any p g w hg
  have HD : Hid (onP p = if p.left != 0#8 then { p with ph := 2 } else if emptyM p.ctrl != 0#8 || p.grp == 1 then decidedP p else { p with grp := 1, ph := 1 }) := Lib.hid (by rw [onP])
  have hem := left_casesW (emptyM p.ctrl)
  generalize onP p = d at *
  generalize decidedP p = q at *
  generalize emptyM p.ctrl = em at *
  rcases left_casesW p.left with ⟨hl, l1, l2⟩ | ⟨hl, l1, l2⟩
  · rw [hl] at HD
    clear hl
    go_enter Tryz.func223, Tryz.ntmps223
    go_wp2
    go_end0
    refine ⟨rfl, (Ch.refl [g] w).setCell (p := ⟨g, 0, none⟩) (.inl (by simp)) _, ?_⟩
    rw [HD.out]
    simp [go_sem, hg]
  · rw [hl] at HD
    clear hl
    rcases hem with ⟨he, e1, e2⟩ | ⟨he, e1, e2⟩
    · rw [he] at HD
      clear he
      go_enter Tryz.func223, Tryz.ntmps223
      go_wp2_with (go_at_call 208; refine (E1 _).mono ?_; rintro e w' ⟨rfl, rfl⟩)
      refine D1.mono ?_
      rintro e w1 ⟨rfl, hc1, b1⟩
      go_wp2
      go_end0
      refine ⟨rfl, hc1, ?_⟩
      rw [HD.out]; exact b1
    · rw [he] at HD
      clear he
      rcases hgr with hgr | hgr
      · go_enter Tryz.func223, Tryz.ntmps223
        go_wp2_with (go_at_call 208; refine (E1 _).mono ?_; rintro e w' ⟨rfl, rfl⟩)
        go_end0
        refine ⟨rfl, ((Ch.refl [g] w).setCell (p := ⟨g, 10, none⟩) (.inl (by simp)) _).setCell (p := ⟨g, 0, none⟩) (.inl (by simp)) _, ?_⟩
        rw [HD.out]
        simp [go_sem, hg, hgr]
      · go_enter Tryz.func223, Tryz.ntmps223
        go_wp2_with (go_at_call 208; refine (E1 _).mono ?_; rintro e w' ⟨rfl, rfl⟩)
        refine D1.mono ?_
        rintro e w1 ⟨rfl, hc1, b1⟩
        go_wp2
        go_end0
        refine ⟨rfl, hc1, ?_⟩
        rw [HD.out, hgr]; exact b1
set_option maxHeartbeats 2000000 in
set_option maxRecDepth 100000 in
theorem wLooked_any (p : PenT) (hgr : p.grp = 0 ∨ p.grp = 1) (x : BitVec 64) (g : Nat) (w : World) (hg : w.heap[g]? = some (.cells (penC p) 170 (0, 0))) : Calls Tryz.prog 220 #[.pointer (some ⟨g, 0, none⟩), U x] w (PenPost g (lookedP p x) w) := by
  have H1 := fun w => hash2_any p.hash w
  have Q1 := fun w => equal_any x (hash2 p.hash) w
  have E1 : ∀ w, Calls Tryz.prog 208 #[U x, .int .u8 128] w fun e w' => e = .returned (Y (emptyM x)) ∧ w = w' := fun w => equal_any x 128#8 w
  have E2 : ∀ w, Calls Tryz.prog 208 #[U x, .int .u8 254] w fun e w' => e = .returned (Y (delM x)) ∧ w = w' := fun w => equal_any x 254#8 w
  have F1 := fun w => first_any (freeM x) w
  have HL : Hid (lookedP p x = onP (freeP (seenP p x) x (lanesOf (freeM x)).head?)) := Lib.hid (by rw [lookedP])
  have HS : Hid (seenP p x = { p with ctrl := x, left := equalM x (hash2 p.hash) }) := Lib.hid (by rw [seenP])
  have hfm : N (emptyM x ||| delM x) = N (freeM x) := rfl
  have hfc := first_cases (freeM x)
  have hg2 : (groupP p : Int) < 2 := by have := groupP_lt p; omega
  have G1 : ∀ w, w.heap[g]? = some (.cells (penC { p with ctrl := x, left := equalM x (hash2 p.hash) }) 170 (0, 0)) → Calls Tryz.prog 221 #[.pointer (some ⟨g, 0, none⟩)] w fun e w' => e = .returned (I (groupP p : Nat)) ∧ Ch [] w w' := fun w h => wGroup_any { p with ctrl := x, left := equalM x (hash2 p.hash) } hgr g w h
  have O1 := fun q (hq : q.grp = p.grp) w hg => wOn_any q (by rw [hq]; exact hgr) g w hg
  have hgs : groupP (seenP p x) = groupP p := rfl
  clear hgr
  generalize freeM x = fm at *
  generalize emptyM x = m1 at *
  generalize delM x = m2 at *
  generalize equalM x (hash2 p.hash) = lf at *
  have HF : Hid (∀ y : Nat, (lanesOf fm).head? = some y → freeP (seenP p x) x (some y) = if p.free = 0 then { p with ctrl := x, left := lf, free := ((8 * groupP p + y + 1 : Nat) : Int), fctrl := x } else { p with ctrl := x, left := lf }) := Lib.hid (fun y _ => by
    unfold freeP
    simp only
    rw [hgs, HS.out])
  clear hgs
  generalize groupP p = gp at *
  generalize lookedP p x = d at *
  have hf : p.free = 0 ∨ (p.free == 0) = false := eqw_cases _ _
  rcases hfc with ⟨hnone, hv⟩ | ⟨y, hy8, hsome, hv⟩
  · rw [hnone] at HL
    rw [hv] at F1
    have HD : Hid (d = onP { p with ctrl := x, left := lf }) := Lib.hid (by rw [HL.out, ← HS.out]; rfl)
    have O2 := fun w hg => O1 { p with ctrl := x, left := lf } rfl w hg
    clear hnone hv O1 HF HL HS hf G1
    generalize onP { p with ctrl := x, left := lf } = q at *
    go_enter Tryz.func220, Tryz.ntmps220
    go_wp2_with (first
      | (go_at_call 204; refine (H1 _).mono ?_; rintro e w' ⟨rfl, rfl⟩)
      | (go_at_call 208; ((with_reducible refine (Q1 _).mono ?_); rintro e w' ⟨rfl, rfl⟩))
      | (go_at_call 208; ((with_reducible refine (E1 _).mono ?_); rintro e w' ⟨rfl, rfl⟩))
      | (go_at_call 208; ((with_reducible refine (E2 _).mono ?_); rintro e w' ⟨rfl, rfl⟩)))
    have c2 : ((w.setCell ⟨g, 11, none⟩ (.int .u64 (N x))).setCell ⟨g, 12, none⟩ (.int .u8 (N lf))).heap[g]? = some (.cells (penC { p with ctrl := x, left := lf }) 170 (0, 0)) := by simp [go_sem, hg]
    have C2 : Ch [g] w ((w.setCell ⟨g, 11, none⟩ (.int .u64 (N x))).setCell ⟨g, 12, none⟩ (.int .u8 (N lf))) := ((Ch.refl [g] w).setCell (p := ⟨g, 11, none⟩) (.inl (by simp)) _).setCell (p := ⟨g, 12, none⟩) (.inl (by simp)) _
    generalize (w.setCell ⟨g, 11, none⟩ (.int .u64 (N x))).setCell ⟨g, 12, none⟩ (.int .u8 (N lf)) = W2 at *
    clear hg
    refine (F1 _).mono ?_
    rintro e W3 ⟨rfl, hc3⟩
    have c3 := hkeep hc3 c2
    have C3 : Ch [g] w W3 := C2.pure hc3
    clear c2 C2 hc3
    go_wp2_with fail
    refine (O2 _ c3).mono ?_
    rintro e W4 ⟨rfl, hc4, c4⟩
    go_wp2
    go_end0
    refine ⟨rfl, C3.trans hc4, ?_⟩
    rw [HD.out]; exact c4
  · rw [hsome] at HL
    rw [hv] at F1
    have HE := HF.out y hsome
    clear hsome hv HF
    rcases hf with hf | hf
    · rw [if_pos hf] at HE
      have HD : Hid (d = onP { p with ctrl := x, left := lf, free := ((8 * gp + y + 1 : Nat) : Int), fctrl := x }) := Lib.hid (by rw [HL.out, HE])
      have O2 := fun w hg => O1 { p with ctrl := x, left := lf, free := ((8 * gp + y + 1 : Nat) : Int), fctrl := x } rfl w hg
      clear O1 HL HS HE
      have hy8' : (y : Int) < 8 := by omega
      go_enter Tryz.func220, Tryz.ntmps220
      go_wp2_with (first
        | (go_at_call 204; refine (H1 _).mono ?_; rintro e w' ⟨rfl, rfl⟩)
        | (go_at_call 208; ((with_reducible refine (Q1 _).mono ?_); rintro e w' ⟨rfl, rfl⟩))
        | (go_at_call 208; ((with_reducible refine (E1 _).mono ?_); rintro e w' ⟨rfl, rfl⟩))
        | (go_at_call 208; ((with_reducible refine (E2 _).mono ?_); rintro e w' ⟨rfl, rfl⟩)))
      have c2 : ((w.setCell ⟨g, 11, none⟩ (.int .u64 (N x))).setCell ⟨g, 12, none⟩ (.int .u8 (N lf))).heap[g]? = some (.cells (penC { p with ctrl := x, left := lf }) 170 (0, 0)) := by simp [go_sem, hg]
      have C2 : Ch [g] w ((w.setCell ⟨g, 11, none⟩ (.int .u64 (N x))).setCell ⟨g, 12, none⟩ (.int .u8 (N lf))) := ((Ch.refl [g] w).setCell (p := ⟨g, 11, none⟩) (.inl (by simp)) _).setCell (p := ⟨g, 12, none⟩) (.inl (by simp)) _
      generalize (w.setCell ⟨g, 11, none⟩ (.int .u64 (N x))).setCell ⟨g, 12, none⟩ (.int .u8 (N lf)) = W2 at *
      clear hg
      refine (F1 _).mono ?_
      rintro e W3 ⟨rfl, hc3⟩
      have c3 := hkeep hc3 c2
      have C3 : Ch [g] w W3 := C2.pure hc3
      clear c2 C2 hc3
      go_wp2_with fail
      refine (G1 _ c3).mono ?_
      rintro e W4 ⟨rfl, hc4⟩
      have c4 := hkeep hc4 c3
      have C4 : Ch [g] w W4 := C3.pure hc4
      clear c3 C3 hc4 G1
      generalize onP { p with ctrl := x, left := lf, free := ((8 * gp + y + 1 : Nat) : Int), fctrl := x } = q at *
      go_wp2_with fail
      refine (O2 _ (by simp [go_sem, c4])).mono ?_
      rintro e W5 ⟨rfl, hc5, c5⟩
      go_wp2
      go_end0
      refine ⟨rfl, ((C4.setCell (p := ⟨g, 13, none⟩) (.inl (by simp)) _).setCell (p := ⟨g, 14, none⟩) (.inl (by simp)) _).trans hc5, ?_⟩
      rw [HD.out]; exact c5
    · rw [if_neg (by simpa using hf)] at HE
      have HD : Hid (d = onP { p with ctrl := x, left := lf }) := Lib.hid (by rw [HL.out, HE])
      have O2 := fun w hg => O1 { p with ctrl := x, left := lf } rfl w hg
      clear O1 HL HS HE G1
      generalize onP { p with ctrl := x, left := lf } = q at *
      go_enter Tryz.func220, Tryz.ntmps220
      go_wp2_with (first
        | (go_at_call 204; refine (H1 _).mono ?_; rintro e w' ⟨rfl, rfl⟩)
        | (go_at_call 208; ((with_reducible refine (Q1 _).mono ?_); rintro e w' ⟨rfl, rfl⟩))
        | (go_at_call 208; ((with_reducible refine (E1 _).mono ?_); rintro e w' ⟨rfl, rfl⟩))
        | (go_at_call 208; ((with_reducible refine (E2 _).mono ?_); rintro e w' ⟨rfl, rfl⟩)))
      have c2 : ((w.setCell ⟨g, 11, none⟩ (.int .u64 (N x))).setCell ⟨g, 12, none⟩ (.int .u8 (N lf))).heap[g]? = some (.cells (penC { p with ctrl := x, left := lf }) 170 (0, 0)) := by simp [go_sem, hg]
      have C2 : Ch [g] w ((w.setCell ⟨g, 11, none⟩ (.int .u64 (N x))).setCell ⟨g, 12, none⟩ (.int .u8 (N lf))) := ((Ch.refl [g] w).setCell (p := ⟨g, 11, none⟩) (.inl (by simp)) _).setCell (p := ⟨g, 12, none⟩) (.inl (by simp)) _
      generalize (w.setCell ⟨g, 11, none⟩ (.int .u64 (N x))).setCell ⟨g, 12, none⟩ (.int .u8 (N lf)) = W2 at *
      clear hg
      refine (F1 _).mono ?_
      rintro e W3 ⟨rfl, hc3⟩
      have c3 := hkeep hc3 c2
      have C3 : Ch [g] w W3 := C2.pure hc3
      clear c2 C2 hc3
      go_wp2_with fail
      refine (O2 _ c3).mono ?_
      rintro e W4 ⟨rfl, hc4, c4⟩
      go_wp2
      go_end0
      refine ⟨rfl, C3.trans hc4, ?_⟩
      rw [HD.out]; exact c4
end Go.Proofs.Hc
