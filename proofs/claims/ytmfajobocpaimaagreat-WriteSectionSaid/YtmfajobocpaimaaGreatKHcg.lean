/- Package write: Take, Begin. -/
import Derived.Test.YtmfajobocpaimaaGreatKHmet
import Derived.Test.YtmfajobocpaimaaGreatKHcc
import Derived.Test.YtmfajobocpaimaaGreatKHcs
import Derived.Test.YtmfajobocpaimaaGreatKHdv
import Derived.Test.YtmfajobocpaimaaGreatKHm
import Derived.Test.YtmfajobocpaimaaGreatKHma
import Derived.Test.YtmfajobocpaimaaGreatKHnl
import Derived.Test.YtmfajobocpaimaaGreatKHnn
import Derived.Test.YtmfajobocpaimaaGreatKHns
import Derived.Test.YtmfajobocpaimaaGreatKHnt
import Derived.Test.YtmfajobocpaimaaGreatKHnv
import Derived.Test.YtmfajobocpaimaaGreatKHnw
import Derived.Test.YtmfajobocpaimaaGreatKHny
import Derived.Test.YtmfajobocpaimaaGreatKHni
import Derived.Test.YtmfajobocpaimaaGreatKHxh
import Derived.Below
import Derived.BigQuiet
import Derived.Deep.Draws
import Derived.Deep.Light
import Derived.Deep.QuietTactic
import Derived.Deep.RegionHeld
import Derived.Laws.CopyRow
import Derived.Laws.StructEq
import Derived.Laws.Tables
import Derived.Lib.AppendZerosOnto
import Derived.Lib.Hide
import Derived.Lib.Tables
import Derived.Lib.Walk
import Derived.LoopIn
import Derived.LoopN
import Derived.LoopNIn
import Derived.Maps.AppendAt
import Derived.Maps.Views
import Derived.OwnWalkIn
import Derived.RangeFuncBox
import Derived.RangeFuncCalls
import Derived.RangeFuncRecord
import Derived.RangeFuncSeq
import Derived.Recover
import Derived.RegionTactic
import Derived.ScopeJumps
import Derived.Shelf.Slices.Clone
import Derived.StillTail
import Derived.StillTailTactics
import Derived.TacticsInMore
import Derived.Test.YtmfajobocpaimaaGreatProg
import Derived.WalkKit
import Derived.WalkLawsBesides
import Derived.WalkMore
import Derived.WalkSpells
import Derived.Deep.OwnRows
import Derived.IntWalk
import Derived.Laws.CopyOwn
set_option linter.unusedSimpArgs false
set_option linter.unusedVariables false
namespace Go.Proofs.Hc
open Go.RowKit
attribute [local go_sem] wrap_u64 wrap_u8 bits_xor64 bits_and64 bits_or64 bits_not64 bits_xor8 bits_and8 bits_or8 signed64 signed8 ofInt_N BitVec.ofInt_add BitVec.ofInt_mul ofInt_sub' ofInt8_N64 ofInt64_N8 wide8 eqN neN shr_pow shr1 shr7 shr56
attribute [local go_sem high] bits_com64 shl_wrap
attribute [local go_sem] cell_heap ice_heap cellAt_cells iceAt_cells setAt_cells rowAt_cells canLay_cells laidAt_cells size_onObj size_setCell rowRes_some layRes_true
attribute [local go_sem] load26 load73 load23 store26 build73
attribute [local go_sem ↓] lrow26 lrow73 lrow23 srow26 zero26 brow73 heap_alloc heap_drew heap_drewN heap_setCell heap_onObj
attribute [local go_sem] tcells_size hcells_size tcells_get hcells_get tcells_one hcells_one hcells_table tcells_table hcells_all hcells_ctrl tcells_ctrl
attribute [local go_sem] nn2 nm2 nn3 nm3 nn4 nm4 nn5 nm5 nn6 nm6 nn7 nm7 nn8 nm8
attribute [local go_sem] nn2 nm2 nn3 nm3 nn4 nm4 nn5 nm5 nn6 nm6 nn7 nm7 nn8 nm8
attribute [local go_sem] ofInt_N ofInt_pow8
attribute [local go_sem] Oper.semAt_some make_func1
attribute [local go_sem] pen_g0 pen_g1 pen_g2 pen_g3 pen_g4 pen_g5 pen_g6 pen_g7 pen_g8 pen_g9 pen_g10 pen_g11 pen_g12 pen_g13 pen_g14 pen_g15 pen_g16 pen_g17 penC_size penC_one penC_all
attribute [local irreducible] penC
attribute [local go_sem] pen_s0 pen_s1 pen_s2 pen_s3 pen_s4 pen_s5 pen_s6 pen_s7 pen_s8 pen_s9 pen_s10 pen_s11 pen_s12 pen_s13 pen_s14 pen_s15 pen_s16 pen_s17
theorem wzeroPen_run (w : World) : (zeroValue 71).run Tryz.prog w = .ok (.agg (penC zeroPen)) w := by kernel_rfl
theorem wlaidAt_pen (p q : PenT) (T : TypeId) (fr : Nat × Nat) : laidAt 0 (penC q) (.cells (penC p) T fr) = .cells (penC q) T fr := by
  rw [laidAt_cells, laid_whole _ _ (by rw [penC_size, penC_size])]
theorem browPen (ps : Array (Nat × Value)) : Instr.build 71 ps = buildRow 71 ps := rfl
theorem buildPen0 (w : World) : (buildRow 71 #[]).run Tryz.prog w = .ok (.agg (penC zeroPen)) w := by kernel_rfl
attribute [local go_sem] build170 box170 boxPen loadPen storePen buildPen0
attribute [local go_sem ↓] brow170 lrowPen srowPen wzeroPen_run browPen
attribute [local go_sem high] wlaidAt_pen
theorem wnew_pen2 (p : PenT) (w : World) : ((w.alloc (.cells (penC p) 71)).alloc (.cells (penC zeroPen) 71)).heap[w.heap.size]? = some (.cells (penC p) 71 (0, 0)) := by
  rw [heap_alloc, if_neg (by simp), heap_alloc, if_pos rfl]
theorem wnew_penz (p : PenT) (w : World) : ((w.alloc (.cells (penC p) 71)).alloc (.cells (penC zeroPen) 71)).heap[w.heap.size + 1]? = some (.cells (penC zeroPen) 71 (0, 0)) := by
  rw [heap_alloc, if_pos (by simp)]
theorem penE_results {fn : Func} {p q : Tmp} (h : fn.results = #[.cell p 71, .tmp q]) (tmps : Array Value) (b : Nat) (w : World) (d : PenT) (v : Value) (hp : tmps.getD p undef = .pointer (some ⟨b, 0, none⟩)) (hq : tmps.getD q undef = v)
    (hb : w.heap[b]? = some (.cells (penC d) 71 (0, 0))) : (results fn tmps).run Tryz.prog w = .ok (.tuple #[.agg (penC d), v]) w := by
  have hl := run_loadVar_row (P := Tryz.prog) w b 71 71 (penC d) (0, 0) _ hb Tryz.underlying71 rfl (by rw [penC_size]; kernel_rfl)
  have hp' : tmps[p]?.getD undef = .pointer (some ⟨b, 0, none⟩) := by simpa using hp
  have hq' : tmps[q]?.getD undef = v := by simpa using hq
  simp [results, h, hp', hq', asAddr, hl]
set_option maxHeartbeats 2000000 in
set_option maxRecDepth 100000 in
theorem wTake_yes (p : PenT) (R : RightP p) (h13 : p.ph ≤ 13) (x : BitVec 64) (w : World) : Calls Tryz.prog 106 #[.agg (penC p), U x] w fun e w' => e = .returned (.tuple #[.agg (penC (takeP p x)), I 0]) ∧ Ch [] w w' := by
  have R1 := fun w => check_pen p w
  rw [checkV, if_pos ((rightP_iff p).2 R)] at R1
  have T1 := fun g w hg => takes_any p R h13 x g w hg
  have hb := wnew_pen2 p w
  have hz := wnew_penz p w
  have h14 : p.ph < 14 := by omega
  generalize takeP p x = q at *
  clear R h13
  go_enter Tryz.func106, Tryz.ntmps106
  go_wp2_with fail
  have C0 : Ch [] w ((w.alloc (.cells (penC p) 71)).alloc (.cells (penC zeroPen) 71)) := ((Ch.refl [] w).alloc _).alloc _
  generalize (w.alloc (.cells (penC p) 71)).alloc (.cells (penC zeroPen) 71) = W0 at *
  refine (R1 _).mono ?_
  rintro e w1 ⟨rfl, hc1⟩
  have b1 := hkeep hc1 hb
  have z1 := hkeep hc1 hz
  have C1 := C0.trans hc1
  clear hb hz C0 hc1
  go_wp2_with fail
  have hcG : Ch [] w1 (w1.alloc (.cells (penC p) 170)) := (Ch.refl [] w1).alloc _
  have g2 : (w1.alloc (.cells (penC p) 170)).heap[w1.heap.size]? = some (.cells (penC p) 170 (0, 0)) := by rw [heap_alloc, if_pos rfl]
  have z2 := hkeep hcG z1
  have hne : w.heap.size + 1 ≠ w1.heap.size := by have := (Array.getElem?_eq_some_iff.1 z1).1; omega
  have hG := C1.size
  have C2 := C1.trans hcG
  generalize w1.alloc (.cells (penC p) 170) = w2 at *
  generalize w1.heap.size = G at *
  refine (T1 _ _ g2).mono ?_
  rintro e w3 ⟨rfl, hc3, g3⟩
  have z3 : w3.heap[w.heap.size + 1]? = some (.cells (penC zeroPen) 71 (0, 0)) := (hc3.block _ (Array.getElem?_eq_some_iff.1 z2).1 (by simpa using hne)).trans z2
  have C3 : Ch [] w w3 := C2.trans2 hc3 (by simp; omega)
  clear b1 z1 z2 g2 hc3 C1 C2 hcG
  go_wp2
  refine bodyPost_ret (penE_results Tryz.results106 _ _ _ q _ rfl rfl ?_) rfl ⟨rfl, ?_⟩
  · simp [go_sem, z3]
  · exact C3.onObj (p := w.heap.size + 1) (.inr (by omega)) _
set_option maxHeartbeats 2000000 in
set_option maxRecDepth 100000 in
theorem wBegin_any (sl : Int) (op : Int) (k a b h : BitVec 64) (p : PenT) (hp : p = ⟨0, sl, op, k, a, b, h, 0#64, 0#64, 0#64, 0, 0#64, 0#8, 0, 0#64, 0, 0#64, false⟩) (w : World) :
    Calls Tryz.prog 55 #[I sl, .agg #[I op, U k, U a, U b], U h] w fun e w' => e = .returned (if rightP p then .tuple #[.agg (penC p), I 0] else .tuple #[.agg (penC zeroPen), I 2]) ∧ Ch [] w w' := by
  have R1 := fun w => check_pen p w
  have hbd : ∀ w, (buildRow 71 #[(1, I sl), (2, .agg #[I op, U k, U a, U b]), (3, U h)]).run Tryz.prog w = .ok (.agg (penC p)) w := fun w => by subst hp; kernel_rfl
  rw [checkV] at R1
  clear hp
  generalize rightP p = r at *
  cases r
  all_goals
    go_enter Tryz.func55, Tryz.ntmps55
    go_wp2_with fail
    have C0 : Ch [] w (World.onObj (((w.alloc (.cells #[I op, U k, U a, U b] 68)).alloc (.cells (penC zeroPen) 71)).alloc (.cells (penC zeroPen) 71)) (w.heap.size + 1 + 1) (laidAt 0 (penC p))) := ((((Ch.refl [] w).alloc _).alloc _).alloc _).onObj (p := w.heap.size + 1 + 1) (.inr (by omega)) _
    have e0 : (World.onObj (((w.alloc (.cells #[I op, U k, U a, U b] 68)).alloc (.cells (penC zeroPen) 71)).alloc (.cells (penC zeroPen) 71)) (w.heap.size + 1 + 1) (laidAt 0 (penC p))).heap[w.heap.size + 1]? = some (.cells (penC zeroPen) 71 (0, 0)) := by
      rw [heap_onObj, if_neg (by omega), heap_alloc, if_neg (by simp), heap_alloc, if_pos (by simp)]
    have p0 : (World.onObj (((w.alloc (.cells #[I op, U k, U a, U b] 68)).alloc (.cells (penC zeroPen) 71)).alloc (.cells (penC zeroPen) 71)) (w.heap.size + 1 + 1) (laidAt 0 (penC p))).heap[w.heap.size + 1 + 1]? = some (.cells (penC p) 71 (0, 0)) := by
      rw [heap_onObj, if_pos rfl, heap_alloc, if_pos (by simp), Option.map_some, wlaidAt_pen]
    generalize (World.onObj (((w.alloc (.cells #[I op, U k, U a, U b] 68)).alloc (.cells (penC zeroPen) 71)).alloc (.cells (penC zeroPen) 71)) (w.heap.size + 1 + 1) (laidAt 0 (penC p))) = W0 at *
    refine (R1 _).mono ?_
    rintro e w1 ⟨rfl, hc1⟩
    have e1 := hkeep hc1 e0
    have p1 := hkeep hc1 p0
    have C1 := C0.trans hc1
    clear e0 p0 C0 hc1
    go_wp2
  · refine bodyPost_ret (penE_results Tryz.results55 _ _ _ zeroPen _ rfl rfl ?_) rfl ⟨rfl, ?_⟩
    · simp [go_sem, e1]
    · exact C1.onObj (p := w.heap.size + 1) (.inr (by omega)) _
  · refine bodyPost_ret (penE_results Tryz.results55 _ _ _ p _ rfl rfl ?_) rfl ⟨rfl, ?_⟩
    · simp [go_sem, e1]
    · exact C1.onObj (p := w.heap.size + 1) (.inr (by omega)) _
end Go.Proofs.Hc
/- Package write: Need. -/
namespace Go.Proofs.Hc
open Go.RowKit
theorem accessesV_get : ∀ n, n < 14 → accessesV[n]? = some (.func (.func ([171, 172, 173, 174, 175, 176, 177, 178, 179, 180, 181, 182, 183, 184].getD n 0)) #[] #[]) := by
  intro n hn
  unfold accessesV
  rcases (show n = 0 ∨ n = 1 ∨ n = 2 ∨ n = 3 ∨ n = 4 ∨ n = 5 ∨ n = 6 ∨ n = 7 ∨ n = 8 ∨ n = 9 ∨ n = 10 ∨ n = 11 ∨ n = 12 ∨ n = 13 by omega) with rfl | rfl | rfl | rfl | rfl | rfl | rfl | rfl | rfl | rfl | rfl | rfl | rfl | rfl <;> rfl
theorem wNeed_0 (p : PenT) (who : Int) (hr : rightP p = true) (e : p.ph = 0) (w : World) : Calls Tryz.prog 57 #[.agg (penC p), I who] w fun e w' => e = .returned (.tuple #[.agg (accC who 1 (16 + 40 * p.sl + wordP p) 0), .bool true]) ∧ Ch [] w w' := by
  have R := (rightP_iff p).1 hr
  have hS : 4 ≤ p.ph → 0 ≤ slotP p ∧ slotP p ≤ 15 := fun h4 => slotP_range R h4 (by omega)
  have hfr : 4 ≤ p.ph → wantsP p = 1 → 0 < p.free := fun h4 h => by have := ((R.goes.resolve_left (by omega)).resolve_left (by omega)).2; omega
  obtain ⟨hw0, hw38⟩ := wordP_range R (by omega)
  have hwd : wordP p = 0 := by unfold wordP; simp [e]
  have h12 : (p.ph == 12) = false := by rw [e]; decide
  exact wNeed_core p who 0 171 1 (wordP p) 0 hr e (by omega) h12 R.sl0 R.sl1 hw0 (by omega) (accessesV_get 0 (by omega)) Tryz.call171 (fun g w hg => by
    have hx := wa_count p g w hg
    rw [hwd]
    exact hx) w
theorem wNeed_1 (p : PenT) (who : Int) (hr : rightP p = true) (e : p.ph = 1) (w : World) : Calls Tryz.prog 57 #[.agg (penC p), I who] w fun e w' => e = .returned (.tuple #[.agg (accC who 1 (16 + 40 * p.sl + wordP p) 0), .bool true]) ∧ Ch [] w w' := by
  have R := (rightP_iff p).1 hr
  have hS : 4 ≤ p.ph → 0 ≤ slotP p ∧ slotP p ≤ 15 := fun h4 => slotP_range R h4 (by omega)
  have hfr : 4 ≤ p.ph → wantsP p = 1 → 0 < p.free := fun h4 h => by have := ((R.goes.resolve_left (by omega)).resolve_left (by omega)).2; omega
  obtain ⟨hw0, hw38⟩ := wordP_range R (by omega)
  have hwd : wordP p = 4 + (groupP p : Int) := by unfold wordP; simp [e]
  have h12 : (p.ph == 12) = false := by rw [e]; decide
  exact wNeed_core p who 1 172 1 (wordP p) 0 hr e (by omega) h12 R.sl0 R.sl1 hw0 (by omega) (accessesV_get 1 (by omega)) Tryz.call172 (fun g w hg => by
    have hx := wa_ctrl p R.grp g w hg
    rw [hwd]
    exact hx) w
theorem wNeed_2 (p : PenT) (who : Int) (hr : rightP p = true) (e : p.ph = 2) (w : World) : Calls Tryz.prog 57 #[.agg (penC p), I who] w fun e w' => e = .returned (.tuple #[.agg (accC who 1 (16 + 40 * p.sl + wordP p) 0), .bool true]) ∧ Ch [] w w' := by
  have R := (rightP_iff p).1 hr
  have hS : 4 ≤ p.ph → 0 ≤ slotP p ∧ slotP p ≤ 15 := fun h4 => slotP_range R h4 (by omega)
  have hfr : 4 ≤ p.ph → wantsP p = 1 → 0 < p.free := fun h4 h => by have := ((R.goes.resolve_left (by omega)).resolve_left (by omega)).2; omega
  obtain ⟨hw0, hw38⟩ := wordP_range R (by omega)
  have hwd : wordP p = 6 + 8 * (groupP p : Int) + (laneP p.left : Int) := by unfold wordP; simp [e]
  have h12 : (p.ph == 12) = false := by rw [e]; decide
  exact wNeed_core p who 2 173 1 (wordP p) 0 hr e (by omega) h12 R.sl0 R.sl1 hw0 (by omega) (accessesV_get 2 (by omega)) Tryz.call173 (fun g w hg => by
    have hx := wa_key p R.grp g w hg
    rw [hwd]
    exact hx) w
theorem wNeed_3 (p : PenT) (who : Int) (hr : rightP p = true) (e : p.ph = 3) (w : World) : Calls Tryz.prog 57 #[.agg (penC p), I who] w fun e w' => e = .returned (.tuple #[.agg (accC who 1 (16 + 40 * p.sl + wordP p) 0), .bool true]) ∧ Ch [] w w' := by
  have R := (rightP_iff p).1 hr
  have hS : 4 ≤ p.ph → 0 ≤ slotP p ∧ slotP p ≤ 15 := fun h4 => slotP_range R h4 (by omega)
  have hfr : 4 ≤ p.ph → wantsP p = 1 → 0 < p.free := fun h4 h => by have := ((R.goes.resolve_left (by omega)).resolve_left (by omega)).2; omega
  obtain ⟨hw0, hw38⟩ := wordP_range R (by omega)
  have hwd : wordP p = 22 + p.slot := by unfold wordP; simp [e]
  have h12 : (p.ph == 12) = false := by rw [e]; decide
  exact wNeed_core p who 3 174 1 (wordP p) 0 hr e (by omega) h12 R.sl0 R.sl1 hw0 (by omega) (accessesV_get 3 (by omega)) Tryz.call174 (fun g w hg => by
    have hx := wa_look p R.slot0 R.slot1 g w hg
    rw [hwd]
    exact hx) w
theorem wNeed_4 (p : PenT) (who : Int) (hr : rightP p = true) (e : p.ph = 4) (w : World) : Calls Tryz.prog 57 #[.agg (penC p), I who] w fun e w' => e = .returned (.tuple #[.agg (accC who 1 (16 + 40 * p.sl + wordP p) 0), .bool true]) ∧ Ch [] w w' := by
  have R := (rightP_iff p).1 hr
  have hS : 4 ≤ p.ph → 0 ≤ slotP p ∧ slotP p ≤ 15 := fun h4 => slotP_range R h4 (by omega)
  have hfr : 4 ≤ p.ph → wantsP p = 1 → 0 < p.free := fun h4 h => by have := ((R.goes.resolve_left (by omega)).resolve_left (by omega)).2; omega
  obtain ⟨hw0, hw38⟩ := wordP_range R (by omega)
  have hwd : wordP p = 2 := by unfold wordP; simp [e]
  have h12 : (p.ph == 12) = false := by rw [e]; decide
  exact wNeed_core p who 4 175 1 (wordP p) 0 hr e (by omega) h12 R.sl0 R.sl1 hw0 (by omega) (accessesV_get 4 (by omega)) Tryz.call175 (fun g w hg => by
    have hx := wa_can p g w hg
    rw [hwd]
    exact hx) w
theorem wNeed_5 (p : PenT) (who : Int) (hr : rightP p = true) (e : p.ph = 5) (w : World) : Calls Tryz.prog 57 #[.agg (penC p), I who] w fun e w' => e = .returned (.tuple #[.agg (accC who 1 (16 + 40 * p.sl + wordP p) 0), .bool true]) ∧ Ch [] w w' := by
  have R := (rightP_iff p).1 hr
  have hS : 4 ≤ p.ph → 0 ≤ slotP p ∧ slotP p ≤ 15 := fun h4 => slotP_range R h4 (by omega)
  have hfr : 4 ≤ p.ph → wantsP p = 1 → 0 < p.free := fun h4 h => by have := ((R.goes.resolve_left (by omega)).resolve_left (by omega)).2; omega
  obtain ⟨hw0, hw38⟩ := wordP_range R (by omega)
  have hwd : wordP p = 3 := by unfold wordP; simp [e]
  have h12 : (p.ph == 12) = false := by rw [e]; decide
  exact wNeed_core p who 5 176 1 (wordP p) 0 hr e (by omega) h12 R.sl0 R.sl1 hw0 (by omega) (accessesV_get 5 (by omega)) Tryz.call176 (fun g w hg => by
    have hx := wa_live p g w hg
    rw [hwd]
    exact hx) w
theorem wNeed_6 (p : PenT) (who : Int) (hr : rightP p = true) (e : p.ph = 6) (w : World) : Calls Tryz.prog 57 #[.agg (penC p), I who] w fun e w' => e = .returned (.tuple #[.agg (accC who 2 (16 + 40 * p.sl + wordP p) (N (whatP p))), .bool true]) ∧ Ch [] w w' := by
  have R := (rightP_iff p).1 hr
  have hS : 4 ≤ p.ph → 0 ≤ slotP p ∧ slotP p ≤ 15 := fun h4 => slotP_range R h4 (by omega)
  have hfr : 4 ≤ p.ph → wantsP p = 1 → 0 < p.free := fun h4 h => by have := ((R.goes.resolve_left (by omega)).resolve_left (by omega)).2; omega
  obtain ⟨hw0, hw38⟩ := wordP_range R (by omega)
  have hwd : wordP p = 0 := by unfold wordP; simp [e]
  have h12 : (p.ph == 12) = false := by rw [e]; decide
  have hwt : whatP p = p.count + 1#64 := by unfold whatP; simp [e, valP, lessP]
  rw [hwt]
  exact wNeed_core p who 6 177 2 (wordP p) (N (p.count + 1#64)) hr e (by omega) h12 R.sl0 R.sl1 hw0 (by omega) (accessesV_get 6 (by omega)) Tryz.call177 (fun g w hg => by
    have hx := wa_open p g w hg
    rw [hwd]
    exact hx) w
theorem wNeed_7 (p : PenT) (who : Int) (hr : rightP p = true) (e : p.ph = 7) (w : World) : Calls Tryz.prog 57 #[.agg (penC p), I who] w fun e w' => e = .returned (.tuple #[.agg (accC who 2 (16 + 40 * p.sl + wordP p) (N (whatP p))), .bool true]) ∧ Ch [] w w' := by
  have R := (rightP_iff p).1 hr
  have hS : 4 ≤ p.ph → 0 ≤ slotP p ∧ slotP p ≤ 15 := fun h4 => slotP_range R h4 (by omega)
  have hfr : 4 ≤ p.ph → wantsP p = 1 → 0 < p.free := fun h4 h => by have := ((R.goes.resolve_left (by omega)).resolve_left (by omega)).2; omega
  obtain ⟨hw0, hw38⟩ := wordP_range R (by omega)
  have hwd : wordP p = 6 + slotP p := by unfold wordP; simp [e]
  have h12 : (p.ph == 12) = false := by rw [e]; decide
  have hwt : whatP p = p.key := by unfold whatP; simp [e, valP, lessP]
  rw [hwt]
  exact wNeed_core p who 7 178 2 (wordP p) (N (p.key)) hr e (by omega) h12 R.sl0 R.sl1 hw0 (by omega) (accessesV_get 7 (by omega)) Tryz.call178 (fun g w hg => by
    have hx := wa_puts p R.free0 R.free1 (hS (by omega)).1 (hS (by omega)).2 g w hg
    rw [hwd]
    exact hx) w
theorem wNeed_8 (p : PenT) (who : Int) (hr : rightP p = true) (e : p.ph = 8) (w : World) : Calls Tryz.prog 57 #[.agg (penC p), I who] w fun e w' => e = .returned (.tuple #[.agg (accC who 2 (16 + 40 * p.sl + wordP p) (N (whatP p))), .bool true]) ∧ Ch [] w w' := by
  have R := (rightP_iff p).1 hr
  have hS : 4 ≤ p.ph → 0 ≤ slotP p ∧ slotP p ≤ 15 := fun h4 => slotP_range R h4 (by omega)
  have hfr : 4 ≤ p.ph → wantsP p = 1 → 0 < p.free := fun h4 h => by have := ((R.goes.resolve_left (by omega)).resolve_left (by omega)).2; omega
  obtain ⟨hw0, hw38⟩ := wordP_range R (by omega)
  have hwd : wordP p = 22 + slotP p := by unfold wordP; simp [e]
  have h12 : (p.ph == 12) = false := by rw [e]; decide
  have hwt : whatP p = valP p := by unfold whatP; simp [e, valP, lessP]
  rw [hwt]
  exact wNeed_core p who 8 179 2 (wordP p) (N (valP p)) hr e (by omega) h12 R.sl0 R.sl1 hw0 (by omega) (accessesV_get 8 (by omega)) Tryz.call179 (fun g w hg => by
    have hx := wa_sets p R.free0 R.free1 (hS (by omega)).1 (hS (by omega)).2 g w hg
    rw [hwd]
    exact hx) w
theorem wNeed_9 (p : PenT) (who : Int) (hr : rightP p = true) (e : p.ph = 9) (w : World) : Calls Tryz.prog 57 #[.agg (penC p), I who] w fun e w' => e = .returned (.tuple #[.agg (accC who 2 (16 + 40 * p.sl + wordP p) (N (whatP p))), .bool true]) ∧ Ch [] w w' := by
  have R := (rightP_iff p).1 hr
  have hS : 4 ≤ p.ph → 0 ≤ slotP p ∧ slotP p ≤ 15 := fun h4 => slotP_range R h4 (by omega)
  have hfr : 4 ≤ p.ph → wantsP p = 1 → 0 < p.free := fun h4 h => by have := ((R.goes.resolve_left (by omega)).resolve_left (by omega)).2; omega
  obtain ⟨hw0, hw38⟩ := wordP_range R (by omega)
  have hwd : wordP p = 4 + slotP p / 8 := by unfold wordP; simp [e]
  have h12 : (p.ph == 12) = false := by rw [e]; decide
  have hwt : whatP p = markP p := by unfold whatP; simp [e, valP, lessP]
  rw [hwt]
  exact wNeed_core p who 9 180 2 (wordP p) (N (markP p)) hr e (by omega) h12 R.sl0 R.sl1 hw0 (by omega) (accessesV_get 9 (by omega)) Tryz.call180 (fun g w hg => by
    have hx := wa_marks p R.free0 R.free1 (hS (by omega)).1 (hS (by omega)).2 g w hg
    rw [hwd]
    exact hx) w
theorem wNeed_10 (p : PenT) (who : Int) (hr : rightP p = true) (e : p.ph = 10) (w : World) : Calls Tryz.prog 57 #[.agg (penC p), I who] w fun e w' => e = .returned (.tuple #[.agg (accC who 2 (16 + 40 * p.sl + wordP p) (N (whatP p))), .bool true]) ∧ Ch [] w w' := by
  have R := (rightP_iff p).1 hr
  have hS : 4 ≤ p.ph → 0 ≤ slotP p ∧ slotP p ≤ 15 := fun h4 => slotP_range R h4 (by omega)
  have hfr : 4 ≤ p.ph → wantsP p = 1 → 0 < p.free := fun h4 h => by have := ((R.goes.resolve_left (by omega)).resolve_left (by omega)).2; omega
  obtain ⟨hw0, hw38⟩ := wordP_range R (by omega)
  have hwd : wordP p = 2 := by unfold wordP; simp [e]
  have h12 : (p.ph == 12) = false := by rw [e]; decide
  have hwt : whatP p = lessP p := by unfold whatP; simp [e, valP, lessP]
  rw [hwt]
  exact wNeed_core p who 10 181 2 (wordP p) (N (lessP p)) hr e (by omega) h12 R.sl0 R.sl1 hw0 (by omega) (accessesV_get 10 (by omega)) Tryz.call181 (fun g w hg => by
    have hx := wa_lesser p R.free0 R.free1 (hfr (by omega)) g w hg
    rw [hwd]
    exact hx) w
theorem wNeed_11 (p : PenT) (who : Int) (hr : rightP p = true) (e : p.ph = 11) (w : World) : Calls Tryz.prog 57 #[.agg (penC p), I who] w fun e w' => e = .returned (.tuple #[.agg (accC who 2 (16 + 40 * p.sl + wordP p) (N (whatP p))), .bool true]) ∧ Ch [] w w' := by
  have R := (rightP_iff p).1 hr
  have hS : 4 ≤ p.ph → 0 ≤ slotP p ∧ slotP p ≤ 15 := fun h4 => slotP_range R h4 (by omega)
  have hfr : 4 ≤ p.ph → wantsP p = 1 → 0 < p.free := fun h4 h => by have := ((R.goes.resolve_left (by omega)).resolve_left (by omega)).2; omega
  obtain ⟨hw0, hw38⟩ := wordP_range R (by omega)
  have hwd : wordP p = 3 := by unfold wordP; simp [e]
  have h12 : (p.ph == 12) = false := by rw [e]; decide
  have hwt : whatP p = p.live + byP (wantsP p) := by unfold whatP; simp [e, valP, lessP]
  rw [hwt]
  exact wNeed_core p who 11 182 2 (wordP p) (N (p.live + byP (wantsP p))) hr e (by omega) h12 R.sl0 R.sl1 hw0 (by omega) (accessesV_get 11 (by omega)) Tryz.call182 (fun g w hg => by
    have hx := wa_more p g w hg
    rw [hwd]
    exact hx) w
theorem wNeed_13 (p : PenT) (who : Int) (hr : rightP p = true) (e : p.ph = 13) (w : World) : Calls Tryz.prog 57 #[.agg (penC p), I who] w fun e w' => e = .returned (.tuple #[.agg (accC who 2 (16 + 40 * p.sl + wordP p) (N (whatP p))), .bool true]) ∧ Ch [] w w' := by
  have R := (rightP_iff p).1 hr
  have hS : 4 ≤ p.ph → 0 ≤ slotP p ∧ slotP p ≤ 15 := fun h4 => slotP_range R h4 (by omega)
  have hfr : 4 ≤ p.ph → wantsP p = 1 → 0 < p.free := fun h4 h => by have := ((R.goes.resolve_left (by omega)).resolve_left (by omega)).2; omega
  obtain ⟨hw0, hw38⟩ := wordP_range R (by omega)
  have hwd : wordP p = 0 := by unfold wordP; simp [e]
  have h12 : (p.ph == 12) = false := by rw [e]; decide
  have hwt : whatP p = p.count + 2#64 := by unfold whatP; simp [e, valP, lessP]
  rw [hwt]
  exact wNeed_core p who 13 184 2 (wordP p) (N (p.count + 2#64)) hr e (by omega) h12 R.sl0 R.sl1 hw0 (by omega) (accessesV_get 13 (by omega)) Tryz.call184 (fun g w hg => by
    have hx := wa_close p g w hg
    rw [hwd]
    exact hx) w
theorem wNeed_12 (p : PenT) (who : Int) (hr : rightP p = true) (e : p.ph = 12) (w : World) : Calls Tryz.prog 57 #[.agg (penC p), I who] w fun e w' => e = .returned (.tuple #[.agg (accC who 4 1 (N (byP (wantsP p)))), .bool true]) ∧ Ch [] w w' :=
  wNeed_add p who 12 183 4 1 (N (byP (wantsP p))) hr e (by omega) e (accessesV_get 12 (by omega)) Tryz.call183 (fun g w hg => wa_size p g w hg) w
theorem wNeed_any (p : PenT) (who : Int) (w : World) : Calls Tryz.prog 57 #[.agg (penC p), I who] w fun e w' => e = .returned (needV who (needP p)) ∧ Ch [] w w' := by
  cases h : (rightP p && decide (p.ph ≤ 13)) with
  | false => rw [needP, h, if_neg (by decide)]; exact wNeed_no p who h w
  | true =>
    rw [needP, h, if_pos rfl]
    simp only [Bool.and_eq_true, decide_eq_true_eq] at h
    obtain ⟨hr, h13⟩ := h
    have R := (rightP_iff p).1 hr
    have hp0 := R.ph0
    rw [needV]
    by_cases h12 : p.ph = 12
    · rw [if_pos h12]; exact wNeed_12 p who hr h12 w
    · rw [if_neg h12]
      by_cases h5 : 5 < p.ph
      · rw [if_pos h5, if_pos h5]
        rcases (show p.ph = 6 ∨ p.ph = 7 ∨ p.ph = 8 ∨ p.ph = 9 ∨ p.ph = 10 ∨ p.ph = 11 ∨ p.ph = 13 by omega) with e | e | e | e | e | e | e
        · exact wNeed_6 p who hr e w
        · exact wNeed_7 p who hr e w
        · exact wNeed_8 p who hr e w
        · exact wNeed_9 p who hr e w
        · exact wNeed_10 p who hr e w
        · exact wNeed_11 p who hr e w
        · exact wNeed_13 p who hr e w
      · rw [if_neg h5, if_neg h5]
        rcases (show p.ph = 0 ∨ p.ph = 1 ∨ p.ph = 2 ∨ p.ph = 3 ∨ p.ph = 4 ∨ p.ph = 5 by omega) with e | e | e | e | e | e
        · exact wNeed_0 p who hr e w
        · exact wNeed_1 p who hr e w
        · exact wNeed_2 p who hr e w
        · exact wNeed_3 p who hr e w
        · exact wNeed_4 p who hr e w
        · exact wNeed_5 p who hr e w
end Go.Proofs.Hc
/- Package write: Step. -/
namespace Go.Proofs.Hc
open Go.RowKit
attribute [local go_sem] wrap_u64 wrap_u8 bits_xor64 bits_and64 bits_or64 bits_not64 bits_xor8 bits_and8 bits_or8 signed64 signed8 ofInt_N BitVec.ofInt_add BitVec.ofInt_mul ofInt_sub' ofInt8_N64 ofInt64_N8 wide8 eqN neN shr_pow shr1 shr7 shr56
attribute [local go_sem high] bits_com64 shl_wrap
attribute [local go_sem] cell_heap ice_heap cellAt_cells iceAt_cells setAt_cells rowAt_cells canLay_cells laidAt_cells size_onObj size_setCell rowRes_some layRes_true
attribute [local go_sem] load26 load73 load23 store26 build73
attribute [local go_sem ↓] lrow26 lrow73 lrow23 srow26 zero26 brow73 heap_alloc heap_drew heap_drewN heap_setCell heap_onObj
attribute [local go_sem] tcells_size hcells_size tcells_get hcells_get tcells_one hcells_one hcells_table tcells_table hcells_all hcells_ctrl tcells_ctrl
attribute [local go_sem] nn2 nm2 nn3 nm3 nn4 nm4 nn5 nm5 nn6 nm6 nn7 nm7 nn8 nm8
attribute [local go_sem] nn2 nm2 nn3 nm3 nn4 nm4 nn5 nm5 nn6 nm6 nn7 nm7 nn8 nm8
attribute [local go_sem] ofInt_N ofInt_pow8
attribute [local go_sem] Oper.semAt_some make_func1
attribute [local go_sem] pen_g0 pen_g1 pen_g2 pen_g3 pen_g4 pen_g5 pen_g6 pen_g7 pen_g8 pen_g9 pen_g10 pen_g11 pen_g12 pen_g13 pen_g14 pen_g15 pen_g16 pen_g17 penC_size penC_one penC_all
attribute [local irreducible] penC
attribute [local go_sem] pen_s0 pen_s1 pen_s2 pen_s3 pen_s4 pen_s5 pen_s6 pen_s7 pen_s8 pen_s9 pen_s10 pen_s11 pen_s12 pen_s13 pen_s14 pen_s15 pen_s16 pen_s17
attribute [local go_sem] acc_g0 acc_g1 acc_g2 acc_g4 acc_s0 acc_s1 acc_s2 acc_s4 accC_size accC_one accC_all loadAcc storeAcc bacc0 bacc2 bacc3 bacc3u bacc4
attribute [local go_sem ↓] lrowAcc srowAcc browAcc zeroAcc_run
attribute [local go_sem high] laidAt_acc
attribute [local go_sem] seenC_size seenC_one seenC_all seenC_g0 loadSeen storeSeen buildSeen buildSeen0
attribute [local go_sem ↓] lrowSeen srowSeen browSeen zeroSeen_run
attribute [local go_sem high] laidAt_seen
attribute [local irreducible] seenC
attribute [local irreducible] accC
attribute [local go_sem] boxPen loadPen storePen buildPen0
attribute [local go_sem ↓] lrowPen srowPen wzeroPen_run browPen
attribute [local go_sem high] wlaidAt_pen
theorem step_results {fn : Func} {p q u : Tmp} (h : fn.results = #[.tmp p, .cell q 71, .tmp u]) (tmps : Array Value) (b : Nat) (w : World) (d : PenT) (v y : Value) (hp : tmps.getD p undef = v) (hq : tmps.getD q undef = .pointer (some ⟨b, 0, none⟩)) (hu : tmps.getD u undef = y)
    (hb : w.heap[b]? = some (.cells (penC d) 71 (0, 0))) : (results fn tmps).run Tryz.prog w = .ok (.tuple #[v, .agg (penC d), y]) w := by
  have hl := run_loadVar_row (P := Tryz.prog) w b 71 71 (penC d) (0, 0) _ hb Tryz.underlying71 rfl (by rw [penC_size]; kernel_rfl)
  have hp' : tmps[p]?.getD undef = v := by simpa using hp
  have hq' : tmps[q]?.getD undef = .pointer (some ⟨b, 0, none⟩) := by simpa using hq
  have hu' : tmps[u]?.getD undef = y := by simpa using hu
  simp [results, h, hp', hq', hu', asAddr, hl]
set_option maxHeartbeats 2000000 in
set_option maxRecDepth 100000 in
theorem wStep_over (l : List (BitVec 64)) (g c : Nat) (cur : Array Value) (p : PenT) (w : World) (h1 : 1 ≤ l.length) (hl : l.length ≤ 8192) (hb : w.heap[g]? = some (.cells cur 22 (0, 0))) (hw : WordsAt cur l) (hr : rightP p = true) (hn : needP p = none) : Calls Tryz.prog 43 #[.slice (some ⟨g, 0, none⟩) l.length c, .agg (penC p)] w fun e w' => ∃ R, e = .returned (.tuple #[.slice (some ⟨R, 0, none⟩) l.length l.length, .agg (penC p), I 0]) ∧ w.heap.size ≤ R ∧ w'.heap[R]? = some (.cells (wcells l) 22 (0, 0)) ∧ Ch [] w w' := by
  have C0 : Ch [] w ((w.alloc (.cells (penC p) 71)).alloc (.cells (penC zeroPen) 71)) := ((Ch.refl [] w).alloc _).alloc _
  have b0 := wnew_pen2 p w
  have z0 := wnew_penz p w
  have hgl := hkeep C0 hb
  have S1 := fun w h => cRun_some l g c cur w h1 hl h hw
  have K1 := fun w => check_pen p w
  rw [checkV_yes hr] at K1
  have N1 : ∀ w, Calls Tryz.prog 57 #[.agg (penC p), .int .i64 0] w fun e w' => e = .returned (.tuple #[.agg (accC 0 0 0 0), .bool false]) ∧ Ch [] w w' := fun w => by have := wNeed_any p 0 w; rw [hn, needV] at this; exact this
  generalize wcells l = cu at *
  generalize l.length = n at *
  clear hb hw hr hn
  go_enter Tryz.func43, Tryz.ntmps43
  go_wp2_with fail
  generalize (w.alloc (.cells (penC p) 71)).alloc (.cells (penC zeroPen) 71) = W0 at *
  refine (S1 _ hgl).mono ?_
  rintro e w1 ⟨rfl, hR1, hc1⟩
  have b1 := hkeep hc1 b0
  have z1 := hkeep hc1 z0
  have g1 := hkeep hc1 hgl
  have C1 := C0.trans hc1
  have hRw : w.heap.size ≤ W0.heap.size := C0.size
  have hRb : w.heap.size < W0.heap.size := (Array.getElem?_eq_some_iff.1 b0).1
  have hRz : w.heap.size + 1 < W0.heap.size := (Array.getElem?_eq_some_iff.1 z0).1
  generalize W0.heap.size = R at *
  clear b0 z0 hgl C0 hc1 S1
  go_wp2_with fail
  refine (K1 _).mono ?_
  rintro e w2 ⟨rfl, hc2⟩
  have b2 := hkeep hc2 b1
  have z2 := hkeep hc2 z1
  have g2 := hkeep hc2 g1
  have R2 := hkeep hc2 hR1
  have C2 := C1.trans hc2
  clear b1 z1 g1 hR1 C1 hc2 K1
  go_wp2_with fail
  refine (N1 _).mono ?_
  rintro e w3 ⟨rfl, hc3⟩
  have b3 := hkeep hc3 b2
  have z3 := hkeep hc3 z2
  have R3 := hkeep hc3 R2
  have C3 := C2.trans hc3
  have hA3 := C3.size
  clear b2 z2 R2 C2 hc3 N1 g2
  go_wp2
  have hcA : Ch [] w3 (w3.alloc (.cells (accC 0 0 0 0) 96)) := (Ch.refl [] w3).alloc _
  have b4 := hkeep hcA b3
  have z4 := hkeep hcA z3
  have R4 := hkeep hcA R3
  have C4 := C3.trans hcA
  have hne : ∀ k, k < w3.heap.size → k ≠ w3.heap.size := fun k h => by omega
  have k1 := (Array.getElem?_eq_some_iff.1 b3).1
  have k2 := (Array.getElem?_eq_some_iff.1 z3).1
  have k3 := (Array.getElem?_eq_some_iff.1 R3).1
  have bb : (World.onObj (w3.alloc (.cells (accC 0 0 0 0) 96)) w3.heap.size (laidAt 0 (accC 0 0 0 0))).heap[w.heap.size]? = some (.cells (penC p) 71 (0, 0)) := by rw [heap_onObj, if_neg (by omega)]; exact b4
  have zz : (World.onObj (w3.alloc (.cells (accC 0 0 0 0) 96)) w3.heap.size (laidAt 0 (accC 0 0 0 0))).heap[w.heap.size + 1]? = some (.cells (penC zeroPen) 71 (0, 0)) := by rw [heap_onObj, if_neg (by omega)]; exact z4
  have rr : (World.onObj (w3.alloc (.cells (accC 0 0 0 0) 96)) w3.heap.size (laidAt 0 (accC 0 0 0 0))).heap[R]? = some (.cells cu 22 (0, 0)) := by rw [heap_onObj, if_neg (by omega)]; exact R4
  have CC : Ch [] w (World.onObj (w3.alloc (.cells (accC 0 0 0 0) 96)) w3.heap.size (laidAt 0 (accC 0 0 0 0))) := C4.onObj (.inr hA3) _
  clear b3 z3 R3 C3 b4 z4 R4 C4 hcA hne k1 k2 k3
  generalize World.onObj (w3.alloc (.cells (accC 0 0 0 0) 96)) w3.heap.size (laidAt 0 (accC 0 0 0 0)) = w4 at *
  obtain ⟨B, hB⟩ : ∃ B, w.heap.size = B := ⟨_, rfl⟩
  rw [hB] at bb zz hRw hRb hRz hA3 ⊢
  have HB := Lib.hid hB
  clear hB
  have s7 : (fun W' : World => W'.heap[B]? = some (.cells (penC p) 71 (0, 0))) w4.drew := bb
  have z7 : w4.drew.heap[B + 1]? = some (.cells (penC zeroPen) 71 (0, 0)) := zz
  have r7 : w4.drew.heap[R]? = some (.cells cu 22 (0, 0)) := rr
  have C7 : Ch [] w w4.drew := CC.drew
  refine wp_region_held_drew (S := fun W' => W'.heap[B]? = some (.cells (penC p) 71 (0, 0))) (by kernel_rfl) s7 ?_
  intro _
  simp only [List.size_toArray, List.length_cons, List.length_nil, Nat.reduceAdd]
  generalize w4.drew = w7 at *
  refine wpAnyH_take (i := 0) (oi := ⟨some 41, _, _, _, _, none⟩) (v := ?_) rfl (by kernel_rfl) (by kernel_rfl) (by kernel_rfl) (fun _ _ _ h => h) (Or.inl ⟨by rfl, ?_⟩) s7 ?_
  rotate_left
  · intro wq hSq
    first | (go_simp; done) | (go_simp; with_reducible rfl)
  try simp only [Act.put, List.setIfInBounds_toArray, List.set_cons_zero, List.set_cons_succ]
  refine wpAnyH_take (i := 1) (oi := ⟨some 42, _, _, _, _, none⟩) (v := ?_) rfl (by kernel_rfl) (by kernel_rfl) (by kernel_rfl) (fun _ _ _ h => h) (Or.inl ⟨by rfl, ?_⟩) s7 ?_
  rotate_left
  · intro wq hSq
    first | (go_simp; done) | (go_simp; with_reducible rfl)
  try simp only [Act.put, List.setIfInBounds_toArray, List.set_cons_zero, List.set_cons_succ]
  refine wpAnyH_take (i := 2) (oi := ⟨some 4, _, _, _, _, none⟩) (v := ?_) rfl (by kernel_rfl) (by kernel_rfl) (by kernel_rfl) (fun _ _ _ h => h) (Or.inl ⟨by rfl, ?_⟩) s7 ?_
  rotate_left
  · intro wq hSq
    first | (go_simp; done) | (go_simp; with_reducible rfl)
  try simp only [Act.put, List.setIfInBounds_toArray, List.set_cons_zero, List.set_cons_succ]
  refine wpAnyH_ready (rs := [3]) (by kernel_rfl) (by simp) ?_
  refine AllReadyH.cons rfl (fun K hK => ?_) AllReadyH.nil
  go_simp
  have s8 : (World.onObj w7 (B + 1) (laidAt 0 (penC p))).heap[B]? = some (.cells (penC p) 71 (0, 0)) := by rw [heap_onObj, if_neg (by omega)]; exact s7
  have z8 : (World.onObj w7 (B + 1) (laidAt 0 (penC p))).heap[B + 1]? = some (.cells (penC p) 71 (0, 0)) := by rw [heap_onObj, if_pos rfl, z7, Option.map_some, wlaidAt_pen]
  have r8 : (World.onObj w7 (B + 1) (laidAt 0 (penC p))).heap[R]? = some (.cells cu 22 (0, 0)) := by rw [heap_onObj, if_neg (by omega)]; exact r7
  have C8 : Ch [] w (World.onObj w7 (B + 1) (laidAt 0 (penC p))) := C7.onObj (.inr (by rw [HB.out]; omega)) _
  refine hK.out _ _ s8 (fun _ => ?_)
  clear hK K
  generalize World.onObj w7 (B + 1) (laidAt 0 (penC p)) = w8 at *
  refine wpAnyH_take (i := 4) (oi := ⟨some 6, _, _, _, _, none⟩) (v := ?_) rfl (by kernel_rfl) (by kernel_rfl) (by kernel_rfl) (fun _ _ _ h => h) (Or.inl ⟨by rfl, ?_⟩) s8 ?_
  rotate_left
  · intro wq hSq
    first | (go_simp; done) | (go_simp; with_reducible rfl)
  try simp only [Act.put, List.setIfInBounds_toArray, List.set_cons_zero, List.set_cons_succ]
  refine wpAnyH_done (by kernel_rfl) ?_ _
  go_wp2
  refine bodyPost_ret (step_results Tryz.results43 _ (B + 1) _ p _ _ rfl rfl rfl z8) rfl ⟨R, rfl, by rw [HB.out]; exact hRw, r8, C8⟩
end Go.Proofs.Hc
