/- Layer 22, who splits a table, as a value: its cells. -/
import Derived.Test.YtcikopeddljgkaaGreatKHdf
set_option linter.unusedSimpArgs false
set_option linter.unusedVariables false
set_option maxRecDepth 100000
namespace Go.Proofs.Hc
open Go.RowKit
def PartT.cell (p : PartT) : Nat → Value
  | 0 => I p.ph
  | 1 => I p.who
  | 2 => I p.sl
  | 3 => I p.t0
  | 4 => I p.t1
  | 5 => U p.seed
  | 6 => U p.count
  | 7 => U p.head
  | i + 8 => if i < 2 then U (p.c i) else if i < 18 then U (p.k (i - 2)) else if i < 34 then U (p.v (i - 18)) else if i < 35 then I p.at_ else U (p.ws (i - 35))
def partC (p : PartT) : Array Value := Array.ofFn (n := 123) fun i => p.cell i.1
theorem zbn (p : PartT) : (partC p).size = 123 := by simp [partC]
theorem zcm (p : PartT) (i : Nat) : (partC p)[i]? = if i < 123 then some (p.cell i) else none := by
  unfold partC; rw [Array.getElem?_ofFn]; simp
theorem partCell_one (p : PartT) (i : Nat) : (p.cell i).oneCell' = true := by
  unfold PartT.cell; split <;> try rfl
  split <;> try rfl
  split <;> try rfl
  split <;> try rfl
  split <;> rfl
theorem zcg (p : PartT) : allOne (partC p) = true := by
  unfold allOne
  simp only [partC, Array.all_eq_true_iff_forall_mem, Array.mem_ofFn]; rintro v ⟨i, rfl⟩; exact partCell_one ..
theorem zci (p : PartT) : (partC p).extract 0 123 = partC p := by
  have := Array.extract_size (xs := partC p); rwa [zbn] at this
theorem zcv (p : PartT) : (partC p)[0]? = some (I p.ph) := by rw [zcm]; rfl
theorem zdi (p : PartT) : (partC p)[1]? = some (I p.who) := by rw [zcm]; rfl
theorem zde (p : PartT) : (partC p)[2]? = some (I p.sl) := by rw [zcm]; rfl
theorem zcz (p : PartT) : (partC p)[3]? = some (I p.t0) := by rw [zcm]; rfl
theorem zcy (p : PartT) : (partC p)[4]? = some (I p.t1) := by rw [zcm]; rfl
theorem zdd (p : PartT) : (partC p)[5]? = some (U p.seed) := by rw [zcm]; rfl
theorem zdh (p : PartT) : (partC p)[6]? = some (U p.count) := by rw [zcm]; rfl
theorem zdc (p : PartT) : (partC p)[7]? = some (U p.head) := by rw [zcm]; rfl
theorem zcc (p : PartT) : (partC p)[42]? = some (I p.at_) := by rw [zcm]; rfl
theorem part_gc (p : PartT) (j : Nat) (h : j < 2) : (partC p)[8 + j]? = some (U (p.c j)) := by
  rw [zcm, if_pos (by omega), Nat.add_comm]; simp [PartT.cell, h]
theorem part_gk (p : PartT) (j : Nat) (h : j < 16) : (partC p)[10 + j]? = some (U (p.k j)) := by
  rw [zcm, if_pos (by omega), show 10 + j = (j + 2) + 8 by omega]; simp [PartT.cell, show j + 2 < 18 by omega, show ¬ j + 2 < 2 by omega]
theorem part_gv (p : PartT) (j : Nat) (h : j < 16) : (partC p)[26 + j]? = some (U (p.v j)) := by
  rw [zcm, if_pos (by omega), show 26 + j = (j + 18) + 8 by omega]; simp [PartT.cell, show ¬ j + 18 < 2 by omega, show ¬ j + 18 < 18 by omega, show j + 18 < 34 by omega]
theorem part_gw (p : PartT) (j : Nat) (h : j < 80) : (partC p)[43 + j]? = some (U (p.ws j)) := by
  rw [zcm, if_pos (by omega), show 43 + j = (j + 35) + 8 by omega]; simp [PartT.cell, show ¬ j + 35 < 2 by omega, show ¬ j + 35 < 18 by omega, show ¬ j + 35 < 34 by omega]
theorem zch (p : PartT) (i : Nat) (h : i < (partC p).size) : (partC p)[i] = p.cell i := by simp [partC]
theorem pacell0 (p : PartT) : p.cell 0 = I p.ph := rfl
theorem pacell1 (p : PartT) : p.cell 1 = I p.who := rfl
theorem pacell2 (p : PartT) : p.cell 2 = I p.sl := rfl
theorem pacell3 (p : PartT) : p.cell 3 = I p.t0 := rfl
theorem pacell4 (p : PartT) : p.cell 4 = I p.t1 := rfl
theorem pacell5 (p : PartT) : p.cell 5 = U p.seed := rfl
theorem pacell6 (p : PartT) : p.cell 6 = U p.count := rfl
theorem pacell7 (p : PartT) : p.cell 7 = U p.head := rfl
theorem pacell42 (p : PartT) : p.cell 42 = I p.at_ := rfl
theorem paset {p p' : PartT} {j : Nat} {x : Value} (hj : j < 123) (hx : p'.cell j = x) (ho : ∀ i, i < 123 → i ≠ j → p'.cell i = p.cell i) :
    (partC p).setIfInBounds j x = partC p' := by
  apply Array.ext_getElem?; intro i
  rw [Array.getElem?_setIfInBounds, zcm, zcm, zbn]
  by_cases h : j = i
  · subst h; simp [hj, hx]
  · rw [if_neg h]
    by_cases h2 : i < 123
    · simp only [h2, if_true]; rw [ho i h2 (fun e => h e.symm)]
    · simp [h2]
theorem zcp (p : PartT) (x : Int) : (partC p).setIfInBounds 0 (I x) = partC { p with ph := x } :=
  paset (by omega) rfl (fun i _ h => by unfold PartT.cell; split <;> first | rfl | omega)
theorem zdj (p : PartT) (x : BitVec 64) : (partC p).setIfInBounds 6 (U x) = partC { p with count := x } :=
  paset (by omega) rfl (fun i _ h => by unfold PartT.cell; split <;> first | rfl | omega)
theorem zdg (p : PartT) (x : BitVec 64) : (partC p).setIfInBounds 7 (U x) = partC { p with head := x } :=
  paset (by omega) rfl (fun i _ h => by unfold PartT.cell; split <;> first | rfl | omega)
theorem zck (p : PartT) (x : Int) : (partC p).setIfInBounds 42 (I x) = partC { p with at_ := x } := by
  refine paset (by omega) rfl (fun i hi h => ?_)
  unfold PartT.cell
  split <;> first | rfl | skip
  rename_i i
  by_cases h35 : i < 34
  · by_cases a : i < 2
    · simp [a]
    · by_cases b : i < 18
      · simp [a, b]
      · simp [a, b, h35]
  · simp [show ¬ i < 2 by omega, show ¬ i < 18 by omega, h35, show ¬ i < 35 by omega]
theorem part_sc (p : PartT) (j : Nat) (hj : j < 2) (x : BitVec 64) : (partC p).setIfInBounds (8 + j) (U x) = partC { p with c := updW p.c j x } := by
  refine paset (by omega) ?_ (fun i hi h => ?_)
  · rw [Nat.add_comm]; simp [PartT.cell, hj, updW]
  · unfold PartT.cell
    split <;> first | rfl | skip
    rename_i i
    by_cases a : i < 2
    · simp [a, updW, show i ≠ j by omega]
    · simp [a]
theorem part_sk (p : PartT) (j : Nat) (hj : j < 16) (x : BitVec 64) : (partC p).setIfInBounds (10 + j) (U x) = partC { p with k := updW p.k j x } := by
  refine paset (by omega) ?_ (fun i hi h => ?_)
  · rw [show 10 + j = (j + 2) + 8 by omega]; simp [PartT.cell, show j + 2 < 18 by omega, show ¬ j + 2 < 2 by omega, updW]
  · unfold PartT.cell
    split <;> first | rfl | skip
    rename_i i
    by_cases a : i < 2
    · simp [a]
    · by_cases b : i < 18
      · simp [a, b, updW, show ¬ i - 2 = j by omega]
      · simp [a, b]
theorem part_sv (p : PartT) (j : Nat) (hj : j < 16) (x : BitVec 64) : (partC p).setIfInBounds (26 + j) (U x) = partC { p with v := updW p.v j x } := by
  refine paset (by omega) ?_ (fun i hi h => ?_)
  · rw [show 26 + j = (j + 18) + 8 by omega]; simp [PartT.cell, show ¬ j + 18 < 2 by omega, show ¬ j + 18 < 18 by omega, show j + 18 < 34 by omega, updW]
  · unfold PartT.cell
    split <;> first | rfl | skip
    rename_i i
    by_cases a : i < 2
    · simp [a]
    · by_cases b : i < 18
      · simp [a, b]
      · by_cases d : i < 34
        · simp [a, b, d, updW, show ¬ i - 18 = j by omega]
        · simp [a, b, d]
theorem boxPart (p : PartT) (w : World) : (Instr.box 51 (.agg (partC p))).run Tryz.prog w = .ok (.pointer (some ⟨w.heap.size, 0, none⟩)) (w.alloc (.cells (partC p) 51)) := rfl
theorem loadPart (g o : Nat) (w : World) : (loadRow 51 ⟨g, o, none⟩).run Tryz.prog w = rowRes Tryz.prog 51 g o w ((w.heap[g]?).bind (rowAt o 123)) :=
  run_row Tryz.underlying51 rfl (by kernel_rfl) g o w
theorem storePart (g o : Nat) (vs : Array Value) (w : World) : (storeRow 51 ⟨g, o, none⟩ (.agg vs)).run Tryz.prog w = layRes Tryz.prog 51 g o vs w (((w.heap[g]?).map (canLay o 123 vs)).getD false) :=
  run_lay (by kernel_rfl) g o vs w
theorem lrowPart (a : Addr) : loadVar 51 a = loadRow 51 a := rfl
theorem srowPart (a : Addr) (v : Value) : storeVar 51 a v = storeRow 51 a v := rfl
theorem browPart (ps : Array (Nat × Value)) : Instr.build 51 ps = buildRow 51 ps := rfl
theorem zcj (ps : Array (Nat × Value)) : Instr.build 179 ps = buildRow 179 ps := rfl
theorem zcd (p : PartT) (w : World) : (buildRow 179 #[(0, .agg (partC p))]).run Tryz.prog w = .ok (.agg (partC p)) w := by kernel_rfl
theorem zcs (p : PartT) (w : World) : (Instr.box 179 (.agg (partC p))).run Tryz.prog w = .ok (.pointer (some ⟨w.heap.size, 0, none⟩)) (w.alloc (.cells (partC p) 179)) := rfl
theorem zbw (w : World) : (zeroValue 51).run Tryz.prog w = .ok (.agg (partC zeroPart)) w := by kernel_rfl
theorem zap (p q : PartT) (T : TypeId) (fr : Nat × Nat) : laidAt 0 (partC q) (.cells (partC p) T fr) = .cells (partC q) T fr := by
  rw [zag, zdf _ _ (by rw [zbn, zbn])]
theorem buildPart0 (w : World) : (buildRow 51 #[]).run Tryz.prog w = .ok (.agg (partC zeroPart)) w := by kernel_rfl
def firstP22 (who sl a b : Int) (seed : BitVec 64) : PartT := ⟨0, who, sl, a, b, seed, 0#64, 0#64, fun _ => 0#64, fun _ => 0#64, fun _ => 0#64, 0, fun _ => 0#64⟩
theorem buildPart4 (who sl a b : Int) (seed : BitVec 64) (w : World) : (buildRow 51 #[(1, I who), (2, I sl), (3, .agg #[I a, I b]), (4, U seed)]).run Tryz.prog w = .ok (.agg (partC (firstP22 who sl a b seed))) w := by kernel_rfl
end Go.Proofs.Hc
namespace Go.Proofs.Hc
open Go.RowKit
theorem part_fields : (Tryz.prog.fieldsOf 51).toList.map (fun f => (f.type, f.offset)) = [(3, 0), (3, 1), (3, 2), (45, 3), (22, 5), (22, 6), (22, 7), (23, 8), (24, 10), (24, 26), (3, 42), (49, 43)] := by kernel_rfl
theorem part_under : Tryz.prog.underlying 51 = some (.struct (Tryz.prog.fieldsOf 51)) := by kernel_rfl
theorem part_stood : Tryz.prog.stoodInHeld 51 = false := by kernel_rfl
theorem ci2_cells : Tryz.prog.cellsOf 45 = 2 := by kernel_rfl
theorem c40s_cells : Tryz.prog.cellsOf 48 = 40 := by kernel_rfl
theorem c80_cells : Tryz.prog.cellsOf 49 = 80 := by kernel_rfl
theorem self_ints {d n : Nat} {T : TypeId} (h : Tryz.prog.underlying T = some (.array n 3)) (xs : Array Value) (hx : ∀ i, i < n → ∃ b : Int, xs[i]? = some (I b)) : SelfEq (d + 2) T (.agg xs) := fun w => by
  obtain ⟨i, hi⟩ : ∃ i, Tryz.prog.info? 3 = some i := info_of_underlying Tryz.underlying3
  rw [run_equalIn_array w (d + 1) xs xs h hi]
  have hc : Tryz.prog.cellsOf 3 = 1 := by kernel_rfl
  rw [hc]
  refine self_items _ (fun j hj => ?_) w
  obtain ⟨b, hb⟩ := hx j (by simpa using hj)
  exact ⟨I b, fun w => part_int Tryz.underlying3 (by rw [Nat.mul_one]; exact hb) w, self_int d _ _ _ _ Tryz.underlying3⟩
theorem self_w80 {d : Nat} (xs : Array Value) (hx : ∀ i, i < 80 → ∃ b : BitVec 64, xs[i]? = some (U b)) : SelfEq (d + 3) 49 (.agg xs) := fun w => by
  obtain ⟨i, hi⟩ := info_of_underlying (P := Tryz.prog) Tryz.underlying48
  rw [run_equalIn_array w (d + 2) _ _ Tryz.underlying49 hi, c40s_cells]
  refine self_items _ (fun j hj => ?_) w
  have hj2 : j < 2 := by simpa using hj
  refine ⟨_, part_arr Tryz.underlying48 hi c40s_cells _ _, self_words Tryz.underlying48 _ (fun k hk => ?_)⟩
  obtain ⟨b, hb⟩ := hx (j * 40 + k) (by omega)
  have hlt := (Array.getElem?_eq_some_iff.1 hb).1
  have hlt2 : j * 40 + k < xs.size := hlt
  obtain ⟨b2, hb2⟩ := hx 79 (by omega)
  have h79 := (Array.getElem?_eq_some_iff.1 hb2).1
  refine ⟨b, ?_⟩
  rw [Array.getElem?_extract, if_pos (by omega)]
  exact hb
theorem self_part (d : Nat) (p : PartT) : SelfEq (d + 4) 51 (.agg (partC p)) := fun w => by
  rw [run_equalIn_agg w (d + 3) 51 _ _ part_under part_stood]
  refine self_fields _ (fun f hf => ?_) w
  have hm : (f.type, f.offset) ∈ [(3, 0), (3, 1), (3, 2), (45, 3), (22, 5), (22, 6), (22, 7), (23, 8), (24, 10), (24, 26), (3, 42), (49, 43)] := by
    rw [← part_fields]; exact List.mem_map.2 ⟨f, hf, rfl⟩
  generalize f.type = T at *
  generalize f.offset = o at *
  obtain ⟨ii, hii⟩ := info_of_underlying (P := Tryz.prog) Tryz.underlying45
  obtain ⟨i2, h2⟩ := info_of_underlying (P := Tryz.prog) Tryz.underlying23
  obtain ⟨i16, h16⟩ := info_of_underlying (P := Tryz.prog) Tryz.underlying24
  obtain ⟨i80, h80⟩ := info_of_underlying (P := Tryz.prog) Tryz.underlying49
  simp only [List.mem_cons, Prod.mk.injEq, List.not_mem_nil, or_false] at hm
  rcases hm with ⟨rfl, rfl⟩ | ⟨rfl, rfl⟩ | ⟨rfl, rfl⟩ | ⟨rfl, rfl⟩ | ⟨rfl, rfl⟩ | ⟨rfl, rfl⟩ | ⟨rfl, rfl⟩ | ⟨rfl, rfl⟩ | ⟨rfl, rfl⟩ | ⟨rfl, rfl⟩ | ⟨rfl, rfl⟩ | ⟨rfl, rfl⟩
  · exact ⟨_, part_int Tryz.underlying3 (zcv p), self_int _ _ _ _ _ Tryz.underlying3⟩
  · exact ⟨_, part_int Tryz.underlying3 (zdi p), self_int _ _ _ _ _ Tryz.underlying3⟩
  · exact ⟨_, part_int Tryz.underlying3 (zde p), self_int _ _ _ _ _ Tryz.underlying3⟩
  · refine ⟨_, part_arr Tryz.underlying45 hii ci2_cells _ _, self_ints Tryz.underlying45 _ (fun i hi => ?_)⟩
    match i, hi with
    | 0, _ => exact ⟨p.t0, by rw [Array.getElem?_extract, if_pos (by rw [zbn]; omega)]; exact zcz p⟩
    | 1, _ => exact ⟨p.t1, by rw [Array.getElem?_extract, if_pos (by rw [zbn]; omega)]; exact zcy p⟩
  · exact ⟨_, part_int Tryz.underlying22 (zdd p), self_int _ _ _ _ _ Tryz.underlying22⟩
  · exact ⟨_, part_int Tryz.underlying22 (zdh p), self_int _ _ _ _ _ Tryz.underlying22⟩
  · exact ⟨_, part_int Tryz.underlying22 (zdc p), self_int _ _ _ _ _ Tryz.underlying22⟩
  · refine ⟨_, part_arr Tryz.underlying23 h2 c2_cells _ _, self_words Tryz.underlying23 _ (fun i hi => ⟨p.c i, ?_⟩)⟩
    rw [Array.getElem?_extract, if_pos (by rw [zbn]; omega)]
    exact part_gc p i hi
  · refine ⟨_, part_arr Tryz.underlying24 h16 c16_cells _ _, self_words Tryz.underlying24 _ (fun i hi => ⟨p.k i, ?_⟩)⟩
    rw [Array.getElem?_extract, if_pos (by rw [zbn]; omega)]
    exact part_gk p i hi
  · refine ⟨_, part_arr Tryz.underlying24 h16 c16_cells _ _, self_words Tryz.underlying24 _ (fun i hi => ⟨p.v i, ?_⟩)⟩
    rw [Array.getElem?_extract, if_pos (by rw [zbn]; omega)]
    exact part_gv p i hi
  · exact ⟨_, part_int Tryz.underlying3 (zcc p), self_int _ _ _ _ _ Tryz.underlying3⟩
  · refine ⟨.agg ((partC p).extract 43 (43 + 80)), fun w => by simp [part, isAgg, run_underlying Tryz.underlying49, run_sizeOf w h80, c80_cells], self_w80 _ (fun i hi => ⟨p.ws i, ?_⟩)⟩
    rw [Array.getElem?_extract, if_pos (by rw [zbn]; omega)]
    exact part_gw p i hi
theorem eql_part (p : PartT) (w : World) : (binOp .eql 51 (.agg (partC p)) (.agg (partC p))).run Tryz.prog w = .ok (.bool true) w := by
  rw [run_eql_struct, self_part 9996 p w]; rfl
theorem neq_part (p : PartT) (w : World) : (binOp .neq 51 (.agg (partC p)) (.agg (partC p))).run Tryz.prog w = .ok (.bool false) w := by
  rw [run_neq_struct, self_part 9996 p w]; rfl
theorem guardPart (op : BinOp) (x y : Operand) (xs ys : Array Value) (w : World) : (eqGuard op 51 x y (.agg xs) (.agg ys)).run Tryz.prog w = .ok () w := run_eqGuard_agg w op 51 x y xs ys (by kernel_rfl)
end Go.Proofs.Hc
