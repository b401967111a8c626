/- Arguments of the statements, opened: a seed, a table. -/
import Derived.Test.YtcikopeddljgkaaGreatKVf
import Derived.Test.YtcikopeddljgkaaGreatKVg
import Derived.Test.YtcikopeddljgkaaGreatKVh
import Derived.Test.YtcikopeddljgkaaGreatKVi
import Derived.Test.YtcikopeddljgkaaGreatKVj
import Derived.Test.YtcikopeddljgkaaGreatKVk
set_option linter.unusedSimpArgs false
set_option linter.unusedVariables false
set_option maxHeartbeats 8000000
set_option maxRecDepth 100000
namespace Go.Proofs.Hc
open Go.ChangeShapes Go.WideShapes Go.ChangeAt Go.RowKit
theorem wfr_u64 {n : Int} (h : (Lit.int .u64 n).wf = true) : 0 ≤ n ∧ n < 18446744073709551616 := by
  have : 0 ≤ n ∧ n ≤ 18446744073709551615 := by simpa [Lit.wf, IntKind.min, IntKind.max, IntKind.signed, IntKind.bits] using h
  omega
theorem U_of {n : Int} (h : (Lit.int .u64 n).wf = true) : U (BitVec.ofInt 64 n) = .int .u64 n := by
  obtain ⟨h0, h1⟩ := wfr_u64 h
  show Value.int .u64 (N (BitVec.ofInt 64 n)) = _
  have : N (BitVec.ofInt 64 n) = n := by
    unfold N
    rw [BitVec.toNat_ofInt]
    have e : ((2 ^ 64 : Nat) : Int) = 18446744073709551616 := by decide
    rw [e, Int.emod_eq_of_lt h0 h1]
    omega
  rw [this]
section
variable {H : Type} {enc : TypeId × Value → H} {w : World} {base : Nat} {spare : Nat → Bool} {held : Bool}
theorem one_cell {cs : List Value} {o : Nat} {v : Value} (h : (cs.drop o).take 1 = [v]) : cs[o]? = some v := by
  have := congrArg (fun l => l[0]?) h
  simpa using this
theorem cells_u64 : Tryz.prog.cellsOf 22 = 1 := by kernel_rfl
theorem cells_int : Tryz.prog.cellsOf 3 = 1 := by kernel_rfl
theorem cells_t : Tryz.prog.cellsOf 26 = 39 := by kernel_rfl
theorem row_u64 {n : Nat} {t : TypeId} {fuel : Nat} {cs : List Value} {x : DataW H × List MemPlace} (ht : Tryz.prog.underlying t = some (.array n 22)) (h : DataW.trod enc Tryz.prog w base spare held fuel t cs = some x) :
    ∀ i, i < n → ∃ m, cs[i]? = some (.int .u64 m) ∧ (Lit.int .u64 m).wf = true := by
  obtain ⟨xs, m, _, _, _, hl, hx⟩ := DataW.trod_array ht h
  intro i hi
  have h1 := hx i hi
  rw [cells_u64, Nat.mul_one, List.getElem?_eq_getElem (by omega)] at h1
  obtain ⟨k, hk, _, hw⟩ := DataW.trod_int Tryz.underlying22 h1
  exact ⟨k, one_cell hk, hw⟩
theorem fieldsT : ∃ fs, Tryz.prog.underlying 26 = some (.struct fs) ∧ fs.toList.map (fun f => (f.type, f.offset)) = [(22, 0), (3, 1), (22, 2), (3, 3), (3, 4), (23, 5), (24, 7), (24, 23)] :=
  ⟨_, Tryz.underlying26, by kernel_rfl⟩
theorem field_at {fs : Array Field} {l : List (TypeId × Nat)} (h : fs.toList.map (fun f => (f.type, f.offset)) = l) {i : Nat} {t o : Nat} (hi : l[i]? = some (t, o)) : ∃ f, fs[i]? = some f ∧ f.type = t ∧ f.offset = o := by
  rw [← h, List.getElem?_map] at hi
  cases hf : fs.toList[i]? with
  | none => rw [hf] at hi; cases hi
  | some f =>
    rw [hf] at hi
    simp only [Option.map_some, Option.some.injEq, Prod.mk.injEq] at hi
    exact ⟨f, by simpa using hf, hi.1, hi.2⟩
theorem drop_take_get {cs : List Value} {o n i : Nat} {v : Value} (h : ((cs.drop o).take n)[i]? = some v) : cs[o + i]? = some v := by
  rw [List.getElem?_take] at h
  split at h
  · rwa [List.getElem?_drop] at h
  · cases h
def kindT (i : Nat) : IntKind := if i = 1 ∨ i = 3 ∨ i = 4 then .i64 else .u64
theorem table_cells {fuel : Nat} {cs : List Value} {x : DataW H × List MemPlace} (h : DataW.trod enc Tryz.prog w base spare held fuel 26 cs = some x) :
    cs.length = 39 ∧ ∀ i, i < 39 → ∃ m, cs[i]? = some (.int (kindT i) m) ∧ (Lit.int (kindT i) m).wf = true := by
  obtain ⟨fs, hfs, hl⟩ := fieldsT
  obtain ⟨xs, n, _, _, hlen, hxl, hx⟩ := DataW.trod_struct hfs h
  have hsz : fs.size = 8 := by
    have := congrArg List.length hl
    simpa using this
  have rd : ∀ (i t o : Nat), ([(22, 0), (3, 1), (22, 2), (3, 3), (3, 4), (23, 5), (24, 7), (24, 23)] : List (TypeId × Nat))[i]? = some (t, o) → i < 8 →
      ∃ y, DataW.trod enc Tryz.prog w base spare held n t ((cs.drop o).take (Tryz.prog.cellsOf t)) = some y := by
    intro i t o hi hi8
    obtain ⟨f, hf, rfl, rfl⟩ := field_at hl hi
    have := hx i f hf
    rw [List.getElem?_eq_getElem (by omega)] at this
    exact ⟨_, this⟩
  have u1 : ∀ (i o : Nat), ([(22, 0), (3, 1), (22, 2), (3, 3), (3, 4), (23, 5), (24, 7), (24, 23)] : List (TypeId × Nat))[i]? = some (22, o) → i < 8 → ∃ m, cs[o]? = some (.int .u64 m) ∧ (Lit.int .u64 m).wf = true := by
    intro i o hi hi8
    obtain ⟨y, hy⟩ := rd i _ o hi hi8
    obtain ⟨k, hk, _, hw⟩ := DataW.trod_int Tryz.underlying22 hy
    rw [cells_u64] at hk
    exact ⟨k, one_cell hk, hw⟩
  have n1 : ∀ (i o : Nat), ([(22, 0), (3, 1), (22, 2), (3, 3), (3, 4), (23, 5), (24, 7), (24, 23)] : List (TypeId × Nat))[i]? = some (3, o) → i < 8 → ∃ m, cs[o]? = some (.int .i64 m) ∧ (Lit.int .i64 m).wf = true := by
    intro i o hi hi8
    obtain ⟨y, hy⟩ := rd i _ o hi hi8
    obtain ⟨k, hk, _, hw⟩ := DataW.trod_int Tryz.underlying3 hy
    rw [cells_int] at hk
    exact ⟨k, one_cell hk, hw⟩
  refine ⟨hlen.trans cells_t, fun i hi => ?_⟩
  rcases (show i = 0 ∨ i = 1 ∨ i = 2 ∨ i = 3 ∨ i = 4 ∨ (5 ≤ i ∧ i < 7) ∨ (7 ≤ i ∧ i < 23) ∨ (23 ≤ i ∧ i < 39) by omega) with rfl | rfl | rfl | rfl | rfl | h | h | h
  · exact u1 0 0 rfl (by omega)
  · exact n1 1 1 rfl (by omega)
  · exact u1 2 2 rfl (by omega)
  · exact n1 3 3 rfl (by omega)
  · exact n1 4 4 rfl (by omega)
  · obtain ⟨y, hy⟩ := rd 5 _ 5 rfl (by omega)
    obtain ⟨m, hm, hw⟩ := row_u64 Tryz.underlying23 hy (i - 5) (by omega)
    have := drop_take_get hm
    rw [show 5 + (i - 5) = i by omega] at this
    exact ⟨m, by rw [show kindT i = .u64 by unfold kindT; rw [if_neg (by omega)]]; exact this, by rw [show kindT i = .u64 by unfold kindT; rw [if_neg (by omega)]]; exact hw⟩
  · obtain ⟨y, hy⟩ := rd 6 _ 7 rfl (by omega)
    obtain ⟨m, hm, hw⟩ := row_u64 Tryz.underlying24 hy (i - 7) (by omega)
    have := drop_take_get hm
    rw [show 7 + (i - 7) = i by omega] at this
    exact ⟨m, by rw [show kindT i = .u64 by unfold kindT; rw [if_neg (by omega)]]; exact this, by rw [show kindT i = .u64 by unfold kindT; rw [if_neg (by omega)]]; exact hw⟩
  · obtain ⟨y, hy⟩ := rd 7 _ 23 rfl (by omega)
    obtain ⟨m, hm, hw⟩ := row_u64 Tryz.underlying24 hy (i - 23) (by omega)
    have := drop_take_get hm
    rw [show 23 + (i - 23) = i by omega] at this
    exact ⟨m, by rw [show kindT i = .u64 by unfold kindT; rw [if_neg (by omega)]]; exact this, by rw [show kindT i = .u64 by unfold kindT; rw [if_neg (by omega)]]; exact hw⟩
def intAt (cs : List Value) (i : Nat) : Int := match cs[i]? with
  | some (.int _ n) => n
  | _ => 0
theorem intAt_eq {cs : List Value} {i : Nat} {k : IntKind} {m : Int} (h : cs[i]? = some (.int k m)) : intAt cs i = m := by unfold intAt; rw [h]
def tabOf (cs : List Value) : Tab := ⟨BitVec.ofInt 64 (intAt cs 0), intAt cs 1, BitVec.ofInt 64 (intAt cs 2), intAt cs 3, intAt cs 4, fun g => BitVec.ofInt 64 (intAt cs (5 + g)), fun j => BitVec.ofInt 64 (intAt cs (7 + j)), fun j => BitVec.ofInt 64 (intAt cs (23 + j))⟩
theorem tabOf_cells {cs : List Value} (hl : cs.length = 39) (h : ∀ i, i < 39 → ∃ m, cs[i]? = some (.int (kindT i) m) ∧ (Lit.int (kindT i) m).wf = true) : (tcells (tabOf cs)).toList = cs := by
  apply List.ext_getElem?
  intro i
  rw [Array.getElem?_toList, zaf]
  by_cases hi : i < 39
  · rw [if_pos hi]
    obtain ⟨m, hm, hw⟩ := h i hi
    rw [hm]
    congr 1
    match i, hi, hm, hw with
    | 0, _, hm, hw => show U (BitVec.ofInt 64 (intAt cs 0)) = _; rw [intAt_eq hm]; exact U_of hw
    | 1, _, hm, hw => show I (intAt cs 1) = _; rw [intAt_eq hm]; rfl
    | 2, _, hm, hw => show U (BitVec.ofInt 64 (intAt cs 2)) = _; rw [intAt_eq hm]; exact U_of hw
    | 3, _, hm, hw => show I (intAt cs 3) = _; rw [intAt_eq hm]; rfl
    | 4, _, hm, hw => show I (intAt cs 4) = _; rw [intAt_eq hm]; rfl
    | 5, _, hm, hw => show U (BitVec.ofInt 64 (intAt cs (5 + 0))) = _; rw [intAt_eq hm]; exact U_of hw
    | 6, _, hm, hw => show U (BitVec.ofInt 64 (intAt cs (5 + 1))) = _; rw [intAt_eq hm]; exact U_of hw
    | i + 7, hi, hm, hw =>
      have hk : kindT (i + 7) = .u64 := by unfold kindT; rw [if_neg (by omega)]
      rw [hk] at hm hw ⊢
      show (if i < 16 then U (BitVec.ofInt 64 (intAt cs (7 + i))) else U (BitVec.ofInt 64 (intAt cs (23 + (i - 16))))) = _
      by_cases h16 : i < 16
      · rw [if_pos h16, Nat.add_comm, intAt_eq hm]; exact U_of hw
      · rw [if_neg h16, show 23 + (i - 16) = i + 7 by omega, intAt_eq hm]; exact U_of hw
  · rw [if_neg hi, List.getElem?_eq_none (by omega)]
theorem open_table {r : Reach} {b0 : Nat} {v : Value} {d : DataW H} {p : List MemPlace} (hv : Value.okWide Tryz.prog w r b0 26 v) (h : DataW.Trod enc Tryz.prog w base spare held 26 v d p) : ∃ t : Tab, v = .agg (tcells t) := by
  obtain ⟨fs, hfs, _⟩ := fieldsT
  obtain ⟨cs, rfl, hsz⟩ := okWide_struct hfs hv
  obtain ⟨fuel, hf⟩ := h
  have hf' : DataW.trod enc Tryz.prog w base spare held fuel 26 cs.toList = some (d, p) := hf
  obtain ⟨hl, hc⟩ := table_cells hf'
  exact ⟨tabOf cs.toList, congrArg Value.agg (Array.ext' (tabOf_cells hl hc).symm)⟩
end
end Go.Proofs.Hc
namespace Go.Proofs.Hc
open Go.RowKit
attribute [local go_sem] zbr zcd zat zaz zbn zax zbm zbo zbw signed64 signed8 zar BitVec.ofInt_add BitVec.ofInt_mul ofInt_sub' zav zaw wide8 eqN neN zcc shr1 shr7 shr56
attribute [local go_sem high] zay zbv
attribute [local go_sem] zau zbx zai zal zac zbd zan zah zbk zaj zbc zbe
attribute [local go_sem] load26 load73 load23 store26 build73
attribute [local go_sem ↓] lrow26 lrow73 lrow23 srow26 zero26 brow73 zab zba zbb zaa zae
attribute [local go_sem] zag zap zaf zbf zbi zbp zam zaq zbq zbh zbg
attribute [local go_sem] nn2 nm2 nn3 nm3 nn4 nm4 nn5 nm5 nn6 nm6 nn7 nm7 nn8 nm8
section
attribute [local go_sem] loadA loadT2 storeA storeT2 buildA_ts buildA_sm zcm make_func zcl zbt zcw zcg zdd zcr zcn zde zcs t2cells_l t2cells_r
attribute [local go_sem ↓] lrowA lrowT2 srowA srowT2 browA zeroA_run zcz
attribute [local go_sem] zar zbj
attribute [local go_sem] Oper.semAt_some zak
attribute [local go_sem] zci pacell0 pacell1 pacell2 pacell3 pacell4 pacell5 pacell6 pacell7 pacell42
attribute [local go_sem] zcv zdi zdc zcy zcx zdb zdh zda zcf zct part_s6 zdg zco zbl zch zcj boxPart loadPart storePart zce zcq buildPart0 buildPart4
attribute [local go_sem ↓] lrowPart srowPart browPart zck zbs
attribute [local go_sem high] zas
attribute [local irreducible] partC
attribute [local go_sem] box26 zbz cell0 cell1 cell2 cell3 cell4 zcb zca
attribute [local irreducible] tcells t2cells
attribute [local go_sem high] zcu laidAt_t2 laid2i tmod2_64w bit64w bit64zw
attribute [local go_sem] guard26 build_two build2i_21 load2i store2i one2i index2i_0 index2i_1
attribute [local go_sem ↓] eql_tab neq_tab zero2i lrow2i srow2i
theorem halves22_none (t : Tab) (seed : BitVec 64) (back : Bool) (hf : flatT t = false) (w : World) : Calls Tryz.prog 7 #[U seed, .agg (tcells t), .bool back] w fun e w' => e = .returned (.bool true) ∧ Ch [] w w' := by
  have q22 : ∀ (w : World) (a : Option Addr) (n c n' c' : Nat), (binOp .eql 44 (.slice a n c) (.slice none n' c')).run Tryz.prog w = .ok (.bool a.isNone) w := fun w a n c n' c' => Lib.run_eql_slice_nil w _ _ a n c n' c' Tryz.underlying44
  have W1 := fun w => wakes22_any w
  have L1 := fun w => cells22_bad t hf w
  have C0 : Ch [] w (w.alloc (.cells (tcells t) 26)) := (Ch.refl [] w).alloc _
  have t0 : (w.alloc (.cells (tcells t) 26)).heap[w.heap.size]? = some (.cells (tcells t) 26 (0, 0)) := by rw [zab, if_pos rfl]
  clear hf
  go_enter Tryz.func7, Tryz.ntmps7
  go_wp2_with fail
  refine (W1 _).mono ?_
  rintro e w1 ⟨rfl, hc1⟩
  have t1 := hkeep hc1 t0
  have C1 := C0.trans hc1
  clear t0 C0 hc1 W1
  go_wp2_with fail
  refine (L1 _).mono ?_
  rintro e w2 ⟨rfl, hc2⟩
  go_wp2
  go_ret
  exact ⟨rfl, C1.trans hc2⟩
theorem halvesLaw22 (t : Tab) (seed : BitVec 64) (back : Bool) (w : World) : Calls Tryz.prog 7 #[U seed, .agg (tcells t), .bool back] w fun e w' => e = .returned (.bool true) ∧ Ch [] w w' := by
  cases hf : flatT t with
  | false => exact halves22_none t seed back hf w
  | true =>
    by_cases hh : oddB t.count = false ∧ t.depth < 5 ∧ ∃ x, halvesTS t seed = some x
    · obtain ⟨ho, hd, x, hx⟩ := hh
      cases hm : mayT t seed with
      | true => cases back with
        | true => exact halves22_mayB t seed hf ho hd hm w
        | false => exact halves22_mayA t seed hf ho hd hm w
      | false => cases back with
        | true => exact halves22_yesB t seed hf ho hd hx hm w
        | false => exact halves22_yesA t seed hf ho hd hx hm w
    · cases back with
      | true => exact halves22_notB t seed hf hh w
      | false => exact halves22_notA t seed hf hh w
end
end Go.Proofs.Hc
