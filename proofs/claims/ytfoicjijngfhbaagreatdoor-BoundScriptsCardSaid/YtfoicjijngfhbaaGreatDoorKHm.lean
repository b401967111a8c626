/- The words for memory that all walks of this seat use: which old blocks a call may have changed, and blocks that are known whole. -/
import Derived.Below
import Derived.Deep.Draws
import Derived.Lib.Hide
import Derived.RangeFuncRecord
import Derived.Test.YtfoicjijngfhbaaGreatDoorProg
import Derived.WalkKit
import Derived.BigQuiet
import Derived.Deep.QuietTactic
import Derived.Laws.CopyRow
import Derived.Laws.Tables
set_option linter.unusedSimpArgs false
set_option linter.unusedVariables false
namespace Go.Proofs.Hc
open Go.RowKit
/-- Of the blocks that there were only those of S may have changed; new ones may have come. -/
structure Ch (S : List Nat) (w w' : World) : Prop where
  os : w'.os = w.os
  tape : w'.tape = w.tape
  output : w'.output = w.output
  size : w.heap.size ≤ w'.heap.size
  block : ∀ k, k < w.heap.size → k ∉ S → w'.heap[k]? = w.heap[k]?
namespace Ch
variable {S T : List Nat} {w w1 w2 : World}
theorem refl (S : List Nat) (w : World) : Ch S w w := ⟨rfl, rfl, rfl, Nat.le_refl _, fun _ _ _ => rfl⟩
theorem trans2 (h : Ch S w w1) (k : Ch T w1 w2) (hT : ∀ t ∈ T, t ∈ S ∨ w.heap.size ≤ t) : Ch S w w2 :=
  ⟨k.os.trans h.os, k.tape.trans h.tape, k.output.trans h.output, Nat.le_trans h.size k.size, fun i hi hn =>
    (k.block i (Nat.lt_of_lt_of_le hi h.size) (fun ht => by rcases hT i ht with h1 | h1; exact hn h1; omega)).trans (h.block i hi hn)⟩
theorem trans (h : Ch S w w1) (k : Ch S w1 w2) : Ch S w w2 := h.trans2 k fun _ ht => .inl ht
theorem mono (h : Ch S w w1) (hS : ∀ s ∈ S, s ∈ T) : Ch T w w1 := ⟨h.os, h.tape, h.output, h.size, fun k hk hn => h.block k hk fun hs => hn (hS k hs)⟩
theorem of_nil (h : Ch [] w w1) : Ch S w w1 := h.mono fun _ hs => by cases hs
theorem alloc (h : Ch S w w1) (o : Obj) : Ch S w (w1.alloc o) :=
  h.trans2 (T := []) ⟨rfl, rfl, rfl, by simp, fun k hk _ => Below.heap_alloc _ _ _ hk⟩ fun _ ht => by cases ht
theorem drew (h : Ch S w w1) : Ch S w w1.drew := ⟨h.os, h.tape, h.output, h.size, h.block⟩
theorem drewN (h : Ch S w w1) (n : Nat) : Ch S w (w1.drewN n) := ⟨h.os, h.tape, h.output, h.size, h.block⟩
theorem setCell (h : Ch S w w1) {p : Addr} (hp : p.block ∈ S ∨ w.heap.size ≤ p.block) (u : Value) : Ch S w (w1.setCell p u) :=
  h.trans2 (T := [p.block]) ⟨rfl, rfl, rfl, by simp [World.setCell], fun k _ hn => Below.heap_setCell _ _ _ _ (by simpa using hn)⟩
    fun t ht => by rw [List.mem_singleton.1 ht]; exact hp
theorem below {B : Nat} (h : Ch S w w1) (hB : B ≤ w.heap.size) (hS : ∀ s ∈ S, B ≤ s) : Below B w w1 :=
  ⟨h.os, h.tape, h.output, h.size, fun k hk => h.block k (by omega) fun hs => by have := hS k hs; omega⟩
theorem below_nil (h : Ch [] w w1) : Below w.heap.size w w1 := h.below (Nat.le_refl _) fun _ hs => by cases hs
theorem of_grown {row : Option Nat} (h : w.grownBy w1 row) (hr : ∀ k, row = some k → k ∈ S) : Ch S w w1 :=
  ⟨h.os, h.tape, h.output, h.size, fun k hk hn => h.block k hk fun e => hn (hr k e.symm)⟩
theorem cell (h : Ch [] w w1) : ∀ b o, b < w.heap.size → w1.cell? ⟨b, o, none⟩ = w.cell? ⟨b, o, none⟩ :=
  fun b _ hb => World.cell?_of_block (w := w) (h.block b hb (by simp))
theorem frozen (h : Ch [] w w1) : ∀ b o, b < w.heap.size → w1.frozen? ⟨b, o, none⟩ = w.frozen? ⟨b, o, none⟩ :=
  fun b _ hb => World.frozen?_of_block (w := w) (h.block b hb (by simp))
end Ch
/-- A block that is known whole. -/
def Blk (w : World) (g : Nat) (t : TypeId) (cs : Array Value) : Prop := w.heap[g]? = some (.cells cs t (0, 0))
namespace Blk
variable {w w1 : World} {g : Nat} {t : TypeId} {cs : Array Value} {S : List Nat}
theorem lt (h : Blk w g t cs) : g < w.heap.size := (Array.getElem?_eq_some_iff.1 h).1
theorem ch (h : Blk w g t cs) (c : Ch S w w1) (hn : g ∉ S) : Blk w1 g t cs := (c.block g h.lt hn).trans h
theorem cell (h : Blk w g t cs) (i : Nat) : w.cell? ⟨g, i, none⟩ = cs[i]? := by
  unfold Blk at h; simp [World.cell?, h]
theorem frozen (h : Blk w g t cs) (i : Nat) : w.frozen? ⟨g, i, none⟩ = false := by
  unfold Blk at h; simp [World.frozen?, h]
theorem alloc (h : Blk w g t cs) (o : Obj) : Blk (w.alloc o) g t cs := (Below.heap_alloc w o g h.lt).trans h
theorem drew (h : Blk w g t cs) : Blk w.drew g t cs := h
theorem drewN (h : Blk w g t cs) (n : Nat) : Blk (w.drewN n) g t cs := h
end Blk
theorem nn2 (n : Nat) : (n = n + 1 + 1) = False := by simp <;> omega
theorem nm2 (n : Nat) : (n + 1 + 1 = n) = False := by simp <;> omega
theorem nn3 (n : Nat) : (n = n + 1 + 1 + 1) = False := by simp <;> omega
theorem nm3 (n : Nat) : (n + 1 + 1 + 1 = n) = False := by simp <;> omega
theorem nn4 (n : Nat) : (n = n + 1 + 1 + 1 + 1) = False := by simp <;> omega
theorem nm4 (n : Nat) : (n + 1 + 1 + 1 + 1 = n) = False := by simp <;> omega
theorem nn5 (n : Nat) : (n = n + 1 + 1 + 1 + 1 + 1) = False := by simp <;> omega
theorem nm5 (n : Nat) : (n + 1 + 1 + 1 + 1 + 1 = n) = False := by simp <;> omega
theorem nn6 (n : Nat) : (n = n + 1 + 1 + 1 + 1 + 1 + 1) = False := by simp <;> omega
theorem nm6 (n : Nat) : (n + 1 + 1 + 1 + 1 + 1 + 1 = n) = False := by simp <;> omega
theorem nn7 (n : Nat) : (n = n + 1 + 1 + 1 + 1 + 1 + 1 + 1) = False := by simp <;> omega
theorem nm7 (n : Nat) : (n + 1 + 1 + 1 + 1 + 1 + 1 + 1 = n) = False := by simp <;> omega
theorem nn8 (n : Nat) : (n = n + 1 + 1 + 1 + 1 + 1 + 1 + 1 + 1) = False := by simp <;> omega
theorem nm8 (n : Nat) : (n + 1 + 1 + 1 + 1 + 1 + 1 + 1 + 1 = n) = False := by simp <;> omega
end Go.Proofs.Hc
/- Memory in the walk: blocks known whole, rows of cells loaded and stored at once. -/
namespace Go.Proofs.Hc
open Go.RowKit
/-- What a cell of an object holds. -/
def cellAt (o : Nat) : Obj → Option Value
  | .cells c _ _ => c[o]?
  | _ => none
def iceAt (o : Nat) : Obj → Bool
  | .cells _ _ fr => fr.1 ≤ o && o < fr.2
  | _ => false
def setAt (o : Nat) (v : Value) : Obj → Obj
  | .cells c t fr => .cells (c.setIfInBounds o v) t fr
  | x => x
def rowAt (o n : Nat) : Obj → Option (Array Value)
  | .cells c _ _ => if o + n ≤ c.size then some (c.extract o (o + n)) else none
  | _ => none
/-- The cells of a row from o on are these. -/
def laidAt (o : Nat) (vs : Array Value) : Obj → Obj
  | .cells c t fr => .cells (c.extract 0 o ++ vs ++ c.extract (o + vs.size) c.size) t fr
  | x => x
def World.onObj (w : World) (g : Nat) (f : Obj → Obj) : World := { w with heap := w.heap.modify g f }
theorem cell_heap (w : World) (g o : Nat) : w.cell? ⟨g, o, none⟩ = (w.heap[g]?).bind (cellAt o) := by
  unfold World.cell? cellAt
  cases h : w.heap[g]? with
  | none => simp
  | some x => cases x <;> simp
theorem ice_heap (w : World) (g o : Nat) : w.frozen? ⟨g, o, none⟩ = ((w.heap[g]?).map (iceAt o)).getD false := by
  unfold World.frozen? iceAt
  cases h : w.heap[g]? with
  | none => simp
  | some x => cases x <;> simp
theorem cellAt_cells (o : Nat) (c : Array Value) (t : TypeId) (fr : Nat × Nat) : cellAt o (.cells c t fr) = c[o]? := rfl
theorem iceAt_cells (o : Nat) (c : Array Value) (t : TypeId) (fr : Nat × Nat) : iceAt o (.cells c t fr) = (decide (fr.1 ≤ o) && decide (o < fr.2)) := rfl
theorem setAt_cells (o : Nat) (v : Value) (c : Array Value) (t : TypeId) (fr : Nat × Nat) : setAt o v (.cells c t fr) = .cells (c.setIfInBounds o v) t fr := rfl
theorem heap_alloc (w : World) (o : Obj) (g : Nat) : (w.alloc o).heap[g]? = if g = w.heap.size then some o else w.heap[g]? := by
  show (w.heap.push o)[g]? = _
  rw [Array.getElem?_push]
theorem heap_drew (w : World) (g : Nat) : w.drew.heap[g]? = w.heap[g]? := rfl
theorem heap_drewN (w : World) (n g : Nat) : (w.drewN n).heap[g]? = w.heap[g]? := rfl
theorem heap_setCell (w : World) (p o g : Nat) (v : Value) : (w.setCell ⟨p, o, none⟩ v).heap[g]? = if g = p then (w.heap[g]?).map (setAt o v) else w.heap[g]? := by
  simp only [World.setCell, Array.getElem?_modify]
  by_cases h : p = g
  · subst h
    simp only [if_true]
    cases w.heap[p]? with
    | none => rfl
    | some x => cases x <;> simp [setAt]
  · rw [if_neg h, if_neg (fun e => h e.symm)]
theorem heap_onObj (w : World) (p g : Nat) (f : Obj → Obj) : (World.onObj w p f).heap[g]? = if g = p then (w.heap[g]?).map f else w.heap[g]? := by
  simp only [World.onObj, Array.getElem?_modify]
  by_cases h : p = g
  · subst h; simp
  · rw [if_neg h, if_neg (fun e => h e.symm)]
theorem size_onObj (w : World) (p : Nat) (f : Obj → Obj) : (World.onObj w p f).heap.size = w.heap.size := by simp [World.onObj]
theorem size_setCell (w : World) (p : Addr) (v : Value) : (w.setCell p v).heap.size = w.heap.size := by simp [World.setCell]
theorem Ch.onObj {S : List Nat} {w w1 : World} (h : Ch S w w1) {p : Nat} (hp : p ∈ S ∨ w.heap.size ≤ p) (f : Obj → Obj) : Ch S w (World.onObj w1 p f) :=
  h.trans2 (T := [p]) ⟨rfl, rfl, rfl, by rw [size_onObj]; exact Nat.le_refl _, fun k _ hn => by
    rw [heap_onObj, if_neg (by simpa using hn)]⟩ fun t ht => by rw [List.mem_singleton.1 ht]; exact hp
/-- The same loads and stores, closed to the walk's simp. -/
def loadRow (t : TypeId) (a : Addr) : Sem Value := loadVar t a
def buildRow (t : TypeId) (ps : Array (Nat × Value)) : Sem Value := Instr.build t ps
def storeRow (t : TypeId) (a : Addr) (v : Value) : Sem Unit := storeVar t a v
/-- A row that is loaded at once; where there is none, the load as it is. -/
def stuckRow (P : Program) (t : TypeId) (g o : Nat) (w : World) : Result Value := (loadVar t ⟨g, o, none⟩).run P w
def stuckLay (P : Program) (t : TypeId) (g o : Nat) (v : Value) (w : World) : Result Unit := (storeVar t ⟨g, o, none⟩ v).run P w
def rowRes (P : Program) (t : TypeId) (g o : Nat) (w : World) : Option (Array Value) → Result Value
  | some r => .ok (.agg r) w
  | none => stuckRow P t g o w
theorem rowRes_some (P : Program) (t : TypeId) (g o : Nat) (w : World) (r : Array Value) : rowRes P t g o w (some r) = .ok (.agg r) w := rfl
theorem rowAt_cells (o n : Nat) (c : Array Value) (t : TypeId) (fr : Nat × Nat) : rowAt o n (.cells c t fr) = if o + n ≤ c.size then some (c.extract o (o + n)) else none := rfl
theorem run_row {P : Program} {t : TypeId} {n : Nat} {d : TypeDesc} (hu : P.underlying t = some d) (hd : (match d with | .struct _ | .array _ _ => true | _ => false) = true)
    (hi : (P.info? t).map (·.size) = some n) (g o : Nat) (w : World) :
    (loadRow t ⟨g, o, none⟩).run P w = rowRes P t g o w ((w.heap[g]?).bind (rowAt o n)) := by
  unfold loadRow
  cases hr : (w.heap[g]?).bind (rowAt o n) with
  | none => rfl
  | some r =>
    rw [rowRes_some]
    cases hg : w.heap[g]? with
    | none => rw [hg] at hr; cases hr
    | some x =>
      rw [hg] at hr
      cases x <;> first | (cases hr; done) | skip
      rename_i c e fr
      simp only [Option.bind_some, rowAt] at hr
      split at hr
      · rename_i hle
        have hr' : c.extract o (o + n) = r := by simpa using hr
        have hsz : r.size = n := by rw [← hr']; simp; omega
        have hl : (loadCells ⟨g, o, none⟩ r.toList.length).run P w = .ok r.toList.toArray w :=
          run_loadCells_list (P := P) w ⟨g, o, none⟩ r.toList (fun j v hv => by
            have hadd : (⟨g, o, none⟩ : Addr).add j = ⟨g, o + j, none⟩ := by unfold Addr.add; split <;> simp_all
            rw [hadd, cell_heap, hg, Option.bind_some, cellAt_cells]
            have hv' : r[j]? = some v := by simpa using hv
            rw [← hr', Array.getElem?_extract] at hv'
            split at hv' <;> simp_all)
        cases hq : P.info? t with
        | none => simp [hq] at hi
        | some i =>
          have hs : i.size = n := by simpa [hq] using hi
          have hagg : (isAgg t).run P w = .ok true w := by
            unfold isAgg
            rw [Sem.run_bind, run_underlying hu w]
            cases d <;> simp_all
          simp only [Array.length_toList, Array.toArray_toList, hsz] at hl
          simp [loadVar, Sem.run_bind, hagg, sizeOf, typeInfo, hq, hs, hl]
      · cases hr
def allOne (vs : Array Value) : Bool := vs.all (·.oneCell')
/-- A row that is stored at once. -/
def canLay (o n : Nat) (vs : Array Value) : Obj → Bool
  | .cells c _ fr => fr == (0, 0) && decide (o + n ≤ c.size) && decide (vs.size = n) && allOne vs
  | _ => false
theorem canLay_cells (o n : Nat) (vs c : Array Value) (t : TypeId) (fr : Nat × Nat) :
    canLay o n vs (.cells c t fr) = (fr == (0, 0) && decide (o + n ≤ c.size) && decide (vs.size = n) && allOne vs) := rfl
def layRes (P : Program) (t : TypeId) (g o : Nat) (vs : Array Value) (w : World) : Bool → Result Unit
  | true => .ok () (World.onObj w g (laidAt o vs))
  | false => stuckLay P t g o (.agg vs) w
theorem layRes_true (P : Program) (t : TypeId) (g o : Nat) (vs : Array Value) (w : World) : layRes P t g o vs w true = .ok () (World.onObj w g (laidAt o vs)) := rfl
theorem laidAt_cells (o : Nat) (vs c : Array Value) (t : TypeId) (fr : Nat × Nat) : laidAt o vs (.cells c t fr) = .cells (c.extract 0 o ++ vs ++ c.extract (o + vs.size) c.size) t fr := rfl
theorem run_lay {P : Program} {t : TypeId} {n : Nat} (hi : (P.info? t).map (·.size) = some n) (g o : Nat) (vs : Array Value) (w : World) :
    (storeRow t ⟨g, o, none⟩ (.agg vs)).run P w = layRes P t g o vs w (((w.heap[g]?).map (canLay o n vs)).getD false) := by
  unfold storeRow
  cases hr : ((w.heap[g]?).map (canLay o n vs)).getD false with
  | false => rfl
  | true =>
    rw [layRes_true]
    cases hg : w.heap[g]? with
    | none => rw [hg] at hr; cases hr
    | some x =>
      rw [hg] at hr
      cases x <;> first | (cases hr; done) | skip
      rename_i c e fr
      simp only [Option.map_some, Option.getD_some, canLay_cells, Bool.and_eq_true, decide_eq_true_eq, beq_iff_eq] at hr
      obtain ⟨⟨⟨hfr, hle⟩, hn⟩, hall⟩ := hr
      subst hfr
      have := run_storeCells_at (P := P) g o e vs.toList 0 c w hg (by simp; omega) (fun v hv => (Array.all_eq_true_iff_forall_mem.1 (show vs.all (·.oneCell') = true from hall)) v (by simpa using hv))
      cases hq : P.info? t with
      | none => simp [hq] at hi
      | some i =>
        have hs : i.size = n := by simpa [hq] using hi
        have he : w.setRow g (c.toList.take (o + 0) ++ vs.toList ++ c.toList.drop (o + 0 + vs.toList.length)).toArray = World.onObj w g (laidAt o vs) := by
          unfold World.setRow World.onObj
          congr 1
          apply Array.ext_getElem?
          intro k
          simp only [Array.getElem?_modify]
          by_cases hk : g = k
          · subst hk
            simp only [if_true, hg, Option.map_some, laidAt]
            congr 2
            apply Array.ext'
            simp [List.take_of_length_le]
          · simp [hk]
        rw [he] at this
        simp [storeVar, sizeOf, typeInfo, hq, Value.cells, hs, hn, this]
theorem results_cell2 {P : Program} {fn : Func} {p q : Tmp} {T1 T2 : TypeId} (h : fn.results = #[.cell p T1, .cell q T2]) (tmps : Array Value) (a b : Addr) (w : World) {x y : Value}
    (hp : tmps.getD p undef = .pointer (some a)) (hq : tmps.getD q undef = .pointer (some b)) (h1 : (loadVar T1 a).run P w = .ok x w) (h2 : (loadVar T2 b).run P w = .ok y w) :
    (results fn tmps).run P w = .ok (.tuple #[x, y]) w := by
  have hp' : tmps[p]?.getD undef = .pointer (some a) := by simpa using hp
  have hq' : tmps[q]?.getD undef = .pointer (some b) := by simpa using hq
  simp [results, h, hp', hq', asAddr, h1, h2]
theorem load_one {P : Program} {T : TypeId} {d : TypeDesc} (hu : P.underlying T = some d) (hd : (match d with | .struct _ | .array _ _ => true | _ => false) = false) (p : Nat) (w : World) {x : Value} {t : TypeId} {fr : Nat × Nat}
    (h : w.heap[p]? = some (.cells #[x] t fr)) : (loadVar T ⟨p, 0, none⟩).run P w = .ok x w := by
  have hagg : (isAgg T).run P w = .ok false w := by
    unfold isAgg
    rw [Sem.run_bind, run_underlying hu w]
    cases d <;> simp_all
  have hc : w.cell? ⟨p, 0, none⟩ = some x := by rw [cell_heap, h]; rfl
  simp [loadVar, Sem.run_bind, hagg, go_sem, hc]
theorem make_func1 {P : Program} (fn : Fn) (first cap : Array Value) (w : World) : (Instr.makeFunc fn first cap).run P w = .ok (.func fn first cap) w := rfl
end Go.Proofs.Hc
