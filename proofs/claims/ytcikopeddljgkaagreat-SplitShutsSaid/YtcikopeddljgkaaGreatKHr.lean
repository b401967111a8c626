/- Memory in the walk: blocks known whole, rows of cells loaded and stored at once. -/
import Derived.Test.YtcikopeddljgkaaGreatKHa
import Derived.LoopIn
import Derived.LoopNIn
import Derived.OwnWalkIn
import Derived.RangeFuncCalls
import Derived.TacticsInMore
set_option linter.unusedSimpArgs false
set_option linter.unusedVariables false
namespace Go.Proofs.Hc
open Go.RowKit
def cellAt (o : Nat) : Obj → Option Value
  | .cells c _ _ => c[o]?
  | _ => none
def iceAt (o : Nat) : Obj → Bool
  | .cells _ _ fr => fr.1 ≤ o && o < fr.2
  | _ => false
def setAt (o : Nat) (v : Value) : Obj → Obj
  | .cells c t fr => .cells (c.setIfInBounds o v) t fr
  | x => x
def rowAt (o n : Nat) : Obj → Option (Array Value)
  | .cells c _ _ => if o + n ≤ c.size then some (c.extract o (o + n)) else none
  | _ => none
def laidAt (o : Nat) (vs : Array Value) : Obj → Obj
  | .cells c t fr => .cells (c.extract 0 o ++ vs ++ c.extract (o + vs.size) c.size) t fr
  | x => x
def World.onObj (w : World) (g : Nat) (f : Obj → Obj) : World := { w with heap := w.heap.modify g f }
theorem zan (w : World) (g o : Nat) : w.cell? ⟨g, o, none⟩ = (w.heap[g]?).bind (cellAt o) := by
  unfold World.cell? cellAt
  cases h : w.heap[g]? with
  | none => simp
  | some x => cases x <;> simp
theorem zbv (w : World) (g o : Nat) : w.frozen? ⟨g, o, none⟩ = ((w.heap[g]?).map (iceAt o)).getD false := by
  unfold World.frozen? iceAt
  cases h : w.heap[g]? with
  | none => simp
  | some x => cases x <;> simp
theorem zae (o : Nat) (c : Array Value) (t : TypeId) (fr : Nat × Nat) : cellAt o (.cells c t fr) = c[o]? := rfl
theorem zal (o : Nat) (c : Array Value) (t : TypeId) (fr : Nat × Nat) : iceAt o (.cells c t fr) = (decide (fr.1 ≤ o) && decide (o < fr.2)) := rfl
theorem zad (o : Nat) (v : Value) (c : Array Value) (t : TypeId) (fr : Nat × Nat) : setAt o v (.cells c t fr) = .cells (c.setIfInBounds o v) t fr := rfl
theorem zab (w : World) (o : Obj) (g : Nat) : (w.alloc o).heap[g]? = if g = w.heap.size then some o else w.heap[g]? := by
  show (w.heap.push o)[g]? = _
  rw [Array.getElem?_push]
theorem zav (w : World) (g : Nat) : w.drew.heap[g]? = w.heap[g]? := rfl
theorem zbb (w : World) (n g : Nat) : (w.drewN n).heap[g]? = w.heap[g]? := rfl
theorem zaa (w : World) (p o g : Nat) (v : Value) : (w.setCell ⟨p, o, none⟩ v).heap[g]? = if g = p then (w.heap[g]?).map (setAt o v) else w.heap[g]? := by
  simp only [World.setCell, Array.getElem?_modify]
  by_cases h : p = g
  · subst h
    simp only [if_true]
    cases w.heap[p]? with
    | none => rfl
    | some x => cases x <;> simp [setAt]
  · rw [if_neg h, if_neg (fun e => h e.symm)]
theorem zac (w : World) (p g : Nat) (f : Obj → Obj) : (World.onObj w p f).heap[g]? = if g = p then (w.heap[g]?).map f else w.heap[g]? := by
  simp only [World.onObj, Array.getElem?_modify]
  by_cases h : p = g
  · subst h; simp
  · rw [if_neg h, if_neg (fun e => h e.symm)]
theorem zbj (w : World) (p : Nat) (f : Obj → Obj) : (World.onObj w p f).heap.size = w.heap.size := by simp [World.onObj]
theorem zaj (w : World) (p : Addr) (v : Value) : (w.setCell p v).heap.size = w.heap.size := by simp [World.setCell]
theorem Ch.onObj {S : List Nat} {w w1 : World} (h : Ch S w w1) {p : Nat} (hp : p ∈ S ∨ w.heap.size ≤ p) (f : Obj → Obj) : Ch S w (World.onObj w1 p f) :=
  h.trans2 (T := [p]) ⟨rfl, rfl, rfl, by rw [zbj]; exact Nat.le_refl _, fun k _ hn => by
    rw [zac, if_neg (by simpa using hn)]⟩ fun t ht => by rw [List.mem_singleton.1 ht]; exact hp
def loadRow (t : TypeId) (a : Addr) : Sem Value := loadVar t a
def buildRow (t : TypeId) (ps : Array (Nat × Value)) : Sem Value := Instr.build t ps
def storeRow (t : TypeId) (a : Addr) (v : Value) : Sem Unit := storeVar t a v
def stuckRow (P : Program) (t : TypeId) (g o : Nat) (w : World) : Result Value := (loadVar t ⟨g, o, none⟩).run P w
def stuckLay (P : Program) (t : TypeId) (g o : Nat) (v : Value) (w : World) : Result Unit := (storeVar t ⟨g, o, none⟩ v).run P w
def rowRes (P : Program) (t : TypeId) (g o : Nat) (w : World) : Option (Array Value) → Result Value
  | some r => .ok (.agg r) w
  | none => stuckRow P t g o w
theorem zbc (P : Program) (t : TypeId) (g o : Nat) (w : World) (r : Array Value) : rowRes P t g o w (some r) = .ok (.agg r) w := rfl
theorem zbd (o n : Nat) (c : Array Value) (t : TypeId) (fr : Nat × Nat) : rowAt o n (.cells c t fr) = if o + n ≤ c.size then some (c.extract o (o + n)) else none := rfl
theorem run_row {P : Program} {t : TypeId} {n : Nat} {d : TypeDesc} (hu : P.underlying t = some d) (hd : (match d with | .struct _ | .array _ _ => true | _ => false) = true)
    (hi : (P.info? t).map (·.size) = some n) (g o : Nat) (w : World) :
    (loadRow t ⟨g, o, none⟩).run P w = rowRes P t g o w ((w.heap[g]?).bind (rowAt o n)) := by
  unfold loadRow
  cases hr : (w.heap[g]?).bind (rowAt o n) with
  | none => rfl
  | some r =>
    rw [zbc]
    cases hg : w.heap[g]? with
    | none => rw [hg] at hr; cases hr
    | some x =>
      rw [hg] at hr
      cases x <;> first | (cases hr; done) | skip
      rename_i c e fr
      simp only [Option.bind_some, rowAt] at hr
      split at hr
      · rename_i hle
        have hr' : c.extract o (o + n) = r := by simpa using hr
        have hsz : r.size = n := by rw [← hr']; simp; omega
        have hl : (loadCells ⟨g, o, none⟩ r.toList.length).run P w = .ok r.toList.toArray w :=
          run_loadCells_list (P := P) w ⟨g, o, none⟩ r.toList (fun j v hv => by
            have hadd : (⟨g, o, none⟩ : Addr).add j = ⟨g, o + j, none⟩ := by unfold Addr.add; split <;> simp_all
            rw [hadd, zan, hg, Option.bind_some, zae]
            have hv' : r[j]? = some v := by simpa using hv
            rw [← hr', Array.getElem?_extract] at hv'
            split at hv' <;> simp_all)
        cases hq : P.info? t with
        | none => simp [hq] at hi
        | some i =>
          have hs : i.size = n := by simpa [hq] using hi
          have hagg : (isAgg t).run P w = .ok true w := by
            unfold isAgg
            rw [Sem.run_bind, run_underlying hu w]
            cases d <;> simp_all
          simp only [Array.length_toList, Array.toArray_toList, hsz] at hl
          simp [loadVar, Sem.run_bind, hagg, sizeOf, typeInfo, hq, hs, hl]
      · cases hr
def allOne (vs : Array Value) : Bool := vs.all (·.oneCell')
def canLay (o n : Nat) (vs : Array Value) : Obj → Bool
  | .cells c _ fr => fr == (0, 0) && decide (o + n ≤ c.size) && decide (vs.size = n) && allOne vs
  | _ => false
theorem zao (o n : Nat) (vs c : Array Value) (t : TypeId) (fr : Nat × Nat) :
    canLay o n vs (.cells c t fr) = (fr == (0, 0) && decide (o + n ≤ c.size) && decide (vs.size = n) && allOne vs) := rfl
def layRes (P : Program) (t : TypeId) (g o : Nat) (vs : Array Value) (w : World) : Bool → Result Unit
  | true => .ok () (World.onObj w g (laidAt o vs))
  | false => stuckLay P t g o (.agg vs) w
theorem zbe (P : Program) (t : TypeId) (g o : Nat) (vs : Array Value) (w : World) : layRes P t g o vs w true = .ok () (World.onObj w g (laidAt o vs)) := rfl
theorem zag (o : Nat) (vs c : Array Value) (t : TypeId) (fr : Nat × Nat) : laidAt o vs (.cells c t fr) = .cells (c.extract 0 o ++ vs ++ c.extract (o + vs.size) c.size) t fr := rfl
theorem zdf (vs c : Array Value) (h : c.size = vs.size) : c.extract 0 0 ++ vs ++ c.extract (0 + vs.size) c.size = vs := by
  have h1 : c.extract (0 + vs.size) c.size = #[] := by apply Array.eq_empty_of_size_eq_zero; simp; omega
  have h2 : c.extract 0 0 = #[] := by apply Array.eq_empty_of_size_eq_zero; simp
  rw [h1, h2]; simp
theorem run_lay {P : Program} {t : TypeId} {n : Nat} (hi : (P.info? t).map (·.size) = some n) (g o : Nat) (vs : Array Value) (w : World) :
    (storeRow t ⟨g, o, none⟩ (.agg vs)).run P w = layRes P t g o vs w (((w.heap[g]?).map (canLay o n vs)).getD false) := by
  unfold storeRow
  cases hr : ((w.heap[g]?).map (canLay o n vs)).getD false with
  | false => rfl
  | true =>
    rw [zbe]
    cases hg : w.heap[g]? with
    | none => rw [hg] at hr; cases hr
    | some x =>
      rw [hg] at hr
      cases x <;> first | (cases hr; done) | skip
      rename_i c e fr
      simp only [Option.map_some, Option.getD_some, zao, Bool.and_eq_true, decide_eq_true_eq, beq_iff_eq] at hr
      obtain ⟨⟨⟨hfr, hle⟩, hn⟩, hall⟩ := hr
      subst hfr
      have := run_storeCells_at (P := P) g o e vs.toList 0 c w hg (by simp; omega) (fun v hv => (Array.all_eq_true_iff_forall_mem.1 (show vs.all (·.oneCell') = true from hall)) v (by simpa using hv))
      cases hq : P.info? t with
      | none => simp [hq] at hi
      | some i =>
        have hs : i.size = n := by simpa [hq] using hi
        have he : w.setRow g (c.toList.take (o + 0) ++ vs.toList ++ c.toList.drop (o + 0 + vs.toList.length)).toArray = World.onObj w g (laidAt o vs) := by
          unfold World.setRow World.onObj
          congr 1
          apply Array.ext_getElem?
          intro k
          simp only [Array.getElem?_modify]
          by_cases hk : g = k
          · subst hk
            simp only [if_true, hg, Option.map_some, laidAt]
            congr 2
            apply Array.ext'
            simp [List.take_of_length_le]
          · simp [hk]
        rw [he] at this
        simp [storeVar, sizeOf, typeInfo, hq, Value.cells, hs, hn, this]
theorem results_cell2 {P : Program} {fn : Func} {p q : Tmp} {T1 T2 : TypeId} (h : fn.results = #[.cell p T1, .cell q T2]) (tmps : Array Value) (a b : Addr) (w : World) {x y : Value}
    (hp : tmps.getD p undef = .pointer (some a)) (hq : tmps.getD q undef = .pointer (some b)) (h1 : (loadVar T1 a).run P w = .ok x w) (h2 : (loadVar T2 b).run P w = .ok y w) :
    (results fn tmps).run P w = .ok (.tuple #[x, y]) w := by
  have hp' : tmps[p]?.getD undef = .pointer (some a) := by simpa using hp
  have hq' : tmps[q]?.getD undef = .pointer (some b) := by simpa using hq
  simp [results, h, hp', hq', asAddr, h1, h2]
theorem load_one {P : Program} {T : TypeId} {d : TypeDesc} (hu : P.underlying T = some d) (hd : (match d with | .struct _ | .array _ _ => true | _ => false) = false) (p : Nat) (w : World) {x : Value} {t : TypeId} {fr : Nat × Nat}
    (h : w.heap[p]? = some (.cells #[x] t fr)) : (loadVar T ⟨p, 0, none⟩).run P w = .ok x w := by
  have hagg : (isAgg T).run P w = .ok false w := by
    unfold isAgg
    rw [Sem.run_bind, run_underlying hu w]
    cases d <;> simp_all
  have hc : w.cell? ⟨p, 0, none⟩ = some x := by rw [zan, h]; rfl
  simp [loadVar, Sem.run_bind, hagg, go_sem, hc]
theorem zak {P : Program} (fn : Fn) (first cap : Array Value) (w : World) : (Instr.makeFunc fn first cap).run P w = .ok (.func fn first cap) w := rfl
end Go.Proofs.Hc
namespace Go.Proofs.Hc
open Go.RowKit
abbrev Wd : Fence := Fence.wide
def Yields {α : Type} (P : Program) (g : Nat) (lb : Array Value) (encs : α → Array Value) (xs : List α) (own kept : List Nat) (w : World) : Prop :=
  ∀ (n l : Nat) (J : List α → World → Prop) (Jx : World → Prop) (W : World), Ch [] w W → (∀ b ∈ kept, W.heap[b]? = w.heap[b]?) →
    (∀ pre A B, J pre A → Ch own A B → J pre B) → (∀ A B, Jx A → Ch own A B → Jx B) →
    (∀ pre x post W1, xs = pre ++ x :: post → J pre W1 → YieldAt Wd n P l (encs x) W1 fun e W' =>
      (e = .returned (.bool true) ∧ J (pre ++ [x]) W' ∧ W1.heap.size ≤ W'.heap.size ∧ ∀ b ∈ kept, W'.heap[b]? = W1.heap[b]?) ∨ (e = .returned (.bool false) ∧ Jx W')) →
    J [] W →
    CallsIn Wd (n + 1) P g (#[.func (.yield l) #[] #[]] ++ lb) W fun e W' => (∃ v, e = .returned v) ∧ (J xs W' ∨ Jx W')
def bodyQ (I : World → Prop) (Ix : Code → World → Prop) (keep : Nat → Prop) (W : World) : Exit → Act → World → Prop
  | .normal, _, W' => I W' ∧ W.heap.size ≤ W'.heap.size ∧ ∀ b, keep b → W'.heap[b]? = W.heap[b]?
  | .ret, _, W' => Ix .ret W' ∧ ∀ b, keep b → W'.heap[b]? = W.heap[b]?
  | .exit id, _, W' => Ix (.exit id) W' ∧ ∀ b, keep b → W'.heap[b]? = W.heap[b]?
  | .goto t, _, W' => Ix (.goto t) W' ∧ ∀ b, keep b → W'.heap[b]? = W.heap[b]?
  | .panic _, _, _ => False
  | .outgrown, _, _ => False
theorem zbs (w : World) (l : Nat) (o : Obj) : Ch [l] w (w.putObj l o) :=
  ⟨rfl, rfl, rfl, by simp, fun k _ hn => World.putObj_heap_other (by simpa using hn)⟩
theorem range_law {α : Type} {P : Program} {n : Nat} {g : Operand} {ps : Array Tmp} {assign body : Code} {Q : Exit → Act → World → Prop} {a : Act} {w : World}
    {gf : Nat} {lb : Array Value} (hg : a.eval g = .func (.func gf) #[] lb) (eg : ∀ args w, (callFunc gf args).run P w = .ok (.enter gf args) w)
    {encs : α → Array Value} {xs : List α} {own kept : List Nat} (hseq : Yields P gf lb encs xs own kept w) (hps : ∀ x, (encs x).size = ps.size)
    (hown : ∀ b ∈ own, b < w.heap.size) (hkept : ∀ b ∈ kept, b < w.heap.size)
    (I : List α → World → Prop) (Ix : Code → World → Prop)
    (hI : ∀ pre A B, I pre A → Ch ((w.heap.size + 1) :: own) A B → I pre B) (hIx : ∀ c A B, Ix c A → Ch ((w.heap.size + 1) :: own) A B → Ix c B) (h0 : I [] w) (a₁ : α → Act)
    (hassign : ∀ (x : α) (W : World) (K : Act → World → Prop), K (a₁ x) W →
      assign.wpIn (Wd.inRound (w.heap.size + 1)) n P (Exit.then K (fun _ _ _ => False)) { tmps := (ps.zip (encs x)).foldl (fun t (p, v) => t.setIfInBounds p v) a.tmps, defers := [] } W)
    (hbody : ∀ (pre : List α) (x : α) (post : List α) (W : World), xs = pre ++ x :: post → I pre W → w.heap.size + 2 ≤ W.heap.size →
      body.wpIn (Wd.inRound (w.heap.size + 1)) n P (bodyQ (I (pre ++ [x])) Ix (fun b => b = w.heap.size ∨ b = w.heap.size + 1 ∨ b ∈ kept) W) (a₁ x) W)
    (hdone : ∀ (W : World), I xs W → W.heap[w.heap.size]? = some (.deferred (some [])) → Q .normal { a with defers := { target := .collected w.heap.size, args := #[] } :: a.defers } W)
    (hstop : ∀ (c : Code) (W : World), Ix c W → W.heap[w.heap.size]? = some (.deferred (some [])) → c.wpIn Wd (n + 2) P Q { a with defers := { target := .collected w.heap.size, args := #[] } :: a.defers } W) :
    (Code.rangeFunc g ps assign body).wpIn Wd (n + 2) P Q a w := by
  refine wpIn_rangeFunc ?_
  intro fn hfn
  rw [show Wd.round = none from rfl]
  obtain ⟨rec, hrec⟩ : ∃ rec : LoopState → Option Code → Loop, rec = fun st pe => { state := st, pending := pe, fn, tmps := a.tmps, params := ps, assign, body, defers := w.heap.size } := ⟨_, rfl⟩
  obtain ⟨W1, hW1⟩ : ∃ W1, (w.alloc (.deferred (some []))).alloc (.loop (rec .ready none)) = W1 := ⟨_, rfl⟩
  have hL1 : W1.heap[w.heap.size + 1]? = some (.loop (rec .ready none)) := by
    rw [← hW1, zab, if_pos (by simp)]
  have hK1 : W1.heap[w.heap.size]? = some (.deferred (some [])) := by
    rw [← hW1, zab, if_neg (by simp), zab, if_pos rfl]
  have hC1 : Ch [] w W1 := by rw [← hW1]; exact ((Ch.refl [] w).alloc _).alloc _
  have hsz1 : W1.heap.size = w.heap.size + 2 := by rw [← hW1]; simp
  refine ⟨w.heap.size + 1, [{ target := .collected w.heap.size, args := #[] }], W1, { target := .fn (.func gf) lb, args := #[.func (.yield (w.heap.size + 1)) #[] #[]] }, W1, gf,
    #[.func (.yield (w.heap.size + 1)) #[] #[]] ++ lb, W1, ?_, ?_, fun _ _ => trivial, ?_, fun _ => by omega, ?_⟩
  · rw [← hW1, hrec]; exact run_enterLoop_outer _ _ _ _ _
  · simp only [resolve, hg]
    simp [go_sem]
  · simp [invoke, go_sem, eg]
  · have hne : w.heap.size ∉ (w.heap.size + 1) :: own := by
      simp only [List.mem_cons, not_or]; exact ⟨by omega, fun hb => by have := hown _ hb; omega⟩
    have hle : w.heap.size + 1 ∉ own := fun hb => by have := hown _ hb; omega
    have hne' : w.heap.size ∉ own := fun hb => by have := hown _ hb; omega
    refine (hseq n (w.heap.size + 1)
      (fun pre W => I pre W ∧ W.heap[w.heap.size + 1]? = some (.loop (rec .ready none)) ∧ W.heap[w.heap.size]? = some (.deferred (some [])))
      (fun W => ∃ c, Ix c W ∧ W.heap[w.heap.size + 1]? = some (.loop (rec .done (some c))) ∧ W.heap[w.heap.size]? = some (.deferred (some [])))
      W1 hC1 (fun b hb => hC1.block b (hkept b hb) (by simp)) ?_ ?_ ?_ ⟨hI _ _ _ h0 hC1.of_nil, hL1, hK1⟩).mono ?_
    · rintro pre A B ⟨hi, hl, hk⟩ hc
      exact ⟨hI _ _ _ hi (hc.mono fun s hs => .tail _ hs), (hc.block _ (Array.getElem?_eq_some_iff.1 hl).1 hle).trans hl, (hc.block _ (Array.getElem?_eq_some_iff.1 hk).1 hne').trans hk⟩
    · rintro A B ⟨c, hi, hl, hk⟩ hc
      exact ⟨c, hIx _ _ _ hi (hc.mono fun s hs => .tail _ hs), (hc.block _ (Array.getElem?_eq_some_iff.1 hl).1 hle).trans hl, (hc.block _ (Array.getElem?_eq_some_iff.1 hk).1 hne').trans hk⟩
    · rintro pre x post W hxs ⟨hi, hl, hk⟩
      have hlt : w.heap.size + 1 < W.heap.size := (Array.getElem?_eq_some_iff.1 hl).1
      have hy := run_yield (P := P) (args := encs x) hl (by rw [hrec]; exact hps x)
      rw [hrec] at hy
      refine ⟨fn, _, assign, body, hy, roundIn_of_wpIn trivial (hassign x W _ ⟨_, run_beginRound hl (by rw [hrec]), ?_⟩)⟩
      have hl2 : (W.putObj (w.heap.size + 1) (.loop { rec .ready none with state := .busy })).heap[w.heap.size + 1]? = some (.loop { rec .ready none with state := .busy }) := World.putObj_heap_same hlt
      have hk2 : (W.putObj (w.heap.size + 1) (.loop { rec .ready none with state := .busy })).heap[w.heap.size]? = some (.deferred (some [])) := (World.putObj_heap_other (by omega)).trans hk
      refine wpIn_mono (hbody pre x post _ hxs (hI _ _ _ hi ((zbs _ _ _).mono fun s hs => by rw [List.mem_singleton.1 hs]; exact .head _)) (by simp; omega)) ?_
      have fin : ∀ (jump : Option Code) (W3 : World), (∀ b, (b = w.heap.size ∨ b = w.heap.size + 1 ∨ b ∈ kept) → W3.heap[b]? = (W.putObj (w.heap.size + 1) (.loop { rec .ready none with state := .busy })).heap[b]?) →
          (Instr.endRound (w.heap.size + 1) jump).run P W3 = .ok (.bool jump.isNone) (W3.putObj (w.heap.size + 1) (.loop (rec (if jump.isNone then .ready else .done) jump))) ∧
          (W3.putObj (w.heap.size + 1) (.loop (rec (if jump.isNone then .ready else .done) jump))).heap[w.heap.size + 1]? = some (.loop (rec (if jump.isNone then .ready else .done) jump)) ∧
          (W3.putObj (w.heap.size + 1) (.loop (rec (if jump.isNone then .ready else .done) jump))).heap[w.heap.size]? = some (.deferred (some [])) ∧
          (∀ b ∈ kept, (W3.putObj (w.heap.size + 1) (.loop (rec (if jump.isNone then .ready else .done) jump))).heap[b]? = W.heap[b]?) := fun jump W3 hk3 => by
        have hl3 := (hk3 _ (.inr (.inl rfl))).trans hl2
        have := run_endRound (P := P) jump hl3
        rw [hrec] at this ⊢
        refine ⟨this, World.putObj_heap_same (Array.getElem?_eq_some_iff.1 hl3).1, (World.putObj_heap_other (by omega)).trans ((hk3 _ (.inl rfl)).trans hk2), fun b hb => ?_⟩
        have hbl := hkept b hb
        exact (World.putObj_heap_other (by omega)).trans ((hk3 b (.inr (.inr hb))).trans (World.putObj_heap_other (by omega)))
      have one : ∀ s ∈ [w.heap.size + 1], s ∈ (w.heap.size + 1) :: own := fun s hs => by rw [List.mem_singleton.1 hs]; exact .head _
      rintro e a3 W3 hp
      cases e with
      | normal =>
        obtain ⟨hi3, hz3, hk3⟩ := hp
        obtain ⟨hr, hl4, hk4, hke⟩ := fin none W3 hk3
        exact ⟨_, _, hr, .inl ⟨rfl, ⟨hI _ _ _ hi3 ((zbs _ _ _).mono one), hl4, hk4⟩, by simp at hz3 ⊢; exact hz3, hke⟩⟩
      | ret =>
        obtain ⟨hi3, hk3⟩ := hp
        obtain ⟨hr, hl4, hk4, hke⟩ := fin (some .ret) W3 hk3
        exact ⟨_, _, hr, .inr ⟨rfl, .ret, hIx _ _ _ hi3 ((zbs _ _ _).mono one), hl4, hk4⟩⟩
      | exit id =>
        obtain ⟨hi3, hk3⟩ := hp
        obtain ⟨hr, hl4, hk4, hke⟩ := fin (some (.exit id)) W3 hk3
        exact ⟨_, _, hr, .inr ⟨rfl, .exit id, hIx _ _ _ hi3 ((zbs _ _ _).mono one), hl4, hk4⟩⟩
      | goto t =>
        obtain ⟨hi3, hk3⟩ := hp
        obtain ⟨hr, hl4, hk4, hke⟩ := fin (some (.goto t)) W3 hk3
        exact ⟨_, _, hr, .inr ⟨rfl, .goto t, hIx _ _ _ hi3 ((zbs _ _ _).mono one), hl4, hk4⟩⟩
      | panic ch => exact hp.elim
      | outgrown => exact hp.elim
    · have one : ∀ s ∈ [w.heap.size + 1], s ∈ (w.heap.size + 1) :: own := fun s hs => by rw [List.mem_singleton.1 hs]; exact .head _
      rintro e W2 ⟨⟨v, rfl⟩, ⟨hi, hl, hk⟩ | ⟨c, hi, hl, hk⟩⟩
      · exact ⟨none, _, by have := run_endLoop (P := P) hl (by rw [hrec]; simp); rw [hrec] at this; exact this, hdone _ (hI _ _ _ hi ((zbs _ _ _).mono one)) ((World.putObj_heap_other (by omega)).trans hk)⟩
      · exact ⟨some c, _, by have := run_endLoop (P := P) hl (by rw [hrec]; simp); rw [hrec] at this; exact this, hstop c _ (hIx _ _ _ hi ((zbs _ _ _).mono one)) ((World.putObj_heap_other (by omega)).trans hk)⟩
theorem marks_ret {P : Program} {fn : Func} {R : Ending → World → Prop} {tmps : Array Value} {n D : Nat} {W : World} {v : Value} (hk : W.heap[D]? = some (.deferred (some [])))
    (hr : (results fn tmps).run P (W.putObj D (.deferred none)) = .ok v (W.putObj D (.deferred none))) (hR : R (.returned v) (W.putObj D (.deferred none))) :
    bodyPostM Wd n P fn R .ret { tmps, defers := [{ target := .collected D, args := #[] }] } W :=
  ⟨by simp, .inl ⟨_, _, rfl, run_takeDeferred hk, ⟨_, hr, hR⟩⟩⟩
theorem marks_end {P : Program} {fn : Func} {R : Ending → World → Prop} {tmps : Array Value} {n D : Nat} {W : World} {v : Value} (hk : W.heap[D]? = some (.deferred (some [])))
    (hr : (results fn tmps).run P (W.putObj D (.deferred none)) = .ok v (W.putObj D (.deferred none))) (hR : R (.returned v) (W.putObj D (.deferred none))) :
    bodyPostM Wd n P fn R .normal { tmps, defers := [{ target := .collected D, args := #[] }] } W :=
  ⟨by simp, .inl ⟨_, _, rfl, run_takeDeferred hk, ⟨_, hr, hR⟩⟩⟩
theorem marks_panic {P : Program} {fn : Func} {R : Ending → World → Prop} {tmps : Array Value} {n D : Nat} {W : World} {ch : List PanicEntry} (hk : W.heap[D]? = some (.deferred (some [])))
    (hR : R (.panicked ch) (W.putObj D (.deferred none))) :
    bodyPostM Wd n P fn R (.panic ch) { tmps, defers := [{ target := .collected D, args := #[] }] } W :=
  ⟨by simp, .inl ⟨_, _, rfl, run_takeDeferred hk, hR⟩⟩
theorem zcr (w : World) (r k : Nat) (o : Obj) : (w.putObj r o).heap[k]? = if k = r then (if r < w.heap.size then some o else none) else w.heap[k]? := by
  by_cases h : k = r
  · subst h; rw [if_pos rfl]
    by_cases h2 : k < w.heap.size
    · rw [if_pos h2, World.putObj_heap_same h2]
    · rw [if_neg h2]; apply Array.getElem?_eq_none; simp; omega
  · rw [if_neg h, World.putObj_heap_other h]
end Go.Proofs.Hc
