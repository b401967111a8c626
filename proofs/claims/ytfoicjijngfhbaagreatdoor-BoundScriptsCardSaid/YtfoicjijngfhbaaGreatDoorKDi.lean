/- Regions that draw their order, in the body of a range over a function. -/
import Derived.Test.YtfoicjijngfhbaaGreatDoorKDa
import Derived.Test.YtfoicjijngfhbaaGreatDoorKHm
import Derived.Test.YtfoicjijngfhbaaGreatDoorKHr
import Derived.Below
import Derived.BigQuiet
import Derived.Deep.Draws
import Derived.Deep.QuietTactic
import Derived.Deep.RegionHeld
import Derived.Laws.CopyRow
import Derived.Laws.Tables
import Derived.Lib.Hide
import Derived.LoopIn
import Derived.LoopNIn
import Derived.OwnWalkIn
import Derived.RangeFuncCalls
import Derived.RangeFuncRecord
import Derived.RangeFuncSeq
import Derived.StillTail
import Derived.TacticsInMore
import Derived.Test.YtfoicjijngfhbaaGreatDoorProg
import Derived.WalkKit
import Derived.Deep.Cut
import Derived.Laws.Bits64
import Derived.Laws.Bits64b
import Derived.Lib.BitFns
import Derived.Lib.Slices
import Derived.Lib.Small
import Derived.Lib.Strings
import Derived.Lib.Walk
import Derived.Recover
import Derived.Sort.Defs
import Derived.Sort.LotD1
import Derived.Sort.LotD5
import Derived.Sort.LotD6
import Derived.WalkLawsBesides
set_option linter.unusedSimpArgs false
set_option linter.unusedVariables false
namespace Go.Proofs.Hc
open Go.RowKit
set_option linter.unusedSimpArgs false
def noDefer (l : List Oper) : Bool := l.all fun o => match o.op with
  | .defer _ => false
  | _ => true
theorem noDefer_at {l : List Oper} (h : noDefer l = true) {i : Nat} {o : Oper} (hi : l.toArray[i]? = some o) : ∀ c, o.op ≠ .defer c := by
  intro c hc
  have hm : o ∈ l := List.mem_of_getElem? (by simpa using hi)
  have := List.all_eq_true.1 h o hm
  rw [hc] at this
  cases this
theorem wpIn_of_wp {P : Program} {r n : Nat} {o : Oper} {a : Act} {w : World} {K : Act → World → Prop} {Q : Exit → Act → World → Prop} (hd : ∀ c, o.op ≠ .defer c) (h : o.wp P a w K Q) : o.wpIn (Wd.inRound r) n P a w K Q := by
  unfold Oper.wpIn
  unfold Oper.wp at h
  refine ⟨fun _ _ => trivial, ?_⟩
  rw [Oper.semAt_eq _ _ _ hd]
  generalize (execOp a.eval o).run P w = x at *
  cases x with
  | ok y w' =>
    cases y with
    | value v => exact h
    | skip => exact h
    | defer d => exact h
    | enter f args => exact ⟨fun e => (by cases e), CallsIn.inRound r (callsIn_wide.2 h)⟩
    | row q args =>
      refine ⟨fun e => (by cases e), fun c cs _ => ?_⟩
      obtain ⟨v, w2, hv, hs⟩ := h c cs
      exact ⟨v, w2, hv, stepsIn_wide.2 hs⟩
    | _ => exact h.elim
  | halt y w' =>
    cases y <;> exact h
theorem anyIn {P : Program} {r n : Nat} {l : List Oper} {md : Region.Mode} {Q : Exit → Act → World → Prop} (hd : noDefer l = true) (hno : ¬ LetsOut Q) : ∀ (f : Nat) (listed : Array Bool) (a : Act) (w : World),
    wpAny P md l.toArray Q f listed a w → wpAnyIn (Wd.inRound r) n P md l.toArray Q f listed a w
  | 0, _, _, _, h => h
  | f + 1, listed, a, w, h => by
    refine ⟨h.1, fun i hi => ?_⟩
    have := h.2 i hi
    unfold wpOp at this
    unfold wpOpIn
    cases ho : l.toArray[i]? with
    | none => rw [ho] at this; exact anyIn hd hno f _ _ _ this
    | some o =>
      rw [ho] at this
      simp only at this ⊢
      split
      · rename_i hw
        rw [if_pos hw] at this
        rcases this with h1 | h1
        · exact Oper.wpIn_mono (fun a' w' h' => anyIn hd hno f _ _ _ h') (wpIn_of_wp (noDefer_at hd ho) h1)
        · exact (hno h1.2).elim
      · rename_i hw
        rw [if_neg hw] at this
        exact ⟨fun _ _ => trivial, anyIn hd hno f _ _ _ this⟩
/-- A region whose loads may be taken first (S: what they read), whatever comes behind them. -/
theorem rr_held {P : Program} {id r k : Nat} {Q : Exit → Act → World → Prop} {a : Act} {w : World} {l : List Oper} (S : World → Prop) (hm : P.follows .mixedOrders = true) (hd : noDefer l = true) (hno : ¬ LetsOut Q) (hS : S w.drew)
    (h : S w.drew → wpAnyH P .any l.toArray Q S l.toArray.size (Array.replicate l.toArray.size false) a w.drew) : (Code.region id l.toArray true).wpIn (Wd.inRound r) k P Q a w :=
  wpIn_region_any hm (anyIn hd hno _ _ _ _ (wpAny_of_held _ _ _ _ (h hS)))
end Go.Proofs.Hc
/- xorshift.Next at words. -/
namespace Go.Proofs.Hc
open Go.RowKit
set_option linter.unusedVariables false
set_option linter.unusedSimpArgs false
attribute [local go_sem] wrap_u64 wrap_u8 bits_xor64 bits_and64 bits_or64 bits_not64 bits_xor8 bits_and8 bits_or8 signed64 signed8 ofInt_N BitVec.ofInt_add BitVec.ofInt_mul ofInt_sub' ofInt8_N64 ofInt64_N8 wide8 eqN neN shr_pow shr1 shr7 shr56
attribute [local go_sem high] bits_com64 shl_wrap
attribute [local go_sem] nn2 nm2 nn3 nm3 nn4 nm4 nn5 nm5 nn6 nm6 nn7 nm7 nn8 nm8
attribute [local go_sem] Oper.semAt_some make_func1
attribute [local go_sem] cell_heap ice_heap cellAt_cells iceAt_cells setAt_cells size_setCell rowAt_cells canLay_cells laidAt_cells size_onObj rowRes_some layRes_true
attribute [local go_sem ↓] heap_alloc heap_drew heap_drewN heap_setCell heap_putObj heap_onObj
def xorB (x : BitVec 64) : BitVec 64 :=
  let a := x ^^^ (x <<< 13)
  let b := a ^^^ (a >>> 7)
  b ^^^ (b <<< 17)
set_option maxHeartbeats 4000000 in
set_option maxRecDepth 100000 in
theorem xorshift_any (g : Nat) (x : BitVec 64) (w : World) (hg : w.heap[g]? = some (.cells #[U x] 110 (0, 0))) :
    Calls Tryz.prog 91 #[.pointer (some ⟨g, 0, none⟩)] w fun e w' => e = .returned (U (xorB x)) ∧ w'.heap[g]? = some (.cells #[U (xorB x)] 110 (0, 0)) ∧ Ch [g] w w' := by
  have e1 : x <<< 13 = x * 8192#64 := BitVec.shiftLeft_eq_mul_twoPow x 13
  have e2 : ∀ b : BitVec 64, b <<< 17 = b * 131072#64 := fun b => BitVec.shiftLeft_eq_mul_twoPow b 17
  have hx : xorB x = ((x ^^^ x * 8192#64) ^^^ ((x ^^^ x * 8192#64) >>> 7)) ^^^ (((x ^^^ x * 8192#64) ^^^ ((x ^^^ x * 8192#64) >>> 7)) * 131072#64) := by unfold xorB; dsimp only; rw [e1, e2]
  obtain ⟨a, ha⟩ : ∃ a, x ^^^ x * 8192#64 = a := ⟨_, rfl⟩
  rw [ha] at hx
  obtain ⟨b, hb⟩ : ∃ b, a ^^^ (a >>> 7) = b := ⟨_, rfl⟩
  rw [hb] at hx
  obtain ⟨c, hc⟩ : ∃ c, b ^^^ b * 131072#64 = c := ⟨_, rfl⟩
  rw [hc] at hx
  rw [hx]
  clear hx e1 e2
  have st : ∀ (W : World) (u v : BitVec 64), W.heap[g]? = some (.cells #[U u] 110 (0, 0)) → (W.setCell ⟨g, 0, none⟩ (U v)).drew.heap[g]? = some (.cells #[U v] 110 (0, 0)) := by
    intro W u v h
    rw [heap_drew, heap_setCell, if_pos rfl, h]
    rfl
  have s1 := st w x a hg
  have c1 : Ch [g] w (w.setCell ⟨g, 0, none⟩ (U a)).drew := ((Ch.refl _ _).setCell (.inl (by simp)) _).drew
  obtain ⟨w1, hw1⟩ : ∃ W, (w.setCell ⟨g, 0, none⟩ (U a)).drew = W := ⟨_, rfl⟩
  rw [hw1] at s1 c1
  have s2 := st w1 a b s1
  have c2 : Ch [g] w (w1.setCell ⟨g, 0, none⟩ (U b)).drew := (c1.setCell (.inl (by simp)) _).drew
  obtain ⟨w2, hw2⟩ : ∃ W, (w1.setCell ⟨g, 0, none⟩ (U b)).drew = W := ⟨_, rfl⟩
  rw [hw2] at s2 c2
  have s3 := st w2 b c s2
  have c3 : Ch [g] w (w2.setCell ⟨g, 0, none⟩ (U c)).drew := (c2.setCell (.inl (by simp)) _).drew
  obtain ⟨w3, hw3⟩ : ∃ W, (w2.setCell ⟨g, 0, none⟩ (U c)).drew = W := ⟨_, rfl⟩
  rw [hw3] at s3 c3
  have HC := Lib.hid c3
  clear st c1 c2 c3
  go_enter Tryz.func91, Tryz.ntmps91
  go_wp2
  go_region
  go_wp2
  go_region
  go_wp2
  go_region
  go_wp2
  go_ret
  exact ⟨rfl, s3, HC.out⟩
end Go.Proofs.Hc
