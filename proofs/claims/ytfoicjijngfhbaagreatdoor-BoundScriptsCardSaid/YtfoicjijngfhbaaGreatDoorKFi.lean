/- Law 29: own (printed by gen_own29.py). -/
import Derived.Test.YtfoicjijngfhbaaGreatDoorKBc
import Derived.Test.YtfoicjijngfhbaaGreatDoorKBd
import Derived.Test.YtfoicjijngfhbaaGreatDoorKBf
import Derived.Test.YtfoicjijngfhbaaGreatDoorKBg
import Derived.Test.YtfoicjijngfhbaaGreatDoorKBk
import Derived.Test.YtfoicjijngfhbaaGreatDoorKBo
import Derived.Test.YtfoicjijngfhbaaGreatDoorKBu
import Derived.Test.YtfoicjijngfhbaaGreatDoorKDa
import Derived.Test.YtfoicjijngfhbaaGreatDoorKDf
import Derived.Test.YtfoicjijngfhbaaGreatDoorKEa
import Derived.Test.YtfoicjijngfhbaaGreatDoorKEf
import Derived.Test.YtfoicjijngfhbaaGreatDoorKEk
import Derived.Test.YtfoicjijngfhbaaGreatDoorKFe
import Derived.Test.YtfoicjijngfhbaaGreatDoorKFf
import Derived.Test.YtfoicjijngfhbaaGreatDoorKFh
import Derived.Test.YtfoicjijngfhbaaGreatDoorKHm
import Derived.Test.YtfoicjijngfhbaaGreatDoorKHr
import Derived.Below
import Derived.BigQuiet
import Derived.Deep.Cut
import Derived.Deep.CutRange
import Derived.Deep.Draws
import Derived.Deep.OwnRows
import Derived.Deep.QuietTactic
import Derived.Deep.RegionHeld
import Derived.Laws.AppendOwn
import Derived.Laws.Bits64
import Derived.Laws.Bits64b
import Derived.Laws.CopyOwn
import Derived.Laws.CopyRow
import Derived.Laws.EntriesVeiled
import Derived.Laws.IdiomCopy
import Derived.Laws.Tables
import Derived.Lib.AppendZerosOnto
import Derived.Lib.BitFns
import Derived.Lib.Hide
import Derived.Lib.Slices
import Derived.Lib.Small
import Derived.Lib.Strings
import Derived.Lib.Tables
import Derived.Lib.Walk
import Derived.LoopIn
import Derived.LoopNIn
import Derived.Maps.RangeWalk
import Derived.Maps.Views
import Derived.OwnWalkIn
import Derived.RangeFuncCalls
import Derived.RangeFuncRecord
import Derived.RangeFuncSeq
import Derived.Recover
import Derived.Sort.AssemblyPlain
import Derived.Sort.Defs
import Derived.Sort.LotC
import Derived.Sort.LotD1
import Derived.Sort.LotD5
import Derived.Sort.LotD6
import Derived.Sort.Walk13a
import Derived.StillTail
import Derived.TacticsInMore
import Derived.Test.YtfoicjijngfhbaaGreatDoorProg
import Derived.WalkKit
import Derived.WalkLawsBesides
set_option linter.unusedSimpArgs false
set_option linter.unusedVariables false
namespace Go.Proofs.Hc
open Go.RowKit
set_option linter.unusedVariables false
set_option linter.unusedSimpArgs false
attribute [local go_sem] wrap_u64 wrap_u8 bits_xor64 bits_and64 bits_or64 bits_not64 bits_xor8 bits_and8 bits_or8 signed64 signed8 ofInt_N BitVec.ofInt_add BitVec.ofInt_mul ofInt_sub' ofInt8_N64 ofInt64_N8 wide8 eqN neN shr_pow shr1 shr7 shr56
attribute [local go_sem high] bits_com64 shl_wrap
attribute [local go_sem] nn2 nm2 nn3 nm3 nn4 nm4 nn5 nm5 nn6 nm6 nn7 nm7 nn8 nm8
attribute [local go_sem] Oper.semAt_some make_func1 make_funcB
attribute [local go_sem] cell_heap ice_heap cellAt_cells iceAt_cells setAt_cells size_setCell rowAt_cells canLay_cells laidAt_cells size_onObj rowRes_some layRes_true
attribute [local go_sem ↓] heap_alloc heap_drew heap_drewN heap_setCell heap_putObj heap_onObj
theorem srowSc (a : Addr) (v : Value) : storeVar 26 a v = storeRow 26 a v := rfl
theorem zeroScV (w : World) : (zeroValue 26).run Tryz.prog w = .ok (.agg (scC zeroSc)) w := by kernel_rfl
theorem storeSc (g o : Nat) (vs : Array Value) (w : World) : (storeRow 26 ⟨g, o, none⟩ (.agg vs)).run Tryz.prog w = layRes Tryz.prog 26 g o vs w (((w.heap[g]?).map (canLay o 5 vs)).getD false) :=
  run_lay (by kernel_rfl) g o vs w
theorem browSc (ps : Array (Nat × Value)) : Instr.build 26 ps = buildRow 26 ps := rfl
theorem buildSc4 (g sl : Int) (sd : BitVec 64) (a : Option Addr) (n c : Nat) (w : World) : (buildRow 26 #[(0, I g), (1, I sl), (2, U sd), (4, .slice a n c)]).run Tryz.prog w = .ok (.agg #[I g, I sl, U sd, .slice none 0 0, .slice a n c]) w := by kernel_rfl
theorem oneSc (g sl : Int) (sd : BitVec 64) (a : Option Addr) (n c : Nat) (a2 : Option Addr) (n2 c2 : Nat) : allOne #[I g, I sl, U sd, .slice a n c, .slice a2 n2 c2] = true := by simp [allOne, Value.oneCell']
attribute [local go_sem] loadS box_sc scC_size scC_one scC_all storeSc buildSc4 oneSc
attribute [local go_sem ↓] lrowS srowSc zeroScV browSc
/-- A list of calls in a block that holds calls. -/
def RowNew (w : World) (s : ListT) : Prop := s.l = [] ∨ ∃ (b : Nat) (cur : Array Value), s.a = some ⟨b, 0, none⟩ ∧ w.heap[b]? = some (.cells cur 44 (0, 0)) ∧ RowIn w b 0 s.l
theorem RowNew.keep {w w' : World} {S : List Nat} {s : ListT} (h : RowNew w s) (c : Ch S w w') (hS : ∀ t ∈ S, ∀ cur : Array Value, w.heap[t]? ≠ some (.cells cur 44 (0, 0))) : RowNew w' s := by
  rcases h with h | ⟨b, cur, h1, h2, h3⟩
  · exact .inl h
  · have hb := c.block b (Array.getElem?_eq_some_iff.1 h2).1 (fun hs => hS b hs cur h2)
    exact .inr ⟨b, cur, h1, hb.trans h2, fun j u hj => (World.cell?_of_block (w := w) hb).trans (h3 j u hj)⟩
theorem RowNew.at_ {w : World} {s : ListT} (h : RowNew w s) : RowAt w s.a s.l := by
  rcases h with h | ⟨b, cur, h1, h2, h3⟩
  · exact .inl h
  · exact .inr ⟨b, 0, h1, h3⟩
theorem own_new {w : World} {base n : Nat} {v : Value} {l : List CallT} (hl : l.length = n) (h : w.ownsRow base 44 4 v n (crow l)) : ∃ a c, v = .slice a n c ∧ RowNew w ⟨a, c, l⟩ := by
  obtain ⟨_, ⟨rfl, h0⟩ | ⟨q, cap, cur, rfl, hbq, hq, hnc, hcm, hcs, htake⟩⟩ := h
  · subst h0
    exact ⟨none, 0, rfl, .inl (List.eq_nil_of_length_eq_zero (by omega))⟩
  · refine ⟨some ⟨q, 0, none⟩, cap, rfl, .inr ⟨q, cur, rfl, hq, fun j u hj => ?_⟩⟩
    have hj1 := (List.getElem?_eq_some_iff.1 hj).1
    rw [crow_len, hl] at hj1
    dsimp only at hj
    have h2 : (cur.toList.take (n * 4))[j]? = some u := by rw [htake]; exact hj
    rw [List.getElem?_take_of_lt (by omega)] at h2
    unfold World.cell?
    rw [hq]
    simpa using h2
/-- The block of a row of words holds words. -/
def KTy (w : World) (a : Option Addr) : Prop := ∀ q o, a = some ⟨q, o, none⟩ → ∃ cur : Array Value, w.heap[q]? = some (.cells cur 22 (0, 0))
theorem KTy.ch {w w' : World} {a : Option Addr} (h : KTy w a) (c : Ch [] w w') : KTy w' a := fun q o hq => by
  obtain ⟨cur, h1⟩ := h q o hq
  exact ⟨cur, bkeep c h1⟩
theorem own_kty {w : World} {base n c : Nat} {a : Option Addr} {xs : List Value} (h : w.ownsRow base 22 1 (.slice a n c) n xs) : KTy w a := by
  obtain ⟨_, ⟨hv, h0⟩ | ⟨q, cap, cur, hv, hbq, hq, _⟩⟩ := h
  · intro q o hq
    simp at hv
    rw [hv.1] at hq
    cases hq
  · intro q' o hq'
    simp at hv
    rw [hv.1] at hq'
    simp only [Option.some.injEq, Addr.mk.injEq] at hq'
    obtain ⟨rfl, -, -⟩ := hq'
    exact ⟨cur, hq⟩
theorem KW.keepT {w w' : World} {S : List Nat} {a : Option Addr} {ks : List (BitVec 64)} (h : KW w a ks) (hy : KTy w a) (c : Ch S w w') (hS : ∀ t ∈ S, ∀ cur : Array Value, w.heap[t]? ≠ some (.cells cur 22 (0, 0))) : KW w' a ks ∧ KTy w' a := by
  have hb : ∀ q o, a = some ⟨q, o, none⟩ → w'.heap[q]? = w.heap[q]? := fun q o hq => by
    obtain ⟨cur, h1⟩ := hy q o hq
    exact c.block q (Array.getElem?_eq_some_iff.1 h1).1 (fun hs => hS q hs cur h1)
  refine ⟨?_, fun q o hq => ?_⟩
  · rcases h with h | ⟨q, o, h1, h2⟩
    · exact .inl h
    · exact .inr ⟨q, o, h1, fun j x hj => (World.cell?_of_block (w := w) (hb q o h1)).trans (h2 j x hj)⟩
  · obtain ⟨cur, h1⟩ := hy q o hq
    exact ⟨cur, (hb q o hq).trans h1⟩
theorem own_type {w : World} {base n : Nat} {v : Value} {xs : List Value} {e : TypeId} {size : Nat} (h : w.ownsRow base e size v n xs) : ∀ b ∈ (match v.ownBlock with | some b => [b] | none => []), ∃ cur : Array Value, w.heap[b]? = some (.cells cur e (0, 0)) := by
  intro b hb
  obtain ⟨_, ⟨rfl, h0⟩ | ⟨g, cap, cur, hv, hbg, hq, _⟩⟩ := h
  · cases hb
  · rw [hv] at hb
    simp [Value.ownBlock] at hb
    subst hb
    exact ⟨cur, hq⟩
theorem cells_type {w : World} {b : Nat} {c1 : Array Value} {t1 t2 : TypeId} (h : w.heap[b]? = some (.cells c1 t1 (0, 0))) (ht : t1 ≠ t2) : ∀ cur : Array Value, w.heap[b]? ≠ some (.cells cur t2 (0, 0)) := by
  intro cur e
  rw [h] at e
  injection e with e1
  injection e1 with e2 e3
  exact ht e3
theorem infoL : (Tryz.prog.info? 45).map (fun i => (i.zero, i.size, i.bytes)) = some (some (.slice none 0 0), 1, 24) := by kernel_rfl
/-- append of one list, from its block. -/
theorem append_list (W : World) (base : Nat) (v : Value) (n : Nat) (xs : List Value) (hown : W.ownsRow base 45 1 v n xs) (a : Option Addr) (m c : Nat) (hx : n ≤ 100000) (hbase : base ≤ W.heap.size) :
    ∃ v' w', (Builtin.append_ #[23, 23] 23 #[v, .slice (some ⟨W.heap.size, 0, none⟩) 1 1]).run Tryz.prog (W.alloc (.cells #[.slice a m c] 45)) = .ok v' w' ∧ w'.ownsRow base 45 1 v' (n + 1) (xs ++ [.slice a m c]) ∧ Ch (match v.ownBlock with | some b => [b] | none => []) W w' := by
  obtain ⟨i0, hi, hz0, hz1, hz2⟩ := info_parts infoL
  have hc : (W.alloc (.cells #[.slice a m c] 45)).cell? ⟨W.heap.size, 0, none⟩ = some (.slice a m c) := by
    unfold World.cell?
    rw [show (W.alloc (.cells #[.slice a m c] 45)).heap[(⟨W.heap.size, 0, none⟩ : Addr).block]? = some (.cells #[.slice a m c] 45 (0, 0)) from heap_alloc_new W _]
    rfl
  obtain ⟨v', w', hrun, ho, hg, _⟩ := run_append_own (P := Tryz.prog) (W.alloc (.cells #[.slice a m c] 45)) base 23 23 45 i0 _ 1 24 Tryz.underlying23 hi hz0 hz1 hz2 rfl (by decide) v n _ (own_keep hown ((Ch.refl [] W).alloc _) (by simp)) ⟨W.heap.size, 0, none⟩ 1 1 [.slice a m c] rfl
    (fun j u hj => by
      match j with
      | 0 => rw [Addr.add_lit]; simp at hj; rw [← hj]; exact hc
      | j + 1 => simp at hj) (by intro u hu; rw [List.mem_singleton.1 hu]; rfl) (by unfold maxLen; omega) (by omega) (by simp; omega)
  refine ⟨v', w', hrun, ho, ?_⟩
  have h : Ch (match v.ownBlock with | some b => [b] | none => []) (W.alloc (.cells #[.slice a m c] 45)) w' := Ch.of_grown hg (fun k hk => by rw [hk]; simp)
  exact ((Ch.refl _ W).alloc _).trans h
/-- What a script that came in must be, for own. -/
structure InSc (w : World) (s : ScT) (ps : List (BitVec 64)) : Prop where
  lists : (s.la = none ∧ s.ls = []) ∨ ∃ L o, s.la = some (L, o) ∧ ListsAt w L o s.ls
  caps : ∀ x ∈ s.ls, x.l.length ≤ x.c ∧ (x.a = none → x.c = 0)
  many : s.ls.length ≤ 9223372036854775807 ∧ ∀ x ∈ s.ls, x.c ≤ 9223372036854775807
  picks : KW w s.pa ps
  pn : ps.length = s.pn
  pc : s.pn ≤ s.pc ∧ (s.pa = none → s.pc = 0) ∧ s.pc ≤ 9223372036854775807
theorem InSc.ch {w w' : World} {s : ScT} {ps : List (BitVec 64)} (R : InSc w s ps) (c : Ch [] w w') : InSc w' s ps := by
  refine { R with lists := ?_, picks := R.picks.ch c }
  rcases R.lists with h | ⟨L, o, h1, h2⟩
  · exact .inl h
  · exact .inr ⟨L, o, h1, h2.ch c⟩
/-- What own makes. -/
structure OwnSc (w' : World) (s s' : ScT) (ps : List (BitVec 64)) : Prop where
  g : s'.g = s.g
  sl : s'.sl = s.sl
  sd : s'.sd = s.sd
  ls : s'.ls.map (·.l) = (s.ls.take 10).map (·.l.take 66)
  lists : (s'.la = none ∧ s'.ls = []) ∨ ∃ L o, s'.la = some (L, o) ∧ ListsAt w' L o s'.ls
  picks : KW w' s'.pa (ps.take 4100)
  pn : (ps.take 4100).length = s'.pn
  rows : ∀ x ∈ s'.ls, RowNew w' x
  lty : ∀ L o, s'.la = some (L, o) → ∃ cur : Array Value, w'.heap[L]? = some (.cells cur 45 (0, 0))
  kty : KTy w' s'.pa
theorem RowAt.take {w : World} {a : Option Addr} {l : List CallT} (h : RowAt w a l) (k : Nat) : RowAt w a (l.take k) := by
  rcases h with h | ⟨b, o, h1, h2⟩
  · exact .inl (by rw [h]; simp)
  · refine .inr ⟨b, o, h1, fun j u hj => h2 j u ?_⟩
    have e : crow l = crow (l.take k) ++ crow (l.drop k) := by rw [← crow_append, List.take_append_drop]
    rw [e, List.getElem?_append_left (List.getElem?_eq_some_iff.1 hj).1]
    exact hj
/-- What the loop knows. -/
def OwnRel (w : World) (s : ScT) (ps : List (BitVec 64)) (B b0 Tb pm n : Nat) (a19 : Option Addr) (c19 : Nat) (i : Value) (wr : World) : Prop :=
  ∃ (j : Nat) (ls' : List ListT) (a3 : Option Addr) (c3 : Nat), i = I j ∧ j ≤ n ∧ ls'.map (·.l) = ((s.ls.take j).take 10).map (·.l.take 66) ∧ wr.ownsRow b0 45 1 (.slice a3 ls'.length c3) ls'.length (ls'.map ListT.val) ∧ (∀ x ∈ ls', RowNew wr x) ∧ wr.heap[Tb]? = some (.cells #[I s.g, I s.sl, U s.sd, .slice a3 ls'.length c3, .slice a19 pm c19] 26 (0, 0)) ∧ KW wr a19 (ps.take pm) ∧ KTy wr a19 ∧ wr.heap[B]? = some (.cells (scC s) 26 (0, 0)) ∧ wr.heap[B + 1]? = some (.cells (scC zeroSc) 26 (0, 0)) ∧ Ch [] w wr ∧ b0 ≤ wr.heap.size
theorem own_skip {w wr : World} {s : ScT} {ps : List (BitVec 64)} {B b0 Tb pm n j : Nat} {a19 : Option Addr} {c19 : Nat} {ls' : List ListT} {a3 : Option Addr} {c3 : Nat} (hlt : j < n) (h10 : 10 ≤ j) (hls : ls'.map (·.l) = ((s.ls.take j).take 10).map (·.l.take 66)) (hown : wr.ownsRow b0 45 1 (.slice a3 ls'.length c3) ls'.length (ls'.map ListT.val)) (hnew : ∀ x ∈ ls', RowNew wr x) (hT : wr.heap[Tb]? = some (.cells #[I s.g, I s.sl, U s.sd, .slice a3 ls'.length c3, .slice a19 pm c19] 26 (0, 0))) (hK : KW wr a19 (ps.take pm)) (hY : KTy wr a19) (hB : wr.heap[B]? = some (.cells (scC s) 26 (0, 0))) (hD : wr.heap[B + 1]? = some (.cells (scC zeroSc) 26 (0, 0))) (c : Ch [] w wr) (hb0 : b0 ≤ wr.heap.size) : OwnRel w s ps B b0 Tb pm n a19 c19 (I ((j : Int) + 1)) wr :=
  ⟨j + 1, ls', a3, c3, rfl, hlt, by rw [hls, List.take_take, List.take_take, show min 10 j = min 10 (j + 1) by omega], hown, hnew, hT, hK, hY, hB, hD, c, hb0⟩
theorem own_step {w wr wp w4 w5 : World} {s : ScT} {ps : List (BitVec 64)} {B b0 Tb pm n j ln mm : Nat} {a19 : Option Addr} {c19 : Nat} {ls' : List ListT} {sx : ListT} {a3 a4 ac : Option Addr} {c3 c4 cc : Nat} (hlt : j < n) (h10 : j < 10) (hs : s.ls[j]? = some sx) (hB2 : B + 2 ≤ Tb) (hTb : Tb < b0) (hln : ls'.length = ln)
    (hls : ls'.map (·.l) = ((s.ls.take j).take 10).map (·.l.take 66)) (hnew : ∀ x ∈ ls', RowNew wr x) (hT : wr.heap[Tb]? = some (.cells #[I s.g, I s.sl, U s.sd, .slice a3 ln c3, .slice a19 pm c19] 26 (0, 0))) (hK : KW wr a19 (ps.take pm)) (hY : KTy wr a19) (hB : wr.heap[B]? = some (.cells (scC s) 26 (0, 0))) (hD : wr.heap[B + 1]? = some (.cells (scC zeroSc) 26 (0, 0))) (hb0 : b0 ≤ wr.heap.size)
    (hmm : (sx.l.take 66).length = mm) (hnc : RowNew wp ⟨ac, cc, sx.l.take 66⟩) (cp : Ch [] wr wp) (ho4 : w4.ownsRow b0 45 1 (.slice a4 (ln + 1) c4) (ln + 1) (ls'.map ListT.val ++ [.slice ac mm cc])) (hch : Ch (match (Value.slice a3 ln c3).ownBlock with | some b => [b] | none => []) wp w4)
    (hty : ∀ b ∈ (match (Value.slice a3 ln c3).ownBlock with | some b => [b] | none => []), ∃ cur : Array Value, wp.heap[b]? = some (.cells cur 45 (0, 0))) (hblk : ∀ b ∈ (match (Value.slice a3 ln c3).ownBlock with | some b => [b] | none => []), b0 ≤ b)
    (t4 : w4.heap[Tb]? = some (.cells #[I s.g, I s.sl, U s.sd, .slice a3 ln c3, .slice a19 pm c19] 26 (0, 0))) (c5 : Ch [Tb] w4 w5) (t5 : w5.heap[Tb]? = some (.cells #[I s.g, I s.sl, U s.sd, .slice a4 (ln + 1) c4, .slice a19 pm c19] 26 (0, 0))) (s5 : Ch [] w w5) : OwnRel w s ps B b0 Tb pm n a19 c19 (I ((j : Int) + 1)) w5 := by
  have hT4 : ∀ (t2 : TypeId), 26 ≠ t2 → ∀ t ∈ [Tb], ∀ cur : Array Value, w4.heap[t]? ≠ some (.cells cur t2 (0, 0)) := fun t2 h t ht => by rw [List.mem_singleton.1 ht]; exact cells_type t4 h
  have hTp : ∀ (t2 : TypeId), 45 ≠ t2 → ∀ t ∈ (match (Value.slice a3 ln c3).ownBlock with | some b => [b] | none => []), ∀ cur : Array Value, wp.heap[t]? ≠ some (.cells cur t2 (0, 0)) := fun t2 h t ht => by
    obtain ⟨cur, hc⟩ := hty t ht
    exact cells_type hc h
  have hkeep : ∀ x, RowNew wp x → RowNew w5 x := fun x hx => (hx.keep hch (hTp _ (by decide))).keep c5 (hT4 _ (by decide))
  have hkk := ((hK.ch cp).keepT (hY.ch cp) hch (hTp _ (by decide)))
  have hkk5 := hkk.1.keepT hkk.2 c5 (hT4 _ (by decide))
  have hlow : ∀ b, b < Tb → ∀ o, wr.heap[b]? = some o → w5.heap[b]? = some o := fun b hb o ho => by
    have h1 := bkeep cp ho
    have h2 := (hch.block b (Array.getElem?_eq_some_iff.1 h1).1 (fun hm => by have := hblk b hm; omega)).trans h1
    exact (c5.block b (Array.getElem?_eq_some_iff.1 h2).1 (by simp; omega)).trans h2
  refine ⟨j + 1, ls' ++ [⟨ac, cc, sx.l.take 66⟩], a4, c4, rfl, hlt, ?_, ?_, ?_, ?_, hkk5.1, hkk5.2, hlow B (by omega) _ hB, hlow (B + 1) (by omega) _ hD, s5, Nat.le_trans (Nat.le_trans hb0 cp.size) (Nat.le_trans hch.size c5.size)⟩
  · rw [List.map_append, hls, List.take_of_length_le (l := s.ls.take j) (by rw [List.length_take]; omega), List.take_of_length_le (l := s.ls.take (j + 1)) (by rw [List.length_take]; omega), show s.ls.take (j + 1) = s.ls.take j ++ s.ls[j]?.toList from List.take_add_one, hs]
    simp
  · have e : (ls' ++ [(⟨ac, cc, sx.l.take 66⟩ : ListT)]).length = ln + 1 := by simp [hln]
    rw [e]
    have e2 : (ls' ++ [(⟨ac, cc, sx.l.take 66⟩ : ListT)]).map ListT.val = ls'.map ListT.val ++ [.slice ac mm cc] := by rw [List.map_append, ← hmm]; rfl
    rw [e2]
    exact own_keep ho4 c5 (by simpa using hTb)
  · intro x hx
    rcases List.mem_append.1 hx with h | h
    · exact hkeep x ((hnew x h).keep cp (by simp))
    · rw [List.mem_singleton.1 h]; exact hkeep _ hnc
  · have e : (ls' ++ [(⟨ac, cc, sx.l.take 66⟩ : ListT)]).length = ln + 1 := by simp [hln]
    rw [e]
    exact t5
theorem own_end {w wr w' : World} {s : ScT} {ps : List (BitVec 64)} {B b0 pm ln : Nat} {a19 a3 : Option Addr} {c19 c3 : Nat} {ls' : List ListT} (hls : ls'.map (·.l) = (s.ls.take 10).map (·.l.take 66)) (hln : ls'.length = ln) (hown : wr.ownsRow b0 45 1 (.slice a3 ln c3) ln (ls'.map ListT.val)) (hnew : ∀ x ∈ ls', RowNew wr x) (hK : KW wr a19 (ps.take pm)) (hY : KTy wr a19) (hKL : (ps.take pm).length = pm) (hTK : ps.take pm = ps.take 4100) (hD : wr.heap[B + 1]? = some (.cells (scC zeroSc) 26 (0, 0))) (hB : w.heap.size = B) (hb : B + 1 < b0) (c : Ch [] w wr) (c5 : Ch [B + 1] wr w') :
    ∃ s' : ScT, #[I s.g, I s.sl, U s.sd, .slice a3 ln c3, .slice a19 pm c19] = scC s' ∧ OwnSc w' s s' ps ∧ Ch [] w w' := by
  have hT4 : ∀ (t2 : TypeId), 26 ≠ t2 → ∀ t ∈ [B + 1], ∀ cur : Array Value, wr.heap[t]? ≠ some (.cells cur t2 (0, 0)) := fun t2 h t ht => by rw [List.mem_singleton.1 ht]; exact cells_type hD h
  have hkk := hK.keepT hY c5 (hT4 _ (by decide))
  have hnew2 : ∀ x ∈ ls', RowNew w' x := fun x hx => (hnew x hx).keep c5 (hT4 _ (by decide))
  have hown2 := own_keep hown c5 (by simpa using hb)
  have cw : Ch [] w w' := c.trans2 c5 (fun t ht => .inr (by rw [List.mem_singleton.1 ht]; omega))
  obtain ⟨hxl, ⟨hv, h0⟩ | ⟨q, cap, cur, hv, hbq, hq, hnc, hcm, hcs, htake⟩⟩ := hown2
  · have hl0 : ls' = [] := List.eq_nil_of_length_eq_zero (by omega)
    injection hv with hv1 hv2 hv3
    subst hv1 hv3
    refine ⟨⟨s.g, s.sl, s.sd, none, 0, ls', a19, pm, c19⟩, ?_, ⟨rfl, rfl, rfl, hls, .inl ⟨rfl, hl0⟩, hTK ▸ hkk.1, hTK ▸ hKL, hnew2, fun _ _ h => (by cases h), hkk.2⟩, cw⟩
    unfold scC
    rw [hln]
    rfl
  · injection hv with hv1 hv2 hv3
    subst hv1 hv3
    refine ⟨⟨s.g, s.sl, s.sd, some (q, 0), c3, ls', a19, pm, c19⟩, ?_, ⟨rfl, rfl, rfl, hls, .inr ⟨q, 0, rfl, fun i x hi => ⟨?_, (hnew2 x (List.mem_of_getElem? hi)).at_⟩⟩, hTK ▸ hkk.1, hTK ▸ hKL, hnew2, fun L o h => (by obtain ⟨rfl, rfl⟩ := Prod.mk.inj (Option.some.inj h); exact ⟨cur, hq⟩), hkk.2⟩, cw⟩
    · unfold scC
      rw [hln]
      rfl
    · have hj1 : i < ls'.length := (List.getElem?_eq_some_iff.1 hi).1
      have h2 : (cur.toList.take (ln * 1))[i]? = some x.val := by rw [htake, List.getElem?_map, hi]; rfl
      rw [List.getElem?_take_of_lt (by omega)] at h2
      unfold World.cell?
      rw [hq]
      simpa using h2
theorem own_world (s : ScT) (w : World) : ∃ W, (w.alloc (.cells (scC s) 26)).alloc (.cells (scC zeroSc) 26) = W ∧ Ch [] w W ∧ W.heap[w.heap.size]? = some (.cells (scC s) 26 (0, 0)) ∧ W.heap[w.heap.size + 1]? = some (.cells (scC zeroSc) 26 (0, 0)) ∧ W.heap.size = w.heap.size + 2 :=
  ⟨_, rfl, ((Ch.refl [] w).alloc _).alloc _, by rw [heap_alloc, if_neg (by simp), heap_alloc, if_pos rfl], by rw [heap_alloc, if_pos (by simp)], by simp⟩
set_option maxHeartbeats 1500000 in
set_option maxRecDepth 100000 in
theorem own_any (s : ScT) (ps : List (BitVec 64)) (w : World) (R : InSc w s ps) : Calls Tryz.prog 5 #[.agg (scC s)] w fun e w' => ∃ s' : ScT, e = .returned (.agg (scC s')) ∧ OwnSc w' s s' ps ∧ Ch [] w w' := by
  obtain ⟨W, hW, C, hB, hD, hsz⟩ := own_world s w
  have HR := Lib.hid R
  have hkp := R.picks.ch C
  have hpn := R.pn
  obtain ⟨hpc1, hpc2, hpc3⟩ := R.pc
  clear R
  have HS := Lib.hid (show scC s = #[I s.g, I s.sl, U s.sd, .slice (adr s.la) s.ls.length s.lc, .slice s.pa s.pn s.pc] from rfl)
  obtain ⟨B, hBe⟩ : ∃ B, w.heap.size = B := ⟨_, rfl⟩
  rw [hBe] at hB hD hsz
  have HBE := Lib.hid hBe
  obtain ⟨pm, hpm⟩ : ∃ x, min s.pn 4100 = x := ⟨_, rfl⟩
  have epm : min (s.pn : Int) 4100 = pm := by omega
  have hKT := Lib.hid (show KW W s.pa (ps.take pm) from hkp.take pm)
  have hKL : (ps.take pm).length = pm := by rw [List.length_take]; omega
  have hTK : ps.take pm = ps.take 4100 := by
    rcases (show s.pn ≤ 4100 ∨ 4100 < s.pn by omega) with h | h
    · rw [show pm = s.pn by omega, List.take_of_length_le (by omega), List.take_of_length_le (by omega)]
    · rw [show pm = 4100 by omega]
  have HPN := Lib.hid (And.intro hpn (And.intro hKL hTK))
  have hpm1 : pm ≤ s.pn := by omega
  have hpm2 : pm ≤ 4100 := by omega
  obtain ⟨pa, hpa⟩ : ∃ x, s.pa = x := ⟨_, rfl⟩
  obtain ⟨pn, hpnn⟩ : ∃ x, s.pn = x := ⟨_, rfl⟩
  obtain ⟨pc, hpcc⟩ : ∃ x, s.pc = x := ⟨_, rfl⟩
  rw [hpa] at hKT hpc2 HS
  rw [hpnn] at hpc1 hpm epm hpm1 HS
  rw [hpcc] at hpc1 hpc2 hpc3 HS
  have hc0 : (scC s)[0]? = some (I s.g) := rfl
  have hc1 : (scC s)[1]? = some (I s.sl) := rfl
  have hc2 : (scC s)[2]? = some (U s.sd) := rfl
  have hc3 : (scC s)[3]? = some (.slice (adr s.la) s.ls.length s.lc) := rfl
  have hc4 : (scC s)[4]? = some (.slice pa pn pc) := by rw [HS.out]; rfl
  clear hkp hpn hKL hTK hpm
  go_enter Tryz.func5, Tryz.ntmps5
  go_upto_region 1 with (fail)
  try rw [hW]
  try rw [hBe]
  clear hW hBe
  go_cut [3] from 6 (fun s3 wc => ∃ (Tb : Nat) (a19 : Option Addr) (c19 : Nat), s3 = .pointer (some ⟨Tb, 0, none⟩) ∧ B + 2 ≤ Tb ∧ wc.heap[Tb]? = some (.cells #[I s.g, I s.sl, U s.sd, .slice none 0 0, .slice a19 pm c19] 26 (0, 0)) ∧ KW wc a19 (ps.take pm) ∧ KTy wc a19 ∧ wc.heap[B]? = some (.cells (scC s) 26 (0, 0)) ∧ wc.heap[B + 1]? = some (.cells (scC zeroSc) 26 (0, 0)) ∧ Ch [] w wc)
  case first =>
    have CL := fun (w2 : World) a c (h : KW w2 a (ps.take pm)) => cloneW_any a pm c (ps.take pm) HPN.out.2.1 (by omega) w2 h
    rcases (show pa = none ∨ ∃ x, pa = some x by cases pa with | none => exact .inl rfl | some x => exact .inr ⟨x, rfl⟩) with hp0 | ⟨x, hp0⟩
    · subst hp0
      have hq0 : pc = 0 := hpc2 rfl
      have hq1 : pn = 0 := by omega
      have hq2 : pm = 0 := by omega
      subst hq0 hq1 hq2
      have e0 : min (0 : Int) 4100 = 0 := by omega
      clear hpc2
      have s0 : (fun W' : World => W'.heap[B]? = some (.cells (scC s) 26 (0, 0)) ∧ W'.heap[B + 1]? = some (.cells (scC zeroSc) 26 (0, 0)) ∧ Ch [] w W') W.drew := ⟨hB, hD, C.drew⟩
      refine wp_region_held_drew (S := fun W' : World => W'.heap[B]? = some (.cells (scC s) 26 (0, 0)) ∧ W'.heap[B + 1]? = some (.cells (scC zeroSc) 26 (0, 0)) ∧ Ch [] w W') (by kernel_rfl) s0 ?_
      intro _
      simp only [List.size_toArray, List.length_cons, List.length_nil, Nat.reduceAdd]
      have z0 : B + 2 ≤ W.drew.heap.size := by show B + 2 ≤ W.heap.size; omega
      have kt0 : KW W.drew none (ps.take 0) := hKT.out.ch ((Ch.refl _ _).drew)
      clear C hB hD hsz hKT
      generalize W.drew = w0 at *
      refine wpAnyH_take (i := 0) (oi := ⟨some 6, _, _, _, _, none⟩) (v := ?_) rfl (by kernel_rfl) (by kernel_rfl) (by kernel_rfl) (fun _ _ _ h => h) (Or.inl ⟨by rfl, ?_⟩) s0 ?_
      rotate_left
      · intro wq hSq
        obtain ⟨z1, z2, z3⟩ := hSq
        first | (go_simp; done) | (go_simp; with_reducible rfl)
      try simp only [Act.put, List.setIfInBounds_toArray, List.set_cons_zero, List.set_cons_succ]
      refine wpAnyH_take (i := 1) (oi := ⟨some 7, _, _, _, _, none⟩) (v := ?_) rfl (by kernel_rfl) (by kernel_rfl) (by kernel_rfl) (fun _ _ _ h => h) (Or.inl ⟨by rfl, ?_⟩) s0 ?_
      rotate_left
      · intro wq hSq
        obtain ⟨z1, z2, z3⟩ := hSq
        first | (go_simp; done) | (go_simp; with_reducible rfl)
      try simp only [Act.put, List.setIfInBounds_toArray, List.set_cons_zero, List.set_cons_succ]
      refine wpAnyH_take (i := 2) (oi := ⟨some 8, _, _, _, _, none⟩) (v := ?_) rfl (by kernel_rfl) (by kernel_rfl) (by kernel_rfl) (fun _ _ _ h => h) (Or.inl ⟨by rfl, ?_⟩) s0 ?_
      rotate_left
      · intro wq hSq
        obtain ⟨z1, z2, z3⟩ := hSq
        first | (go_simp; done) | (go_simp; with_reducible rfl)
      try simp only [Act.put, List.setIfInBounds_toArray, List.set_cons_zero, List.set_cons_succ]
      refine wpAnyH_take (i := 3) (oi := ⟨some 9, _, _, _, _, none⟩) (v := ?_) rfl (by kernel_rfl) (by kernel_rfl) (by kernel_rfl) (fun _ _ _ h => h) (Or.inl ⟨by rfl, ?_⟩) s0 ?_
      rotate_left
      · intro wq hSq
        obtain ⟨z1, z2, z3⟩ := hSq
        first | (go_simp; done) | (go_simp; with_reducible rfl)
      try simp only [Act.put, List.setIfInBounds_toArray, List.set_cons_zero, List.set_cons_succ]
      refine wpAnyH_take (i := 4) (oi := ⟨some 10, _, _, _, _, none⟩) (v := ?_) rfl (by kernel_rfl) (by kernel_rfl) (by kernel_rfl) (fun _ _ _ h => h) (Or.inl ⟨by rfl, ?_⟩) s0 ?_
      rotate_left
      · intro wq hSq
        obtain ⟨z1, z2, z3⟩ := hSq
        first | (go_simp; done) | (go_simp; with_reducible rfl)
      try simp only [Act.put, List.setIfInBounds_toArray, List.set_cons_zero, List.set_cons_succ]
      refine wpAnyH_take (i := 5) (oi := ⟨some 11, _, _, _, _, none⟩) (v := ?_) rfl (by kernel_rfl) (by kernel_rfl) (by kernel_rfl) (fun _ _ _ h => h) (Or.inl ⟨by rfl, ?_⟩) s0 ?_
      rotate_left
      · intro wq hSq
        obtain ⟨z1, z2, z3⟩ := hSq
        first | (go_simp; done) | (go_simp; with_reducible rfl)
      try simp only [Act.put, List.setIfInBounds_toArray, List.set_cons_zero, List.set_cons_succ]
      refine wpAnyH_take (i := 6) (oi := ⟨some 12, _, _, _, _, none⟩) (v := ?_) rfl (by kernel_rfl) (by kernel_rfl) (by kernel_rfl) (fun _ _ _ h => h) (Or.inl ⟨by rfl, ?_⟩) s0 ?_
      rotate_left
      · intro wq hSq
        obtain ⟨z1, z2, z3⟩ := hSq
        first | (go_simp; done) | (go_simp; with_reducible rfl)
      try simp only [Act.put, List.setIfInBounds_toArray, List.set_cons_zero, List.set_cons_succ]
      refine wpAnyH_take (i := 7) (oi := ⟨some 13, _, _, _, _, none⟩) (v := ?_) rfl (by kernel_rfl) (by kernel_rfl) (by kernel_rfl) (fun _ _ _ h => h) (Or.inl ⟨by rfl, ?_⟩) s0 ?_
      rotate_left
      · intro wq hSq
        obtain ⟨z1, z2, z3⟩ := hSq
        first | (go_simp; done) | (go_simp; with_reducible rfl)
      try simp only [Act.put, List.setIfInBounds_toArray, List.set_cons_zero, List.set_cons_succ]
      refine wpAnyH_take (i := 8) (oi := ⟨some 14, _, _, _, _, none⟩) (v := ?_) rfl (by kernel_rfl) (by kernel_rfl) (by kernel_rfl) (fun _ _ _ h => h) (Or.inl ⟨by rfl, ?_⟩) s0 ?_
      rotate_left
      · intro wq hSq
        obtain ⟨z1, z2, z3⟩ := hSq
        first | (go_simp; done) | (go_simp; with_reducible rfl)
      try simp only [Act.put, List.setIfInBounds_toArray, List.set_cons_zero, List.set_cons_succ]
      refine wpAnyH_take (i := 9) (oi := ⟨some 15, _, _, _, _, none⟩) (v := ?_) rfl (by kernel_rfl) (by kernel_rfl) (by kernel_rfl) (fun _ _ _ h => h) (Or.inl ⟨by rfl, ?_⟩) s0 ?_
      rotate_left
      · intro wq hSq
        obtain ⟨z1, z2, z3⟩ := hSq
        first | (go_simp; done) | (go_simp; with_reducible rfl)
      try simp only [Act.put, List.setIfInBounds_toArray, List.set_cons_zero, List.set_cons_succ]
      refine wpAnyH_ready (rs := [10, 15]) (by kernel_rfl) (by simp) ?_
      refine AllReadyH.cons (o := ⟨some 16, _, _, _, _, none⟩) rfl (fun K hK => ?_) (AllReadyH.cons (o := ⟨some 3, _, _, _, _, none⟩) rfl (fun K hK => ?_) AllReadyH.nil)
      · go_simp
        refine hK.out _ _ s0 (fun _ => ?_)
        clear hK K
        try simp only [Act.put, List.setIfInBounds_toArray, List.set_cons_zero, List.set_cons_succ]
        refine wpAnyH_ready (rs := [11, 15]) (by kernel_rfl) (by simp) ?_
        refine AllReadyH.cons (o := ⟨some 17, _, _, _, _, none⟩) rfl (fun K hK => ?_) (AllReadyH.cons (o := ⟨some 3, _, _, _, _, none⟩) rfl (fun K hK => ?_) AllReadyH.nil)
        · go_simp
          refine hK.out _ _ s0 (fun _ => ?_)
          clear hK K
          try simp only [Act.put, List.setIfInBounds_toArray, List.set_cons_zero, List.set_cons_succ]
          refine wpAnyH_take (i := 12) (oi := ⟨some 18, _, _, _, _, none⟩) (v := ?_) rfl (by kernel_rfl) (by kernel_rfl) (by kernel_rfl) (fun _ _ _ h => h) (Or.inl ⟨by rfl, ?_⟩) s0 ?_
          rotate_left
          · intro wq hSq
            first | (go_simp; done) | (go_simp; with_reducible rfl)
          try simp only [Act.put, List.setIfInBounds_toArray, List.set_cons_zero, List.set_cons_succ]
          refine wpAnyH_ready (rs := [13, 15]) (by kernel_rfl) (by simp) ?_
          refine AllReadyH.cons (o := ⟨some 19, _, _, _, _, none⟩) rfl (fun K hK => ?_) (AllReadyH.cons (o := ⟨some 3, _, _, _, _, none⟩) rfl (fun K hK => ?_) AllReadyH.nil)
          · go_simp
            refine (CL _ none 0 kt0).mono ?_
            rintro e w1 ⟨v19, rfl, o19, hc⟩
            obtain ⟨a19, c19, hv19, hl19, kw1⟩ := own_kw o19
            subst hv19
            have ky1 := own_kty o19
            have s1 : (fun W' : World => W'.heap[B]? = some (.cells (scC s) 26 (0, 0)) ∧ W'.heap[B + 1]? = some (.cells (scC zeroSc) 26 (0, 0)) ∧ Ch [] w W') w1 := ⟨bkeep hc s0.1, bkeep hc s0.2.1, s0.2.2.trans hc⟩
            have z1 : B + 2 ≤ w1.heap.size := Nat.le_trans z0 hc.size
            refine hK.out _ _ s1 (fun _ => ?_)
            clear hK K o19 hc hl19 s0
            try simp only [Act.put, List.setIfInBounds_toArray, List.set_cons_zero, List.set_cons_succ]
            refine wpAnyH_take (i := 14) (oi := ⟨some 20, _, _, _, _, none⟩) (v := ?_) rfl (by kernel_rfl) (by kernel_rfl) (by kernel_rfl) (fun _ _ _ h => h) (Or.inl ⟨by rfl, ?_⟩) s1 ?_
            rotate_left
            · intro wq hSq
              first | (go_simp; done) | (go_simp; with_reducible rfl)
            try simp only [Act.put, List.setIfInBounds_toArray, List.set_cons_zero, List.set_cons_succ]
            refine wpAnyH_ready (rs := [15]) (by kernel_rfl) (by simp) ?_
            refine AllReadyH.cons (o := ⟨some 3, _, _, _, _, none⟩) rfl (fun K hK => ?_) AllReadyH.nil
            go_simp
            have c2 : Ch [] w1 (w1.alloc (.cells (scC zeroSc) 26)) := (Ch.refl _ _).alloc _
            have s2 : (fun W' : World => W'.heap[B]? = some (.cells (scC s) 26 (0, 0)) ∧ W'.heap[B + 1]? = some (.cells (scC zeroSc) 26 (0, 0)) ∧ Ch [] w W') (w1.alloc (.cells (scC zeroSc) 26)) := ⟨bkeep c2 s1.1, bkeep c2 s1.2.1, s1.2.2.trans c2⟩
            have t2 : (w1.alloc (.cells (scC zeroSc) 26)).heap[w1.heap.size]? = some (.cells (scC zeroSc) 26 (0, 0)) := by rw [heap_alloc, if_pos rfl]
            have z2 : B + 2 ≤ (w1.alloc (.cells (scC zeroSc) 26)).heap.size := Nat.le_trans z1 c2.size
            have kw2 := kw1.ch c2
            have ky2 := ky1.ch c2
            refine hK.out _ _ s2 (fun _ => ?_)
            clear hK K c2 s1
            try simp only [Act.put, List.setIfInBounds_toArray, List.set_cons_zero, List.set_cons_succ]
            obtain ⟨w2, hw2⟩ : ∃ y, w1.alloc (.cells (scC zeroSc) 26) = y := ⟨_, rfl⟩
            rw [hw2] at s2 t2 z2 kw2 ky2 ⊢
            obtain ⟨Tb, hTb⟩ : ∃ y, w1.heap.size = y := ⟨_, rfl⟩
            rw [hTb] at t2 z1 ⊢
            have zT : B + 2 ≤ Tb := z1
            clear hw2
            refine wpAnyH_ready (rs := [16]) (by kernel_rfl) (by simp) ?_
            refine AllReadyH.cons rfl (fun K hK => ?_) AllReadyH.nil
            go_simp
            have hTw : w.heap.size ≤ Tb := by have := HBE.out; omega
            have c3 : Ch [Tb] w2 (World.onObj w2 Tb (laidAt 0 #[I s.g, I s.sl, U s.sd, .slice none 0 0, .slice a19 0 c19])) := (Ch.refl _ _).onObj (.inl (by simp)) _
            have cw3 : Ch [] w (World.onObj w2 Tb (laidAt 0 #[I s.g, I s.sl, U s.sd, .slice none 0 0, .slice a19 0 c19])) := s2.2.2.onObj (.inr hTw) _
            have b3 : (World.onObj w2 Tb (laidAt 0 #[I s.g, I s.sl, U s.sd, .slice none 0 0, .slice a19 0 c19])).heap[B]? = some (.cells (scC s) 26 (0, 0)) := (c3.block B (Array.getElem?_eq_some_iff.1 s2.1).1 (by simp; omega)).trans s2.1
            have d3 : (World.onObj w2 Tb (laidAt 0 #[I s.g, I s.sl, U s.sd, .slice none 0 0, .slice a19 0 c19])).heap[B + 1]? = some (.cells (scC zeroSc) 26 (0, 0)) := (c3.block (B + 1) (Array.getElem?_eq_some_iff.1 s2.2.1).1 (by simp; omega)).trans s2.2.1
            have t3 : (World.onObj w2 Tb (laidAt 0 #[I s.g, I s.sl, U s.sd, .slice none 0 0, .slice a19 0 c19])).heap[Tb]? = some (.cells #[I s.g, I s.sl, U s.sd, .slice none 0 0, .slice a19 0 c19] 26 (0, 0)) := by rw [heap_onObj, if_pos rfl, t2]; rfl
            have kk3 : KW (World.onObj w2 Tb (laidAt 0 #[I s.g, I s.sl, U s.sd, .slice none 0 0, .slice a19 0 c19])) a19 (ps.take 0) ∧ KTy (World.onObj w2 Tb (laidAt 0 #[I s.g, I s.sl, U s.sd, .slice none 0 0, .slice a19 0 c19])) a19 := kw2.keepT ky2 c3 (fun t ht => by rw [List.mem_singleton.1 ht]; exact cells_type t2 (by decide))
            refine hK.out _ _ ⟨b3, d3, cw3⟩ (fun _ => ?_)
            have HFIN := Lib.hid (And.intro zT (And.intro t3 (And.intro kk3.1 (And.intro kk3.2 (And.intro b3 (And.intro d3 cw3))))))
            clear hK K s2 t2 kw2 c3 cw3 b3 d3 t3 kk3 ky2
            refine wpAnyH_done (by kernel_rfl) ?_ _
            go_wp2_with fail
            go_meet
            case rel => exact ⟨Tb, a19, c19, rfl, HFIN.out⟩
          · go_simp
            have c4 : Ch [] w0 (w0.alloc (.cells (scC zeroSc) 26)) := (Ch.refl _ _).alloc _
            have s4 : (fun W' : World => W'.heap[B]? = some (.cells (scC s) 26 (0, 0)) ∧ W'.heap[B + 1]? = some (.cells (scC zeroSc) 26 (0, 0)) ∧ Ch [] w W') (w0.alloc (.cells (scC zeroSc) 26)) := ⟨bkeep c4 s0.1, bkeep c4 s0.2.1, s0.2.2.trans c4⟩
            have t4 : (w0.alloc (.cells (scC zeroSc) 26)).heap[w0.heap.size]? = some (.cells (scC zeroSc) 26 (0, 0)) := by rw [heap_alloc, if_pos rfl]
            have z4 : B + 2 ≤ (w0.alloc (.cells (scC zeroSc) 26)).heap.size := Nat.le_trans z0 c4.size
            have kt4 := kt0.ch c4
            refine hK.out _ _ s4 (fun _ => ?_)
            clear hK K c4 s0
            try simp only [Act.put, List.setIfInBounds_toArray, List.set_cons_zero, List.set_cons_succ]
            obtain ⟨w4, hw4⟩ : ∃ y, w0.alloc (.cells (scC zeroSc) 26) = y := ⟨_, rfl⟩
            rw [hw4] at s4 t4 z4 kt4 ⊢
            obtain ⟨Tb, hTb⟩ : ∃ y, w0.heap.size = y := ⟨_, rfl⟩
            rw [hTb] at t4 z0 ⊢
            have zT : B + 2 ≤ Tb := z0
            clear hw4
            refine wpAnyH_ready (rs := [13]) (by kernel_rfl) (by simp) ?_
            refine AllReadyH.cons (o := ⟨some 19, _, _, _, _, none⟩) rfl (fun K hK => ?_) AllReadyH.nil
            go_simp
            refine (CL _ none 0 kt4).mono ?_
            rintro e w5 ⟨v19, rfl, o19, hc⟩
            obtain ⟨a19, c19, hv19, hl19, kw5⟩ := own_kw o19
            subst hv19
            have ky5 := own_kty o19
            have s5 : (fun W' : World => W'.heap[B]? = some (.cells (scC s) 26 (0, 0)) ∧ W'.heap[B + 1]? = some (.cells (scC zeroSc) 26 (0, 0)) ∧ Ch [] w W') w5 := ⟨bkeep hc s4.1, bkeep hc s4.2.1, s4.2.2.trans hc⟩
            have z5 : B + 2 ≤ w5.heap.size := Nat.le_trans z4 hc.size
            have t5 := bkeep hc t4
            refine hK.out _ _ s5 (fun _ => ?_)
            clear hK K o19 hc hl19 s4
            try simp only [Act.put, List.setIfInBounds_toArray, List.set_cons_zero, List.set_cons_succ]
            refine wpAnyH_take (i := 14) (oi := ⟨some 20, _, _, _, _, none⟩) (v := ?_) rfl (by kernel_rfl) (by kernel_rfl) (by kernel_rfl) (fun _ _ _ h => h) (Or.inl ⟨by rfl, ?_⟩) s5 ?_
            rotate_left
            · intro wq hSq
              first | (go_simp; done) | (go_simp; with_reducible rfl)
            try simp only [Act.put, List.setIfInBounds_toArray, List.set_cons_zero, List.set_cons_succ]
            refine wpAnyH_ready (rs := [16]) (by kernel_rfl) (by simp) ?_
            refine AllReadyH.cons rfl (fun K hK => ?_) AllReadyH.nil
            go_simp
            have hTw : w.heap.size ≤ Tb := by have := HBE.out; omega
            have c6 : Ch [Tb] w5 (World.onObj w5 Tb (laidAt 0 #[I s.g, I s.sl, U s.sd, .slice none 0 0, .slice a19 0 c19])) := (Ch.refl _ _).onObj (.inl (by simp)) _
            have cw6 : Ch [] w (World.onObj w5 Tb (laidAt 0 #[I s.g, I s.sl, U s.sd, .slice none 0 0, .slice a19 0 c19])) := s5.2.2.onObj (.inr hTw) _
            have b6 : (World.onObj w5 Tb (laidAt 0 #[I s.g, I s.sl, U s.sd, .slice none 0 0, .slice a19 0 c19])).heap[B]? = some (.cells (scC s) 26 (0, 0)) := (c6.block B (Array.getElem?_eq_some_iff.1 s5.1).1 (by simp; omega)).trans s5.1
            have d6 : (World.onObj w5 Tb (laidAt 0 #[I s.g, I s.sl, U s.sd, .slice none 0 0, .slice a19 0 c19])).heap[B + 1]? = some (.cells (scC zeroSc) 26 (0, 0)) := (c6.block (B + 1) (Array.getElem?_eq_some_iff.1 s5.2.1).1 (by simp; omega)).trans s5.2.1
            have t6 : (World.onObj w5 Tb (laidAt 0 #[I s.g, I s.sl, U s.sd, .slice none 0 0, .slice a19 0 c19])).heap[Tb]? = some (.cells #[I s.g, I s.sl, U s.sd, .slice none 0 0, .slice a19 0 c19] 26 (0, 0)) := by rw [heap_onObj, if_pos rfl, t5]; rfl
            have kk6 : KW (World.onObj w5 Tb (laidAt 0 #[I s.g, I s.sl, U s.sd, .slice none 0 0, .slice a19 0 c19])) a19 (ps.take 0) ∧ KTy (World.onObj w5 Tb (laidAt 0 #[I s.g, I s.sl, U s.sd, .slice none 0 0, .slice a19 0 c19])) a19 := kw5.keepT ky5 c6 (fun t ht => by rw [List.mem_singleton.1 ht]; exact cells_type t5 (by decide))
            refine hK.out _ _ ⟨b6, d6, cw6⟩ (fun _ => ?_)
            have HFIN := Lib.hid (And.intro zT (And.intro t6 (And.intro kk6.1 (And.intro kk6.2 (And.intro b6 (And.intro d6 cw6))))))
            clear hK K s5 t5 kw5 c6 cw6 b6 d6 t6 kk6 ky5
            refine wpAnyH_done (by kernel_rfl) ?_ _
            go_wp2_with fail
            go_meet
            case rel => exact ⟨Tb, a19, c19, rfl, HFIN.out⟩
        · go_simp
          have c7 : Ch [] w0 (w0.alloc (.cells (scC zeroSc) 26)) := (Ch.refl _ _).alloc _
          have s7 : (fun W' : World => W'.heap[B]? = some (.cells (scC s) 26 (0, 0)) ∧ W'.heap[B + 1]? = some (.cells (scC zeroSc) 26 (0, 0)) ∧ Ch [] w W') (w0.alloc (.cells (scC zeroSc) 26)) := ⟨bkeep c7 s0.1, bkeep c7 s0.2.1, s0.2.2.trans c7⟩
          have t7 : (w0.alloc (.cells (scC zeroSc) 26)).heap[w0.heap.size]? = some (.cells (scC zeroSc) 26 (0, 0)) := by rw [heap_alloc, if_pos rfl]
          have z7 : B + 2 ≤ (w0.alloc (.cells (scC zeroSc) 26)).heap.size := Nat.le_trans z0 c7.size
          have kt7 := kt0.ch c7
          refine hK.out _ _ s7 (fun _ => ?_)
          clear hK K c7 s0
          try simp only [Act.put, List.setIfInBounds_toArray, List.set_cons_zero, List.set_cons_succ]
          obtain ⟨w7, hw7⟩ : ∃ y, w0.alloc (.cells (scC zeroSc) 26) = y := ⟨_, rfl⟩
          rw [hw7] at s7 t7 z7 kt7 ⊢
          obtain ⟨Tb, hTb⟩ : ∃ y, w0.heap.size = y := ⟨_, rfl⟩
          rw [hTb] at t7 z0 ⊢
          have zT : B + 2 ≤ Tb := z0
          clear hw7
          refine wpAnyH_ready (rs := [11]) (by kernel_rfl) (by simp) ?_
          refine AllReadyH.cons (o := ⟨some 17, _, _, _, _, none⟩) rfl (fun K hK => ?_) AllReadyH.nil
          go_simp
          refine hK.out _ _ s7 (fun _ => ?_)
          clear hK K
          try simp only [Act.put, List.setIfInBounds_toArray, List.set_cons_zero, List.set_cons_succ]
          refine wpAnyH_take (i := 12) (oi := ⟨some 18, _, _, _, _, none⟩) (v := ?_) rfl (by kernel_rfl) (by kernel_rfl) (by kernel_rfl) (fun _ _ _ h => h) (Or.inl ⟨by rfl, ?_⟩) s7 ?_
          rotate_left
          · intro wq hSq
            first | (go_simp; done) | (go_simp; with_reducible rfl)
          try simp only [Act.put, List.setIfInBounds_toArray, List.set_cons_zero, List.set_cons_succ]
          refine wpAnyH_ready (rs := [13]) (by kernel_rfl) (by simp) ?_
          refine AllReadyH.cons (o := ⟨some 19, _, _, _, _, none⟩) rfl (fun K hK => ?_) AllReadyH.nil
          go_simp
          refine (CL _ none 0 kt7).mono ?_
          rintro e w8 ⟨v19, rfl, o19, hc⟩
          obtain ⟨a19, c19, hv19, hl19, kw8⟩ := own_kw o19
          subst hv19
          have ky8 := own_kty o19
          have s8 : (fun W' : World => W'.heap[B]? = some (.cells (scC s) 26 (0, 0)) ∧ W'.heap[B + 1]? = some (.cells (scC zeroSc) 26 (0, 0)) ∧ Ch [] w W') w8 := ⟨bkeep hc s7.1, bkeep hc s7.2.1, s7.2.2.trans hc⟩
          have z8 : B + 2 ≤ w8.heap.size := Nat.le_trans z7 hc.size
          have t8 := bkeep hc t7
          refine hK.out _ _ s8 (fun _ => ?_)
          clear hK K o19 hc hl19 s7
          try simp only [Act.put, List.setIfInBounds_toArray, List.set_cons_zero, List.set_cons_succ]
          refine wpAnyH_take (i := 14) (oi := ⟨some 20, _, _, _, _, none⟩) (v := ?_) rfl (by kernel_rfl) (by kernel_rfl) (by kernel_rfl) (fun _ _ _ h => h) (Or.inl ⟨by rfl, ?_⟩) s8 ?_
          rotate_left
          · intro wq hSq
            first | (go_simp; done) | (go_simp; with_reducible rfl)
          try simp only [Act.put, List.setIfInBounds_toArray, List.set_cons_zero, List.set_cons_succ]
          refine wpAnyH_ready (rs := [16]) (by kernel_rfl) (by simp) ?_
          refine AllReadyH.cons rfl (fun K hK => ?_) AllReadyH.nil
          go_simp
          have hTw : w.heap.size ≤ Tb := by have := HBE.out; omega
          have c9 : Ch [Tb] w8 (World.onObj w8 Tb (laidAt 0 #[I s.g, I s.sl, U s.sd, .slice none 0 0, .slice a19 0 c19])) := (Ch.refl _ _).onObj (.inl (by simp)) _
          have cw9 : Ch [] w (World.onObj w8 Tb (laidAt 0 #[I s.g, I s.sl, U s.sd, .slice none 0 0, .slice a19 0 c19])) := s8.2.2.onObj (.inr hTw) _
          have b9 : (World.onObj w8 Tb (laidAt 0 #[I s.g, I s.sl, U s.sd, .slice none 0 0, .slice a19 0 c19])).heap[B]? = some (.cells (scC s) 26 (0, 0)) := (c9.block B (Array.getElem?_eq_some_iff.1 s8.1).1 (by simp; omega)).trans s8.1
          have d9 : (World.onObj w8 Tb (laidAt 0 #[I s.g, I s.sl, U s.sd, .slice none 0 0, .slice a19 0 c19])).heap[B + 1]? = some (.cells (scC zeroSc) 26 (0, 0)) := (c9.block (B + 1) (Array.getElem?_eq_some_iff.1 s8.2.1).1 (by simp; omega)).trans s8.2.1
          have t9 : (World.onObj w8 Tb (laidAt 0 #[I s.g, I s.sl, U s.sd, .slice none 0 0, .slice a19 0 c19])).heap[Tb]? = some (.cells #[I s.g, I s.sl, U s.sd, .slice none 0 0, .slice a19 0 c19] 26 (0, 0)) := by rw [heap_onObj, if_pos rfl, t8]; rfl
          have kk9 : KW (World.onObj w8 Tb (laidAt 0 #[I s.g, I s.sl, U s.sd, .slice none 0 0, .slice a19 0 c19])) a19 (ps.take 0) ∧ KTy (World.onObj w8 Tb (laidAt 0 #[I s.g, I s.sl, U s.sd, .slice none 0 0, .slice a19 0 c19])) a19 := kw8.keepT ky8 c9 (fun t ht => by rw [List.mem_singleton.1 ht]; exact cells_type t8 (by decide))
          refine hK.out _ _ ⟨b9, d9, cw9⟩ (fun _ => ?_)
          have HFIN := Lib.hid (And.intro zT (And.intro t9 (And.intro kk9.1 (And.intro kk9.2 (And.intro b9 (And.intro d9 cw9))))))
          clear hK K s8 t8 kw8 c9 cw9 b9 d9 t9 kk9 ky8
          refine wpAnyH_done (by kernel_rfl) ?_ _
          go_wp2_with fail
          go_meet
          case rel => exact ⟨Tb, a19, c19, rfl, HFIN.out⟩
      · go_simp
        have c10 : Ch [] w0 (w0.alloc (.cells (scC zeroSc) 26)) := (Ch.refl _ _).alloc _
        have s10 : (fun W' : World => W'.heap[B]? = some (.cells (scC s) 26 (0, 0)) ∧ W'.heap[B + 1]? = some (.cells (scC zeroSc) 26 (0, 0)) ∧ Ch [] w W') (w0.alloc (.cells (scC zeroSc) 26)) := ⟨bkeep c10 s0.1, bkeep c10 s0.2.1, s0.2.2.trans c10⟩
        have t10 : (w0.alloc (.cells (scC zeroSc) 26)).heap[w0.heap.size]? = some (.cells (scC zeroSc) 26 (0, 0)) := by rw [heap_alloc, if_pos rfl]
        have z10 : B + 2 ≤ (w0.alloc (.cells (scC zeroSc) 26)).heap.size := Nat.le_trans z0 c10.size
        have kt10 := kt0.ch c10
        refine hK.out _ _ s10 (fun _ => ?_)
        clear hK K c10 s0
        try simp only [Act.put, List.setIfInBounds_toArray, List.set_cons_zero, List.set_cons_succ]
        obtain ⟨w10, hw10⟩ : ∃ y, w0.alloc (.cells (scC zeroSc) 26) = y := ⟨_, rfl⟩
        rw [hw10] at s10 t10 z10 kt10 ⊢
        obtain ⟨Tb, hTb⟩ : ∃ y, w0.heap.size = y := ⟨_, rfl⟩
        rw [hTb] at t10 z0 ⊢
        have zT : B + 2 ≤ Tb := z0
        clear hw10
        refine wpAnyH_ready (rs := [10]) (by kernel_rfl) (by simp) ?_
        refine AllReadyH.cons (o := ⟨some 16, _, _, _, _, none⟩) rfl (fun K hK => ?_) AllReadyH.nil
        go_simp
        refine hK.out _ _ s10 (fun _ => ?_)
        clear hK K
        try simp only [Act.put, List.setIfInBounds_toArray, List.set_cons_zero, List.set_cons_succ]
        refine wpAnyH_ready (rs := [11]) (by kernel_rfl) (by simp) ?_
        refine AllReadyH.cons (o := ⟨some 17, _, _, _, _, none⟩) rfl (fun K hK => ?_) AllReadyH.nil
        go_simp
        refine hK.out _ _ s10 (fun _ => ?_)
        clear hK K
        try simp only [Act.put, List.setIfInBounds_toArray, List.set_cons_zero, List.set_cons_succ]
        refine wpAnyH_take (i := 12) (oi := ⟨some 18, _, _, _, _, none⟩) (v := ?_) rfl (by kernel_rfl) (by kernel_rfl) (by kernel_rfl) (fun _ _ _ h => h) (Or.inl ⟨by rfl, ?_⟩) s10 ?_
        rotate_left
        · intro wq hSq
          first | (go_simp; done) | (go_simp; with_reducible rfl)
        try simp only [Act.put, List.setIfInBounds_toArray, List.set_cons_zero, List.set_cons_succ]
        refine wpAnyH_ready (rs := [13]) (by kernel_rfl) (by simp) ?_
        refine AllReadyH.cons (o := ⟨some 19, _, _, _, _, none⟩) rfl (fun K hK => ?_) AllReadyH.nil
        go_simp
        refine (CL _ none 0 kt10).mono ?_
        rintro e w11 ⟨v19, rfl, o19, hc⟩
        obtain ⟨a19, c19, hv19, hl19, kw11⟩ := own_kw o19
        subst hv19
        have ky11 := own_kty o19
        have s11 : (fun W' : World => W'.heap[B]? = some (.cells (scC s) 26 (0, 0)) ∧ W'.heap[B + 1]? = some (.cells (scC zeroSc) 26 (0, 0)) ∧ Ch [] w W') w11 := ⟨bkeep hc s10.1, bkeep hc s10.2.1, s10.2.2.trans hc⟩
        have z11 : B + 2 ≤ w11.heap.size := Nat.le_trans z10 hc.size
        have t11 := bkeep hc t10
        refine hK.out _ _ s11 (fun _ => ?_)
        clear hK K o19 hc hl19 s10
        try simp only [Act.put, List.setIfInBounds_toArray, List.set_cons_zero, List.set_cons_succ]
        refine wpAnyH_take (i := 14) (oi := ⟨some 20, _, _, _, _, none⟩) (v := ?_) rfl (by kernel_rfl) (by kernel_rfl) (by kernel_rfl) (fun _ _ _ h => h) (Or.inl ⟨by rfl, ?_⟩) s11 ?_
        rotate_left
        · intro wq hSq
          first | (go_simp; done) | (go_simp; with_reducible rfl)
        try simp only [Act.put, List.setIfInBounds_toArray, List.set_cons_zero, List.set_cons_succ]
        refine wpAnyH_ready (rs := [16]) (by kernel_rfl) (by simp) ?_
        refine AllReadyH.cons rfl (fun K hK => ?_) AllReadyH.nil
        go_simp
        have hTw : w.heap.size ≤ Tb := by have := HBE.out; omega
        have c12 : Ch [Tb] w11 (World.onObj w11 Tb (laidAt 0 #[I s.g, I s.sl, U s.sd, .slice none 0 0, .slice a19 0 c19])) := (Ch.refl _ _).onObj (.inl (by simp)) _
        have cw12 : Ch [] w (World.onObj w11 Tb (laidAt 0 #[I s.g, I s.sl, U s.sd, .slice none 0 0, .slice a19 0 c19])) := s11.2.2.onObj (.inr hTw) _
        have b12 : (World.onObj w11 Tb (laidAt 0 #[I s.g, I s.sl, U s.sd, .slice none 0 0, .slice a19 0 c19])).heap[B]? = some (.cells (scC s) 26 (0, 0)) := (c12.block B (Array.getElem?_eq_some_iff.1 s11.1).1 (by simp; omega)).trans s11.1
        have d12 : (World.onObj w11 Tb (laidAt 0 #[I s.g, I s.sl, U s.sd, .slice none 0 0, .slice a19 0 c19])).heap[B + 1]? = some (.cells (scC zeroSc) 26 (0, 0)) := (c12.block (B + 1) (Array.getElem?_eq_some_iff.1 s11.2.1).1 (by simp; omega)).trans s11.2.1
        have t12 : (World.onObj w11 Tb (laidAt 0 #[I s.g, I s.sl, U s.sd, .slice none 0 0, .slice a19 0 c19])).heap[Tb]? = some (.cells #[I s.g, I s.sl, U s.sd, .slice none 0 0, .slice a19 0 c19] 26 (0, 0)) := by rw [heap_onObj, if_pos rfl, t11]; rfl
        have kk12 : KW (World.onObj w11 Tb (laidAt 0 #[I s.g, I s.sl, U s.sd, .slice none 0 0, .slice a19 0 c19])) a19 (ps.take 0) ∧ KTy (World.onObj w11 Tb (laidAt 0 #[I s.g, I s.sl, U s.sd, .slice none 0 0, .slice a19 0 c19])) a19 := kw11.keepT ky11 c12 (fun t ht => by rw [List.mem_singleton.1 ht]; exact cells_type t11 (by decide))
        refine hK.out _ _ ⟨b12, d12, cw12⟩ (fun _ => ?_)
        have HFIN := Lib.hid (And.intro zT (And.intro t12 (And.intro kk12.1 (And.intro kk12.2 (And.intro b12 (And.intro d12 cw12))))))
        clear hK K s11 t11 kw11 c12 cw12 b12 d12 t12 kk12 ky11
        refine wpAnyH_done (by kernel_rfl) ?_ _
        go_wp2_with fail
        go_meet
        case rel => exact ⟨Tb, a19, c19, rfl, HFIN.out⟩
    · subst hp0
      have e1 : (pm : Int) ≤ pc := by omega
      have e2 : (0 : Int) ≤ pm := by omega
      have s0 : (fun W' : World => W'.heap[B]? = some (.cells (scC s) 26 (0, 0)) ∧ W'.heap[B + 1]? = some (.cells (scC zeroSc) 26 (0, 0)) ∧ Ch [] w W') W.drew := ⟨hB, hD, C.drew⟩
      refine wp_region_held_drew (S := fun W' : World => W'.heap[B]? = some (.cells (scC s) 26 (0, 0)) ∧ W'.heap[B + 1]? = some (.cells (scC zeroSc) 26 (0, 0)) ∧ Ch [] w W') (by kernel_rfl) s0 ?_
      intro _
      simp only [List.size_toArray, List.length_cons, List.length_nil, Nat.reduceAdd]
      have z0 : B + 2 ≤ W.drew.heap.size := by show B + 2 ≤ W.heap.size; omega
      have kt0 : KW W.drew (some x) (ps.take pm) := hKT.out.ch ((Ch.refl _ _).drew)
      clear C hB hD hsz hKT
      generalize W.drew = w0 at *
      refine wpAnyH_take (i := 0) (oi := ⟨some 6, _, _, _, _, none⟩) (v := ?_) rfl (by kernel_rfl) (by kernel_rfl) (by kernel_rfl) (fun _ _ _ h => h) (Or.inl ⟨by rfl, ?_⟩) s0 ?_
      rotate_left
      · intro wq hSq
        obtain ⟨z1, z2, z3⟩ := hSq
        first | (go_simp; done) | (go_simp; with_reducible rfl)
      try simp only [Act.put, List.setIfInBounds_toArray, List.set_cons_zero, List.set_cons_succ]
      refine wpAnyH_take (i := 1) (oi := ⟨some 7, _, _, _, _, none⟩) (v := ?_) rfl (by kernel_rfl) (by kernel_rfl) (by kernel_rfl) (fun _ _ _ h => h) (Or.inl ⟨by rfl, ?_⟩) s0 ?_
      rotate_left
      · intro wq hSq
        obtain ⟨z1, z2, z3⟩ := hSq
        first | (go_simp; done) | (go_simp; with_reducible rfl)
      try simp only [Act.put, List.setIfInBounds_toArray, List.set_cons_zero, List.set_cons_succ]
      refine wpAnyH_take (i := 2) (oi := ⟨some 8, _, _, _, _, none⟩) (v := ?_) rfl (by kernel_rfl) (by kernel_rfl) (by kernel_rfl) (fun _ _ _ h => h) (Or.inl ⟨by rfl, ?_⟩) s0 ?_
      rotate_left
      · intro wq hSq
        obtain ⟨z1, z2, z3⟩ := hSq
        first | (go_simp; done) | (go_simp; with_reducible rfl)
      try simp only [Act.put, List.setIfInBounds_toArray, List.set_cons_zero, List.set_cons_succ]
      refine wpAnyH_take (i := 3) (oi := ⟨some 9, _, _, _, _, none⟩) (v := ?_) rfl (by kernel_rfl) (by kernel_rfl) (by kernel_rfl) (fun _ _ _ h => h) (Or.inl ⟨by rfl, ?_⟩) s0 ?_
      rotate_left
      · intro wq hSq
        obtain ⟨z1, z2, z3⟩ := hSq
        first | (go_simp; done) | (go_simp; with_reducible rfl)
      try simp only [Act.put, List.setIfInBounds_toArray, List.set_cons_zero, List.set_cons_succ]
      refine wpAnyH_take (i := 4) (oi := ⟨some 10, _, _, _, _, none⟩) (v := ?_) rfl (by kernel_rfl) (by kernel_rfl) (by kernel_rfl) (fun _ _ _ h => h) (Or.inl ⟨by rfl, ?_⟩) s0 ?_
      rotate_left
      · intro wq hSq
        obtain ⟨z1, z2, z3⟩ := hSq
        first | (go_simp; done) | (go_simp; with_reducible rfl)
      try simp only [Act.put, List.setIfInBounds_toArray, List.set_cons_zero, List.set_cons_succ]
      refine wpAnyH_take (i := 5) (oi := ⟨some 11, _, _, _, _, none⟩) (v := ?_) rfl (by kernel_rfl) (by kernel_rfl) (by kernel_rfl) (fun _ _ _ h => h) (Or.inl ⟨by rfl, ?_⟩) s0 ?_
      rotate_left
      · intro wq hSq
        obtain ⟨z1, z2, z3⟩ := hSq
        first | (go_simp; done) | (go_simp; with_reducible rfl)
      try simp only [Act.put, List.setIfInBounds_toArray, List.set_cons_zero, List.set_cons_succ]
      refine wpAnyH_take (i := 6) (oi := ⟨some 12, _, _, _, _, none⟩) (v := ?_) rfl (by kernel_rfl) (by kernel_rfl) (by kernel_rfl) (fun _ _ _ h => h) (Or.inl ⟨by rfl, ?_⟩) s0 ?_
      rotate_left
      · intro wq hSq
        obtain ⟨z1, z2, z3⟩ := hSq
        first | (go_simp; done) | (go_simp; with_reducible rfl)
      try simp only [Act.put, List.setIfInBounds_toArray, List.set_cons_zero, List.set_cons_succ]
      refine wpAnyH_take (i := 7) (oi := ⟨some 13, _, _, _, _, none⟩) (v := ?_) rfl (by kernel_rfl) (by kernel_rfl) (by kernel_rfl) (fun _ _ _ h => h) (Or.inl ⟨by rfl, ?_⟩) s0 ?_
      rotate_left
      · intro wq hSq
        obtain ⟨z1, z2, z3⟩ := hSq
        first | (go_simp; done) | (go_simp; with_reducible rfl)
      try simp only [Act.put, List.setIfInBounds_toArray, List.set_cons_zero, List.set_cons_succ]
      refine wpAnyH_take (i := 8) (oi := ⟨some 14, _, _, _, _, none⟩) (v := ?_) rfl (by kernel_rfl) (by kernel_rfl) (by kernel_rfl) (fun _ _ _ h => h) (Or.inl ⟨by rfl, ?_⟩) s0 ?_
      rotate_left
      · intro wq hSq
        obtain ⟨z1, z2, z3⟩ := hSq
        first | (go_simp; done) | (go_simp; with_reducible rfl)
      try simp only [Act.put, List.setIfInBounds_toArray, List.set_cons_zero, List.set_cons_succ]
      refine wpAnyH_take (i := 9) (oi := ⟨some 15, _, _, _, _, none⟩) (v := ?_) rfl (by kernel_rfl) (by kernel_rfl) (by kernel_rfl) (fun _ _ _ h => h) (Or.inl ⟨by rfl, ?_⟩) s0 ?_
      rotate_left
      · intro wq hSq
        obtain ⟨z1, z2, z3⟩ := hSq
        first | (go_simp; done) | (go_simp; with_reducible rfl)
      try simp only [Act.put, List.setIfInBounds_toArray, List.set_cons_zero, List.set_cons_succ]
      refine wpAnyH_ready (rs := [10, 15]) (by kernel_rfl) (by simp) ?_
      refine AllReadyH.cons (o := ⟨some 16, _, _, _, _, none⟩) rfl (fun K hK => ?_) (AllReadyH.cons (o := ⟨some 3, _, _, _, _, none⟩) rfl (fun K hK => ?_) AllReadyH.nil)
      · go_simp
        refine hK.out _ _ s0 (fun _ => ?_)
        clear hK K
        try simp only [Act.put, List.setIfInBounds_toArray, List.set_cons_zero, List.set_cons_succ]
        refine wpAnyH_ready (rs := [11, 15]) (by kernel_rfl) (by simp) ?_
        refine AllReadyH.cons (o := ⟨some 17, _, _, _, _, none⟩) rfl (fun K hK => ?_) (AllReadyH.cons (o := ⟨some 3, _, _, _, _, none⟩) rfl (fun K hK => ?_) AllReadyH.nil)
        · go_simp
          refine hK.out _ _ s0 (fun _ => ?_)
          clear hK K
          try simp only [Act.put, List.setIfInBounds_toArray, List.set_cons_zero, List.set_cons_succ]
          refine wpAnyH_take (i := 12) (oi := ⟨some 18, _, _, _, _, none⟩) (v := ?_) rfl (by kernel_rfl) (by kernel_rfl) (by kernel_rfl) (fun _ _ _ h => h) (Or.inl ⟨by rfl, ?_⟩) s0 ?_
          rotate_left
          · intro wq hSq
            first | (go_simp; done) | (go_simp; with_reducible rfl)
          try simp only [Act.put, List.setIfInBounds_toArray, List.set_cons_zero, List.set_cons_succ]
          refine wpAnyH_ready (rs := [13, 15]) (by kernel_rfl) (by simp) ?_
          refine AllReadyH.cons (o := ⟨some 19, _, _, _, _, none⟩) rfl (fun K hK => ?_) (AllReadyH.cons (o := ⟨some 3, _, _, _, _, none⟩) rfl (fun K hK => ?_) AllReadyH.nil)
          · go_simp
            refine (CL _ (some x) pc kt0).mono ?_
            rintro e w1 ⟨v19, rfl, o19, hc⟩
            obtain ⟨a19, c19, hv19, hl19, kw1⟩ := own_kw o19
            subst hv19
            have ky1 := own_kty o19
            have s1 : (fun W' : World => W'.heap[B]? = some (.cells (scC s) 26 (0, 0)) ∧ W'.heap[B + 1]? = some (.cells (scC zeroSc) 26 (0, 0)) ∧ Ch [] w W') w1 := ⟨bkeep hc s0.1, bkeep hc s0.2.1, s0.2.2.trans hc⟩
            have z1 : B + 2 ≤ w1.heap.size := Nat.le_trans z0 hc.size
            refine hK.out _ _ s1 (fun _ => ?_)
            clear hK K o19 hc hl19 s0
            try simp only [Act.put, List.setIfInBounds_toArray, List.set_cons_zero, List.set_cons_succ]
            refine wpAnyH_take (i := 14) (oi := ⟨some 20, _, _, _, _, none⟩) (v := ?_) rfl (by kernel_rfl) (by kernel_rfl) (by kernel_rfl) (fun _ _ _ h => h) (Or.inl ⟨by rfl, ?_⟩) s1 ?_
            rotate_left
            · intro wq hSq
              first | (go_simp; done) | (go_simp; with_reducible rfl)
            try simp only [Act.put, List.setIfInBounds_toArray, List.set_cons_zero, List.set_cons_succ]
            refine wpAnyH_ready (rs := [15]) (by kernel_rfl) (by simp) ?_
            refine AllReadyH.cons (o := ⟨some 3, _, _, _, _, none⟩) rfl (fun K hK => ?_) AllReadyH.nil
            go_simp
            have c2 : Ch [] w1 (w1.alloc (.cells (scC zeroSc) 26)) := (Ch.refl _ _).alloc _
            have s2 : (fun W' : World => W'.heap[B]? = some (.cells (scC s) 26 (0, 0)) ∧ W'.heap[B + 1]? = some (.cells (scC zeroSc) 26 (0, 0)) ∧ Ch [] w W') (w1.alloc (.cells (scC zeroSc) 26)) := ⟨bkeep c2 s1.1, bkeep c2 s1.2.1, s1.2.2.trans c2⟩
            have t2 : (w1.alloc (.cells (scC zeroSc) 26)).heap[w1.heap.size]? = some (.cells (scC zeroSc) 26 (0, 0)) := by rw [heap_alloc, if_pos rfl]
            have z2 : B + 2 ≤ (w1.alloc (.cells (scC zeroSc) 26)).heap.size := Nat.le_trans z1 c2.size
            have kw2 := kw1.ch c2
            have ky2 := ky1.ch c2
            refine hK.out _ _ s2 (fun _ => ?_)
            clear hK K c2 s1
            try simp only [Act.put, List.setIfInBounds_toArray, List.set_cons_zero, List.set_cons_succ]
            obtain ⟨w2, hw2⟩ : ∃ y, w1.alloc (.cells (scC zeroSc) 26) = y := ⟨_, rfl⟩
            rw [hw2] at s2 t2 z2 kw2 ky2 ⊢
            obtain ⟨Tb, hTb⟩ : ∃ y, w1.heap.size = y := ⟨_, rfl⟩
            rw [hTb] at t2 z1 ⊢
            have zT : B + 2 ≤ Tb := z1
            clear hw2
            refine wpAnyH_ready (rs := [16]) (by kernel_rfl) (by simp) ?_
            refine AllReadyH.cons rfl (fun K hK => ?_) AllReadyH.nil
            go_simp
            have hTw : w.heap.size ≤ Tb := by have := HBE.out; omega
            have c3 : Ch [Tb] w2 (World.onObj w2 Tb (laidAt 0 #[I s.g, I s.sl, U s.sd, .slice none 0 0, .slice a19 pm c19])) := (Ch.refl _ _).onObj (.inl (by simp)) _
            have cw3 : Ch [] w (World.onObj w2 Tb (laidAt 0 #[I s.g, I s.sl, U s.sd, .slice none 0 0, .slice a19 pm c19])) := s2.2.2.onObj (.inr hTw) _
            have b3 : (World.onObj w2 Tb (laidAt 0 #[I s.g, I s.sl, U s.sd, .slice none 0 0, .slice a19 pm c19])).heap[B]? = some (.cells (scC s) 26 (0, 0)) := (c3.block B (Array.getElem?_eq_some_iff.1 s2.1).1 (by simp; omega)).trans s2.1
            have d3 : (World.onObj w2 Tb (laidAt 0 #[I s.g, I s.sl, U s.sd, .slice none 0 0, .slice a19 pm c19])).heap[B + 1]? = some (.cells (scC zeroSc) 26 (0, 0)) := (c3.block (B + 1) (Array.getElem?_eq_some_iff.1 s2.2.1).1 (by simp; omega)).trans s2.2.1
            have t3 : (World.onObj w2 Tb (laidAt 0 #[I s.g, I s.sl, U s.sd, .slice none 0 0, .slice a19 pm c19])).heap[Tb]? = some (.cells #[I s.g, I s.sl, U s.sd, .slice none 0 0, .slice a19 pm c19] 26 (0, 0)) := by rw [heap_onObj, if_pos rfl, t2]; rfl
            have kk3 : KW (World.onObj w2 Tb (laidAt 0 #[I s.g, I s.sl, U s.sd, .slice none 0 0, .slice a19 pm c19])) a19 (ps.take pm) ∧ KTy (World.onObj w2 Tb (laidAt 0 #[I s.g, I s.sl, U s.sd, .slice none 0 0, .slice a19 pm c19])) a19 := kw2.keepT ky2 c3 (fun t ht => by rw [List.mem_singleton.1 ht]; exact cells_type t2 (by decide))
            refine hK.out _ _ ⟨b3, d3, cw3⟩ (fun _ => ?_)
            have HFIN := Lib.hid (And.intro zT (And.intro t3 (And.intro kk3.1 (And.intro kk3.2 (And.intro b3 (And.intro d3 cw3))))))
            clear hK K s2 t2 kw2 c3 cw3 b3 d3 t3 kk3 ky2
            refine wpAnyH_done (by kernel_rfl) ?_ _
            go_wp2_with fail
            go_meet
            case rel => exact ⟨Tb, a19, c19, rfl, HFIN.out⟩
          · go_simp
            have c4 : Ch [] w0 (w0.alloc (.cells (scC zeroSc) 26)) := (Ch.refl _ _).alloc _
            have s4 : (fun W' : World => W'.heap[B]? = some (.cells (scC s) 26 (0, 0)) ∧ W'.heap[B + 1]? = some (.cells (scC zeroSc) 26 (0, 0)) ∧ Ch [] w W') (w0.alloc (.cells (scC zeroSc) 26)) := ⟨bkeep c4 s0.1, bkeep c4 s0.2.1, s0.2.2.trans c4⟩
            have t4 : (w0.alloc (.cells (scC zeroSc) 26)).heap[w0.heap.size]? = some (.cells (scC zeroSc) 26 (0, 0)) := by rw [heap_alloc, if_pos rfl]
            have z4 : B + 2 ≤ (w0.alloc (.cells (scC zeroSc) 26)).heap.size := Nat.le_trans z0 c4.size
            have kt4 := kt0.ch c4
            refine hK.out _ _ s4 (fun _ => ?_)
            clear hK K c4 s0
            try simp only [Act.put, List.setIfInBounds_toArray, List.set_cons_zero, List.set_cons_succ]
            obtain ⟨w4, hw4⟩ : ∃ y, w0.alloc (.cells (scC zeroSc) 26) = y := ⟨_, rfl⟩
            rw [hw4] at s4 t4 z4 kt4 ⊢
            obtain ⟨Tb, hTb⟩ : ∃ y, w0.heap.size = y := ⟨_, rfl⟩
            rw [hTb] at t4 z0 ⊢
            have zT : B + 2 ≤ Tb := z0
            clear hw4
            refine wpAnyH_ready (rs := [13]) (by kernel_rfl) (by simp) ?_
            refine AllReadyH.cons (o := ⟨some 19, _, _, _, _, none⟩) rfl (fun K hK => ?_) AllReadyH.nil
            go_simp
            refine (CL _ (some x) pc kt4).mono ?_
            rintro e w5 ⟨v19, rfl, o19, hc⟩
            obtain ⟨a19, c19, hv19, hl19, kw5⟩ := own_kw o19
            subst hv19
            have ky5 := own_kty o19
            have s5 : (fun W' : World => W'.heap[B]? = some (.cells (scC s) 26 (0, 0)) ∧ W'.heap[B + 1]? = some (.cells (scC zeroSc) 26 (0, 0)) ∧ Ch [] w W') w5 := ⟨bkeep hc s4.1, bkeep hc s4.2.1, s4.2.2.trans hc⟩
            have z5 : B + 2 ≤ w5.heap.size := Nat.le_trans z4 hc.size
            have t5 := bkeep hc t4
            refine hK.out _ _ s5 (fun _ => ?_)
            clear hK K o19 hc hl19 s4
            try simp only [Act.put, List.setIfInBounds_toArray, List.set_cons_zero, List.set_cons_succ]
            refine wpAnyH_take (i := 14) (oi := ⟨some 20, _, _, _, _, none⟩) (v := ?_) rfl (by kernel_rfl) (by kernel_rfl) (by kernel_rfl) (fun _ _ _ h => h) (Or.inl ⟨by rfl, ?_⟩) s5 ?_
            rotate_left
            · intro wq hSq
              first | (go_simp; done) | (go_simp; with_reducible rfl)
            try simp only [Act.put, List.setIfInBounds_toArray, List.set_cons_zero, List.set_cons_succ]
            refine wpAnyH_ready (rs := [16]) (by kernel_rfl) (by simp) ?_
            refine AllReadyH.cons rfl (fun K hK => ?_) AllReadyH.nil
            go_simp
            have hTw : w.heap.size ≤ Tb := by have := HBE.out; omega
            have c6 : Ch [Tb] w5 (World.onObj w5 Tb (laidAt 0 #[I s.g, I s.sl, U s.sd, .slice none 0 0, .slice a19 pm c19])) := (Ch.refl _ _).onObj (.inl (by simp)) _
            have cw6 : Ch [] w (World.onObj w5 Tb (laidAt 0 #[I s.g, I s.sl, U s.sd, .slice none 0 0, .slice a19 pm c19])) := s5.2.2.onObj (.inr hTw) _
            have b6 : (World.onObj w5 Tb (laidAt 0 #[I s.g, I s.sl, U s.sd, .slice none 0 0, .slice a19 pm c19])).heap[B]? = some (.cells (scC s) 26 (0, 0)) := (c6.block B (Array.getElem?_eq_some_iff.1 s5.1).1 (by simp; omega)).trans s5.1
            have d6 : (World.onObj w5 Tb (laidAt 0 #[I s.g, I s.sl, U s.sd, .slice none 0 0, .slice a19 pm c19])).heap[B + 1]? = some (.cells (scC zeroSc) 26 (0, 0)) := (c6.block (B + 1) (Array.getElem?_eq_some_iff.1 s5.2.1).1 (by simp; omega)).trans s5.2.1
            have t6 : (World.onObj w5 Tb (laidAt 0 #[I s.g, I s.sl, U s.sd, .slice none 0 0, .slice a19 pm c19])).heap[Tb]? = some (.cells #[I s.g, I s.sl, U s.sd, .slice none 0 0, .slice a19 pm c19] 26 (0, 0)) := by rw [heap_onObj, if_pos rfl, t5]; rfl
            have kk6 : KW (World.onObj w5 Tb (laidAt 0 #[I s.g, I s.sl, U s.sd, .slice none 0 0, .slice a19 pm c19])) a19 (ps.take pm) ∧ KTy (World.onObj w5 Tb (laidAt 0 #[I s.g, I s.sl, U s.sd, .slice none 0 0, .slice a19 pm c19])) a19 := kw5.keepT ky5 c6 (fun t ht => by rw [List.mem_singleton.1 ht]; exact cells_type t5 (by decide))
            refine hK.out _ _ ⟨b6, d6, cw6⟩ (fun _ => ?_)
            have HFIN := Lib.hid (And.intro zT (And.intro t6 (And.intro kk6.1 (And.intro kk6.2 (And.intro b6 (And.intro d6 cw6))))))
            clear hK K s5 t5 kw5 c6 cw6 b6 d6 t6 kk6 ky5
            refine wpAnyH_done (by kernel_rfl) ?_ _
            go_wp2_with fail
            go_meet
            case rel => exact ⟨Tb, a19, c19, rfl, HFIN.out⟩
        · go_simp
          have c7 : Ch [] w0 (w0.alloc (.cells (scC zeroSc) 26)) := (Ch.refl _ _).alloc _
          have s7 : (fun W' : World => W'.heap[B]? = some (.cells (scC s) 26 (0, 0)) ∧ W'.heap[B + 1]? = some (.cells (scC zeroSc) 26 (0, 0)) ∧ Ch [] w W') (w0.alloc (.cells (scC zeroSc) 26)) := ⟨bkeep c7 s0.1, bkeep c7 s0.2.1, s0.2.2.trans c7⟩
          have t7 : (w0.alloc (.cells (scC zeroSc) 26)).heap[w0.heap.size]? = some (.cells (scC zeroSc) 26 (0, 0)) := by rw [heap_alloc, if_pos rfl]
          have z7 : B + 2 ≤ (w0.alloc (.cells (scC zeroSc) 26)).heap.size := Nat.le_trans z0 c7.size
          have kt7 := kt0.ch c7
          refine hK.out _ _ s7 (fun _ => ?_)
          clear hK K c7 s0
          try simp only [Act.put, List.setIfInBounds_toArray, List.set_cons_zero, List.set_cons_succ]
          obtain ⟨w7, hw7⟩ : ∃ y, w0.alloc (.cells (scC zeroSc) 26) = y := ⟨_, rfl⟩
          rw [hw7] at s7 t7 z7 kt7 ⊢
          obtain ⟨Tb, hTb⟩ : ∃ y, w0.heap.size = y := ⟨_, rfl⟩
          rw [hTb] at t7 z0 ⊢
          have zT : B + 2 ≤ Tb := z0
          clear hw7
          refine wpAnyH_ready (rs := [11]) (by kernel_rfl) (by simp) ?_
          refine AllReadyH.cons (o := ⟨some 17, _, _, _, _, none⟩) rfl (fun K hK => ?_) AllReadyH.nil
          go_simp
          refine hK.out _ _ s7 (fun _ => ?_)
          clear hK K
          try simp only [Act.put, List.setIfInBounds_toArray, List.set_cons_zero, List.set_cons_succ]
          refine wpAnyH_take (i := 12) (oi := ⟨some 18, _, _, _, _, none⟩) (v := ?_) rfl (by kernel_rfl) (by kernel_rfl) (by kernel_rfl) (fun _ _ _ h => h) (Or.inl ⟨by rfl, ?_⟩) s7 ?_
          rotate_left
          · intro wq hSq
            first | (go_simp; done) | (go_simp; with_reducible rfl)
          try simp only [Act.put, List.setIfInBounds_toArray, List.set_cons_zero, List.set_cons_succ]
          refine wpAnyH_ready (rs := [13]) (by kernel_rfl) (by simp) ?_
          refine AllReadyH.cons (o := ⟨some 19, _, _, _, _, none⟩) rfl (fun K hK => ?_) AllReadyH.nil
          go_simp
          refine (CL _ (some x) pc kt7).mono ?_
          rintro e w8 ⟨v19, rfl, o19, hc⟩
          obtain ⟨a19, c19, hv19, hl19, kw8⟩ := own_kw o19
          subst hv19
          have ky8 := own_kty o19
          have s8 : (fun W' : World => W'.heap[B]? = some (.cells (scC s) 26 (0, 0)) ∧ W'.heap[B + 1]? = some (.cells (scC zeroSc) 26 (0, 0)) ∧ Ch [] w W') w8 := ⟨bkeep hc s7.1, bkeep hc s7.2.1, s7.2.2.trans hc⟩
          have z8 : B + 2 ≤ w8.heap.size := Nat.le_trans z7 hc.size
          have t8 := bkeep hc t7
          refine hK.out _ _ s8 (fun _ => ?_)
          clear hK K o19 hc hl19 s7
          try simp only [Act.put, List.setIfInBounds_toArray, List.set_cons_zero, List.set_cons_succ]
          refine wpAnyH_take (i := 14) (oi := ⟨some 20, _, _, _, _, none⟩) (v := ?_) rfl (by kernel_rfl) (by kernel_rfl) (by kernel_rfl) (fun _ _ _ h => h) (Or.inl ⟨by rfl, ?_⟩) s8 ?_
          rotate_left
          · intro wq hSq
            first | (go_simp; done) | (go_simp; with_reducible rfl)
          try simp only [Act.put, List.setIfInBounds_toArray, List.set_cons_zero, List.set_cons_succ]
          refine wpAnyH_ready (rs := [16]) (by kernel_rfl) (by simp) ?_
          refine AllReadyH.cons rfl (fun K hK => ?_) AllReadyH.nil
          go_simp
          have hTw : w.heap.size ≤ Tb := by have := HBE.out; omega
          have c9 : Ch [Tb] w8 (World.onObj w8 Tb (laidAt 0 #[I s.g, I s.sl, U s.sd, .slice none 0 0, .slice a19 pm c19])) := (Ch.refl _ _).onObj (.inl (by simp)) _
          have cw9 : Ch [] w (World.onObj w8 Tb (laidAt 0 #[I s.g, I s.sl, U s.sd, .slice none 0 0, .slice a19 pm c19])) := s8.2.2.onObj (.inr hTw) _
          have b9 : (World.onObj w8 Tb (laidAt 0 #[I s.g, I s.sl, U s.sd, .slice none 0 0, .slice a19 pm c19])).heap[B]? = some (.cells (scC s) 26 (0, 0)) := (c9.block B (Array.getElem?_eq_some_iff.1 s8.1).1 (by simp; omega)).trans s8.1
          have d9 : (World.onObj w8 Tb (laidAt 0 #[I s.g, I s.sl, U s.sd, .slice none 0 0, .slice a19 pm c19])).heap[B + 1]? = some (.cells (scC zeroSc) 26 (0, 0)) := (c9.block (B + 1) (Array.getElem?_eq_some_iff.1 s8.2.1).1 (by simp; omega)).trans s8.2.1
          have t9 : (World.onObj w8 Tb (laidAt 0 #[I s.g, I s.sl, U s.sd, .slice none 0 0, .slice a19 pm c19])).heap[Tb]? = some (.cells #[I s.g, I s.sl, U s.sd, .slice none 0 0, .slice a19 pm c19] 26 (0, 0)) := by rw [heap_onObj, if_pos rfl, t8]; rfl
          have kk9 : KW (World.onObj w8 Tb (laidAt 0 #[I s.g, I s.sl, U s.sd, .slice none 0 0, .slice a19 pm c19])) a19 (ps.take pm) ∧ KTy (World.onObj w8 Tb (laidAt 0 #[I s.g, I s.sl, U s.sd, .slice none 0 0, .slice a19 pm c19])) a19 := kw8.keepT ky8 c9 (fun t ht => by rw [List.mem_singleton.1 ht]; exact cells_type t8 (by decide))
          refine hK.out _ _ ⟨b9, d9, cw9⟩ (fun _ => ?_)
          have HFIN := Lib.hid (And.intro zT (And.intro t9 (And.intro kk9.1 (And.intro kk9.2 (And.intro b9 (And.intro d9 cw9))))))
          clear hK K s8 t8 kw8 c9 cw9 b9 d9 t9 kk9 ky8
          refine wpAnyH_done (by kernel_rfl) ?_ _
          go_wp2_with fail
          go_meet
          case rel => exact ⟨Tb, a19, c19, rfl, HFIN.out⟩
      · go_simp
        have c10 : Ch [] w0 (w0.alloc (.cells (scC zeroSc) 26)) := (Ch.refl _ _).alloc _
        have s10 : (fun W' : World => W'.heap[B]? = some (.cells (scC s) 26 (0, 0)) ∧ W'.heap[B + 1]? = some (.cells (scC zeroSc) 26 (0, 0)) ∧ Ch [] w W') (w0.alloc (.cells (scC zeroSc) 26)) := ⟨bkeep c10 s0.1, bkeep c10 s0.2.1, s0.2.2.trans c10⟩
        have t10 : (w0.alloc (.cells (scC zeroSc) 26)).heap[w0.heap.size]? = some (.cells (scC zeroSc) 26 (0, 0)) := by rw [heap_alloc, if_pos rfl]
        have z10 : B + 2 ≤ (w0.alloc (.cells (scC zeroSc) 26)).heap.size := Nat.le_trans z0 c10.size
        have kt10 := kt0.ch c10
        refine hK.out _ _ s10 (fun _ => ?_)
        clear hK K c10 s0
        try simp only [Act.put, List.setIfInBounds_toArray, List.set_cons_zero, List.set_cons_succ]
        obtain ⟨w10, hw10⟩ : ∃ y, w0.alloc (.cells (scC zeroSc) 26) = y := ⟨_, rfl⟩
        rw [hw10] at s10 t10 z10 kt10 ⊢
        obtain ⟨Tb, hTb⟩ : ∃ y, w0.heap.size = y := ⟨_, rfl⟩
        rw [hTb] at t10 z0 ⊢
        have zT : B + 2 ≤ Tb := z0
        clear hw10
        refine wpAnyH_ready (rs := [10]) (by kernel_rfl) (by simp) ?_
        refine AllReadyH.cons (o := ⟨some 16, _, _, _, _, none⟩) rfl (fun K hK => ?_) AllReadyH.nil
        go_simp
        refine hK.out _ _ s10 (fun _ => ?_)
        clear hK K
        try simp only [Act.put, List.setIfInBounds_toArray, List.set_cons_zero, List.set_cons_succ]
        refine wpAnyH_ready (rs := [11]) (by kernel_rfl) (by simp) ?_
        refine AllReadyH.cons (o := ⟨some 17, _, _, _, _, none⟩) rfl (fun K hK => ?_) AllReadyH.nil
        go_simp
        refine hK.out _ _ s10 (fun _ => ?_)
        clear hK K
        try simp only [Act.put, List.setIfInBounds_toArray, List.set_cons_zero, List.set_cons_succ]
        refine wpAnyH_take (i := 12) (oi := ⟨some 18, _, _, _, _, none⟩) (v := ?_) rfl (by kernel_rfl) (by kernel_rfl) (by kernel_rfl) (fun _ _ _ h => h) (Or.inl ⟨by rfl, ?_⟩) s10 ?_
        rotate_left
        · intro wq hSq
          first | (go_simp; done) | (go_simp; with_reducible rfl)
        try simp only [Act.put, List.setIfInBounds_toArray, List.set_cons_zero, List.set_cons_succ]
        refine wpAnyH_ready (rs := [13]) (by kernel_rfl) (by simp) ?_
        refine AllReadyH.cons (o := ⟨some 19, _, _, _, _, none⟩) rfl (fun K hK => ?_) AllReadyH.nil
        go_simp
        refine (CL _ (some x) pc kt10).mono ?_
        rintro e w11 ⟨v19, rfl, o19, hc⟩
        obtain ⟨a19, c19, hv19, hl19, kw11⟩ := own_kw o19
        subst hv19
        have ky11 := own_kty o19
        have s11 : (fun W' : World => W'.heap[B]? = some (.cells (scC s) 26 (0, 0)) ∧ W'.heap[B + 1]? = some (.cells (scC zeroSc) 26 (0, 0)) ∧ Ch [] w W') w11 := ⟨bkeep hc s10.1, bkeep hc s10.2.1, s10.2.2.trans hc⟩
        have z11 : B + 2 ≤ w11.heap.size := Nat.le_trans z10 hc.size
        have t11 := bkeep hc t10
        refine hK.out _ _ s11 (fun _ => ?_)
        clear hK K o19 hc hl19 s10
        try simp only [Act.put, List.setIfInBounds_toArray, List.set_cons_zero, List.set_cons_succ]
        refine wpAnyH_take (i := 14) (oi := ⟨some 20, _, _, _, _, none⟩) (v := ?_) rfl (by kernel_rfl) (by kernel_rfl) (by kernel_rfl) (fun _ _ _ h => h) (Or.inl ⟨by rfl, ?_⟩) s11 ?_
        rotate_left
        · intro wq hSq
          first | (go_simp; done) | (go_simp; with_reducible rfl)
        try simp only [Act.put, List.setIfInBounds_toArray, List.set_cons_zero, List.set_cons_succ]
        refine wpAnyH_ready (rs := [16]) (by kernel_rfl) (by simp) ?_
        refine AllReadyH.cons rfl (fun K hK => ?_) AllReadyH.nil
        go_simp
        have hTw : w.heap.size ≤ Tb := by have := HBE.out; omega
        have c12 : Ch [Tb] w11 (World.onObj w11 Tb (laidAt 0 #[I s.g, I s.sl, U s.sd, .slice none 0 0, .slice a19 pm c19])) := (Ch.refl _ _).onObj (.inl (by simp)) _
        have cw12 : Ch [] w (World.onObj w11 Tb (laidAt 0 #[I s.g, I s.sl, U s.sd, .slice none 0 0, .slice a19 pm c19])) := s11.2.2.onObj (.inr hTw) _
        have b12 : (World.onObj w11 Tb (laidAt 0 #[I s.g, I s.sl, U s.sd, .slice none 0 0, .slice a19 pm c19])).heap[B]? = some (.cells (scC s) 26 (0, 0)) := (c12.block B (Array.getElem?_eq_some_iff.1 s11.1).1 (by simp; omega)).trans s11.1
        have d12 : (World.onObj w11 Tb (laidAt 0 #[I s.g, I s.sl, U s.sd, .slice none 0 0, .slice a19 pm c19])).heap[B + 1]? = some (.cells (scC zeroSc) 26 (0, 0)) := (c12.block (B + 1) (Array.getElem?_eq_some_iff.1 s11.2.1).1 (by simp; omega)).trans s11.2.1
        have t12 : (World.onObj w11 Tb (laidAt 0 #[I s.g, I s.sl, U s.sd, .slice none 0 0, .slice a19 pm c19])).heap[Tb]? = some (.cells #[I s.g, I s.sl, U s.sd, .slice none 0 0, .slice a19 pm c19] 26 (0, 0)) := by rw [heap_onObj, if_pos rfl, t11]; rfl
        have kk12 : KW (World.onObj w11 Tb (laidAt 0 #[I s.g, I s.sl, U s.sd, .slice none 0 0, .slice a19 pm c19])) a19 (ps.take pm) ∧ KTy (World.onObj w11 Tb (laidAt 0 #[I s.g, I s.sl, U s.sd, .slice none 0 0, .slice a19 pm c19])) a19 := kw11.keepT ky11 c12 (fun t ht => by rw [List.mem_singleton.1 ht]; exact cells_type t11 (by decide))
        refine hK.out _ _ ⟨b12, d12, cw12⟩ (fun _ => ?_)
        have HFIN := Lib.hid (And.intro zT (And.intro t12 (And.intro kk12.1 (And.intro kk12.2 (And.intro b12 (And.intro d12 cw12))))))
        clear hK K s11 t11 kw11 c12 cw12 b12 d12 t12 kk12 ky11
        refine wpAnyH_done (by kernel_rfl) ?_ _
        go_wp2_with fail
        go_meet
        case rel => exact ⟨Tb, a19, c19, rfl, HFIN.out⟩
  case rest =>
    obtain ⟨Tb, a19, c19, rfl, hTb, hT, hK19, hY19, hB2, hD2, C2⟩ := hcut
    clear C hB hD hc0 hc1 hc2 hc4
    obtain ⟨n, hn⟩ : ∃ n, s.ls.length = n := ⟨_, rfl⟩
    rw [hn] at hc3
    have HN := Lib.hid hn
    have hn63 : n ≤ 9223372036854775807 := by rw [← hn]; exact HR.out.many.1
    obtain ⟨b0, hb0e⟩ : ∃ b, wc.heap.size = b := ⟨_, rfl⟩
    have hTb0 : Tb < b0 := by rw [← hb0e]; exact (Array.getElem?_eq_some_iff.1 hT).1
    have hwB : w.heap.size = B := HBE.out
    have REL := Lib.hid (And.intro hT (And.intro hK19 (And.intro hY19 (And.intro hB2 (And.intro hD2 C2)))))
    clear hT hK19 hY19 hB2 hD2 hn
    have hBB : wc.heap[B]? = some (.cells (scC s) 26 (0, 0)) := REL.out.2.2.2.1
    go_wp2
    clear hBB
    go_loopw [24] (fun i wr => OwnRel w s ps B b0 Tb pm n a19 c19 i wr) (fun i _ => n - (intOf i).toNat)
    case atStart => exact ⟨0, [], none, 0, rfl, by omega, rfl, World.ownsRow_nil _ _ _ _, fun x hx => (by cases hx), REL.out.1, REL.out.2.1, REL.out.2.2.1, REL.out.2.2.2.1, REL.out.2.2.2.2.1, REL.out.2.2.2.2.2, by omega⟩
    case round =>
      obtain ⟨j, ls', a3, c3, hi, hj, hls, hown, hnew, hTw, hKw, hYw, hBw, hDw, c1, hb0⟩ := hrel
      subst hi
      clear REL C2 hb0e
      rcases (show j = n ∨ j < n by omega) with rfl | hlt
      · rw [List.take_of_length_le (l := s.ls) (by have := HN.out; omega)] at hls
        obtain ⟨ln, hln⟩ : ∃ k, ls'.length = k := ⟨_, rfl⟩
        rw [hln] at hown hTw
        have HFIN := Lib.hid (And.intro hls (And.intro hown (And.intro hnew (And.intro hKw (And.intro hYw (And.intro c1 hln))))))
        clear hls hown hnew hKw hYw hln
        go_wp2
        have cE : Ch [B + 1] wr (World.onObj wr (B + 1) (laidAt 0 #[I s.g, I s.sl, U s.sd, .slice a3 ln c3, .slice a19 pm c19])) := (Ch.refl _ _).onObj (.inl (by simp)) _
        have hq : (World.onObj wr (B + 1) (laidAt 0 #[I s.g, I s.sl, U s.sd, .slice a3 ln c3, .slice a19 pm c19])).heap[B + 1]? = some (.cells #[I s.g, I s.sl, U s.sd, .slice a3 ln c3, .slice a19 pm c19] 26 (0, 0)) := by
          rw [heap_onObj, if_pos rfl, hDw]; rfl
        obtain ⟨s', e1, e2, e3⟩ := own_end (w' := World.onObj wr (B + 1) (laidAt 0 #[I s.g, I s.sl, U s.sd, .slice a3 ln c3, .slice a19 pm c19])) HFIN.out.1 HFIN.out.2.2.2.2.2.2 HFIN.out.2.1 HFIN.out.2.2.1 HFIN.out.2.2.2.1 HFIN.out.2.2.2.2.1 HPN.out.2.1 HPN.out.2.2 hDw hwB (by omega) HFIN.out.2.2.2.2.2.1 cE
        rw [e1] at hq e2 e3
        rw [e1]
        clear hTw hBw hDw cE
        exact bodyPost_ret (v := .agg (scC s')) (results_cellB1 Tryz.results5 _ _ _ rfl (run_loadVar_row _ _ 26 26 (scC s') (0, 0) _ hq Tryz.underlying26 rfl (by rw [scC_size]; kernel_rfl))) rfl ⟨s', rfl, e2, e3⟩
      · obtain ⟨sx, hs⟩ : ∃ y, s.ls[j]? = some y := ⟨_, List.getElem?_eq_getElem (by have := HN.out; omega)⟩
        obtain ⟨L, o, hla, hLA⟩ : ∃ L o, s.la = some (L, o) ∧ ListsAt w L o s.ls := by
          rcases HR.out.lists with ⟨_, h0⟩ | h
          · rw [h0] at hs; cases hs
          · exact h
        have hmem := List.mem_of_getElem? hs
        obtain ⟨hcap1, hcap2⟩ := HR.out.caps sx hmem
        have hcap3 := HR.out.many.2 sx hmem
        have hcell := ((hLA.ch c1) j sx hs).1
        have hrow := ((hLA.ch c1) j sx hs).2
        rw [cell_heap] at hcell
        have hla2 : adr s.la = some ⟨L, o, none⟩ := by rw [hla]; rfl
        clear hla
        have hjn : (j : Int) < n := by omega
        have hc3' : (scC s)[3]? = some (.slice (some ⟨L, o, none⟩) n s.lc) := by rw [← hla2]; exact hc3
        have hln : ∃ ln, ls'.length = ln := ⟨_, rfl⟩
        obtain ⟨ln, hln⟩ := hln
        rcases (show 10 ≤ j ∨ j < 10 by omega) with h10 | h10
        · have HE := Lib.hid (own_skip hlt h10 hls hown hnew hTw hKw hYw hBw hDw c1 hb0)
          have d10 : decide ((j : Int) < 10) = false := by simp; omega
          clear hls hown hnew hTw hKw hYw hDw hrow hln
          go_wp2
          go_roundw
          case rel => exact HE.out
          case measure => simp [intOf]; omega
        · obtain ⟨mm, hmm⟩ : ∃ k, (sx.l.take 66).length = k := ⟨_, rfl⟩
          have hlb : ls'.length = ln := hln
          have hlsl : ln ≤ 10 := by
            have h := congrArg List.length hls
            simp only [List.length_map, List.length_take] at h
            omega
          rw [hln] at hown hTw
          have STEP := Lib.hid (fun wp w4 w5 (ac : Option Addr) (cc : Nat) (a4 : Option Addr) (c4 : Nat) => own_step (w := w) (wp := wp) (w4 := w4) (w5 := w5) (ac := ac) (cc := cc) (a4 := a4) (c4 := c4) hlt h10 hs hTb hTb0 hln hls hnew hTw hKw hYw hBw hDw hb0 hmm)
          have HO := Lib.hid hown
          have HRA := Lib.hid (hrow.take 66)
          have hm66 : mm ≤ 66 := by rw [← hmm, List.length_take]; omega
          have CC := Lib.hid (fun (w2 : World) a c (h : RowAt w2 a (sx.l.take 66)) => cloneC_any a mm c (sx.l.take 66) hmm (by omega) w2 h)
          have d10 : decide ((j : Int) < 10) = true := by simp; omega
          obtain ⟨sa, hsa⟩ : ∃ x, sx.a = x := ⟨_, rfl⟩
          obtain ⟨sn, hsn⟩ : ∃ x, sx.l.length = x := ⟨_, rfl⟩
          obtain ⟨sc, hsc⟩ : ∃ x, sx.c = x := ⟨_, rfl⟩
          have hcell' : (wr.heap[L]?).bind (cellAt (o + j)) = some (.slice sa sn sc) := by rw [← hsa, ← hsn, ← hsc]; exact hcell
          rw [List.length_take, hsn] at hmm
          have emm : min (sn : Int) 66 = mm := by omega
          have HLT := Lib.hid (show (sx.l.take 66).length = mm by rw [List.length_take, hsn]; exact hmm)
          rw [hsn, hsc] at hcap1
          rw [hsa, hsc] at hcap2
          rw [hsc] at hcap3
          rw [hsa] at HRA
          have hms : mm ≤ sn := by omega
          clear hls hown hnew hKw hYw hDw hrow hln hcell hsa hsn hsc hmm hlb hmem
          rcases (show sa = none ∨ ∃ x, sa = some x by cases sa with | none => exact .inl rfl | some x => exact .inr ⟨x, rfl⟩) with hp0 | ⟨x, hp0⟩
          · subst hp0
            have hq0 : sc = 0 := hcap2 rfl
            have hq1 : sn = 0 := by omega
            have hq2 : mm = 0 := by omega
            subst hq0 hq1 hq2
            have e0 : min (0 : Int) 66 = 0 := by omega
            clear hcap2
            go_upto_region 6 with (fail)
            have s60 : (fun W' : World => Ch [] w W') wr.drew := c1.drew
            have t60 : wr.drew.heap[Tb]? = some (.cells #[I s.g, I s.sl, U s.sd, .slice a3 ln c3, .slice a19 pm c19] 26 (0, 0)) := hTw
            have cr60 : Ch [] wr wr.drew := (Ch.refl _ _).drew
            refine wp_region_held_drew (S := fun W' : World => Ch [] w W') (by kernel_rfl) s60 ?_
            intro _
            simp only [List.size_toArray, List.length_cons, List.length_nil, Nat.reduceAdd]
            generalize wr.drew = w60 at *
            refine wpAnyH_take (i := 0) (oi := ⟨some 31, _, _, _, _, none⟩) (v := ?_) rfl (by kernel_rfl) (by kernel_rfl) (by kernel_rfl) (fun _ _ _ h => h) (Or.inl ⟨by rfl, ?_⟩) s60 ?_
            rotate_left
            · intro wq hSq
              first | (go_simp; done) | (go_simp; with_reducible rfl)
            try simp only [Act.put, List.setIfInBounds_toArray, List.set_cons_zero, List.set_cons_succ]
            refine wpAnyH_take (i := 2) (oi := ⟨some 33, _, _, _, _, none⟩) (v := ?_) rfl (by kernel_rfl) (by kernel_rfl) (by kernel_rfl) (fun _ _ _ h => h) (Or.inl ⟨by rfl, ?_⟩) s60 ?_
            rotate_left
            · intro wq hSq
              first | (go_simp; done) | (go_simp; with_reducible rfl)
            try simp only [Act.put, List.setIfInBounds_toArray, List.set_cons_zero, List.set_cons_succ]
            refine wpAnyH_take (i := 3) (oi := ⟨some 34, _, _, _, _, none⟩) (v := ?_) rfl (by kernel_rfl) (by kernel_rfl) (by kernel_rfl) (fun _ _ _ h => h) (Or.inl ⟨by rfl, ?_⟩) s60 ?_
            rotate_left
            · intro wq hSq
              first | (go_simp; done) | (go_simp; with_reducible rfl)
            try simp only [Act.put, List.setIfInBounds_toArray, List.set_cons_zero, List.set_cons_succ]
            refine wpAnyH_ready (rs := [1, 4]) (by kernel_rfl) (by simp) ?_
            refine AllReadyH.cons (o := ⟨some 32, _, _, _, _, none⟩) rfl (fun K hK => ?_) (AllReadyH.cons (o := ⟨some 35, _, _, _, _, none⟩) rfl (fun K hK => ?_) AllReadyH.nil)
            · go_simp
              refine hK.out _ _ s60 (fun _ => ?_)
              clear hK K
              try simp only [Act.put, List.setIfInBounds_toArray, List.set_cons_zero, List.set_cons_succ]
              refine wpAnyH_ready (rs := [4]) (by kernel_rfl) (by simp) ?_
              refine AllReadyH.cons (o := ⟨some 35, _, _, _, _, none⟩) rfl (fun K hK => ?_) AllReadyH.nil
              go_simp
              refine hK.out _ _ s60 (fun _ => ?_)
              clear hK K
              try simp only [Act.put, List.setIfInBounds_toArray, List.set_cons_zero, List.set_cons_succ]
              refine wpAnyH_ready (rs := [5]) (by kernel_rfl) (by simp) ?_
              refine AllReadyH.cons (o := ⟨some 36, _, _, _, _, none⟩) rfl (fun K hK => ?_) AllReadyH.nil
              go_simp
              refine hK.out _ _ s60 (fun _ => ?_)
              clear hK K
              try simp only [Act.put, List.setIfInBounds_toArray, List.set_cons_zero, List.set_cons_succ]
              refine wpAnyH_take (i := 6) (oi := ⟨some 37, _, _, _, _, none⟩) (v := ?_) rfl (by kernel_rfl) (by kernel_rfl) (by kernel_rfl) (fun _ _ _ h => h) (Or.inl ⟨by rfl, ?_⟩) s60 ?_
              rotate_left
              · intro wq hSq
                first | (go_simp; done) | (go_simp; with_reducible rfl)
              try simp only [Act.put, List.setIfInBounds_toArray, List.set_cons_zero, List.set_cons_succ]
              refine wpAnyH_ready (rs := [7]) (by kernel_rfl) (by simp) ?_
              refine AllReadyH.cons (o := ⟨some 38, _, _, _, _, none⟩) rfl (fun K hK => ?_) AllReadyH.nil
              go_simp
              refine (CC.out _ none 0 (HRA.out.ch cr60)).mono ?_
              rintro e w61 ⟨vc, rfl, oc, hc⟩
              obtain ⟨ac, cc, hvc, hnc⟩ := own_new HLT.out oc
              subst hvc
              have s61 : (fun W' : World => Ch [] w W') w61 := s60.trans hc
              have t61 := bkeep hc t60
              have cr61 := cr60.trans hc
              refine hK.out _ _ s61 (fun _ => ?_)
              have HNC61 := Lib.hid hnc
              clear hK K oc hc s60 t60 cr60 hnc
              try simp only [Act.put, List.setIfInBounds_toArray, List.set_cons_zero, List.set_cons_succ]
              refine wpAnyH_ready (rs := [8]) (by kernel_rfl) (by simp) ?_
              refine AllReadyH.cons (o := ⟨some 39, _, _, _, _, none⟩) rfl (fun K hK => ?_) AllReadyH.nil
              go_simp
              have c62 : Ch [] w61 (w61.alloc (.cells #[.slice ac 0 cc] 45)) := (Ch.refl _ _).alloc _
              have s62 : (fun W' : World => Ch [] w W') (w61.alloc (.cells #[.slice ac 0 cc] 45)) := s61.trans c62
              have t62 := bkeep c62 t61
              have cr62 := cr61.trans c62
              have hb62 : b0 ≤ w61.heap.size := Nat.le_trans hb0 cr61.size
              obtain ⟨v4, w4, hrun, ho4, hch⟩ := append_list w61 b0 _ ln _ (own_keep HO.out cr61 (by simp)) ac 0 cc (by omega) hb62
              have hty := own_type (own_keep HO.out cr61 (by simp))
              have hblk := own_blk HO.out
              refine hK.out _ _ s62 (fun _ => ?_)
              have HAP := Lib.hid (And.intro ho4 (And.intro hch (And.intro hty hblk)))
              have HNCP := Lib.hid (And.intro HNC61.out (And.intro cr61 (And.intro s61 t61)))
              clear hK K c62 hb62 ho4 hch hty hblk
              try simp only [Act.put, List.setIfInBounds_toArray, List.set_cons_zero, List.set_cons_succ]
              obtain ⟨w62, hw62⟩ : ∃ y, (w61.alloc (.cells #[.slice ac 0 cc] 45)) = y := ⟨_, rfl⟩
              rw [hw62] at s62 t62 cr62 hrun ⊢
              obtain ⟨Kb, hKb⟩ : ∃ y, w61.heap.size = y := ⟨_, rfl⟩
              rw [hKb] at hrun ⊢
              clear hw62
              obtain ⟨a4, c4, hv4⟩ := own_val HAP.out.1
              subst hv4
              have hbT : ∀ t ∈ (match (Value.slice a3 ln c3).ownBlock with | some b => [b] | none => []), t ≠ Tb := fun t ht => by have := HAP.out.2.2.2 t ht; omega
              have t4 : w4.heap[Tb]? = some (.cells #[I s.g, I s.sl, U s.sd, .slice a3 ln c3, .slice a19 pm c19] 26 (0, 0)) := (HAP.out.2.1.block Tb (Array.getElem?_eq_some_iff.1 HNCP.out.2.2.2).1 (fun h => hbT Tb h rfl)).trans HNCP.out.2.2.2
              have s4 : Ch [] w w4 := HNCP.out.2.2.1.trans2 HAP.out.2.1 (fun t ht => .inr (by have := HAP.out.2.2.2 t ht; omega))
              refine wpAnyH_ready (rs := [9]) (by kernel_rfl) (by simp) ?_
              refine AllReadyH.cons (o := ⟨some 40, _, _, _, _, none⟩) rfl (fun K hK => ?_) AllReadyH.nil
              rw [if_pos (by kernel_rfl)]
              refine Lib.wp_append_run _ (.tmp 32) (.tmp 39) 23 23 rfl (.slice a3 ln c3) (.slice (some ⟨Kb, 0, none⟩) 1 1) (by kernel_rfl) (by kernel_rfl) _ _ hrun ?_
              refine hK.out _ _ s4 (fun _ => ?_)
              clear hK K hrun s62 t62 cr62
              try simp only [Act.put, List.setIfInBounds_toArray, List.set_cons_zero, List.set_cons_succ]
              refine wpAnyH_take (i := 10) (oi := ⟨some 41, _, _, _, _, none⟩) (v := ?_) rfl (by kernel_rfl) (by kernel_rfl) (by kernel_rfl) (fun _ _ _ h => h) (Or.inl ⟨by rfl, ?_⟩) s4 ?_
              rotate_left
              · intro wq hSq
                first | (go_simp; done) | (go_simp; with_reducible rfl)
              try simp only [Act.put, List.setIfInBounds_toArray, List.set_cons_zero, List.set_cons_succ]
              refine wpAnyH_ready (rs := [11]) (by kernel_rfl) (by simp) ?_
              refine AllReadyH.cons rfl (fun K hK => ?_) AllReadyH.nil
              go_simp
              have cS : Ch [Tb] w4 (w4.setCell ⟨Tb, 3, none⟩ (.slice a4 (ln + 1) c4)) := (Ch.refl _ _).setCell (.inl (by simp)) _
              have s5 : Ch [] w (w4.setCell ⟨Tb, 3, none⟩ (.slice a4 (ln + 1) c4)) := s4.setCell (.inr (by show w.heap.size ≤ Tb; omega)) _
              have t5 : (w4.setCell ⟨Tb, 3, none⟩ (.slice a4 (ln + 1) c4)).heap[Tb]? = some (.cells #[I s.g, I s.sl, U s.sd, .slice a4 (ln + 1) c4, .slice a19 pm c19] 26 (0, 0)) := by rw [heap_setCell, if_pos rfl, t4]; rfl
              refine hK.out _ _ s5 (fun _ => ?_)
              have HE := Lib.hid (STEP.out w61 w4 _ ac cc a4 c4 HNCP.out.1 HNCP.out.2.1 HAP.out.1 HAP.out.2.1 HAP.out.2.2.1 HAP.out.2.2.2 t4 cS t5 s5)
              clear hK K cS s5 t5 s4 t4 hbT
              refine wpAnyH_done (by kernel_rfl) ?_ _
              go_wp2
              go_roundw
              case rel => exact ⟨_, _, _, HE.out, rfl, rfl, rfl⟩
              case measure => simp [intOf]; omega
            · go_simp
              refine hK.out _ _ s60 (fun _ => ?_)
              clear hK K
              try simp only [Act.put, List.setIfInBounds_toArray, List.set_cons_zero, List.set_cons_succ]
              refine wpAnyH_ready (rs := [1, 5]) (by kernel_rfl) (by simp) ?_
              refine AllReadyH.cons (o := ⟨some 32, _, _, _, _, none⟩) rfl (fun K hK => ?_) (AllReadyH.cons (o := ⟨some 36, _, _, _, _, none⟩) rfl (fun K hK => ?_) AllReadyH.nil)
              · go_simp
                refine hK.out _ _ s60 (fun _ => ?_)
                clear hK K
                try simp only [Act.put, List.setIfInBounds_toArray, List.set_cons_zero, List.set_cons_succ]
                refine wpAnyH_ready (rs := [5]) (by kernel_rfl) (by simp) ?_
                refine AllReadyH.cons (o := ⟨some 36, _, _, _, _, none⟩) rfl (fun K hK => ?_) AllReadyH.nil
                go_simp
                refine hK.out _ _ s60 (fun _ => ?_)
                clear hK K
                try simp only [Act.put, List.setIfInBounds_toArray, List.set_cons_zero, List.set_cons_succ]
                refine wpAnyH_take (i := 6) (oi := ⟨some 37, _, _, _, _, none⟩) (v := ?_) rfl (by kernel_rfl) (by kernel_rfl) (by kernel_rfl) (fun _ _ _ h => h) (Or.inl ⟨by rfl, ?_⟩) s60 ?_
                rotate_left
                · intro wq hSq
                  first | (go_simp; done) | (go_simp; with_reducible rfl)
                try simp only [Act.put, List.setIfInBounds_toArray, List.set_cons_zero, List.set_cons_succ]
                refine wpAnyH_ready (rs := [7]) (by kernel_rfl) (by simp) ?_
                refine AllReadyH.cons (o := ⟨some 38, _, _, _, _, none⟩) rfl (fun K hK => ?_) AllReadyH.nil
                go_simp
                refine (CC.out _ none 0 (HRA.out.ch cr60)).mono ?_
                rintro e w63 ⟨vc, rfl, oc, hc⟩
                obtain ⟨ac, cc, hvc, hnc⟩ := own_new HLT.out oc
                subst hvc
                have s63 : (fun W' : World => Ch [] w W') w63 := s60.trans hc
                have t63 := bkeep hc t60
                have cr63 := cr60.trans hc
                refine hK.out _ _ s63 (fun _ => ?_)
                have HNC63 := Lib.hid hnc
                clear hK K oc hc s60 t60 cr60 hnc
                try simp only [Act.put, List.setIfInBounds_toArray, List.set_cons_zero, List.set_cons_succ]
                refine wpAnyH_ready (rs := [8]) (by kernel_rfl) (by simp) ?_
                refine AllReadyH.cons (o := ⟨some 39, _, _, _, _, none⟩) rfl (fun K hK => ?_) AllReadyH.nil
                go_simp
                have c64 : Ch [] w63 (w63.alloc (.cells #[.slice ac 0 cc] 45)) := (Ch.refl _ _).alloc _
                have s64 : (fun W' : World => Ch [] w W') (w63.alloc (.cells #[.slice ac 0 cc] 45)) := s63.trans c64
                have t64 := bkeep c64 t63
                have cr64 := cr63.trans c64
                have hb64 : b0 ≤ w63.heap.size := Nat.le_trans hb0 cr63.size
                obtain ⟨v4, w4, hrun, ho4, hch⟩ := append_list w63 b0 _ ln _ (own_keep HO.out cr63 (by simp)) ac 0 cc (by omega) hb64
                have hty := own_type (own_keep HO.out cr63 (by simp))
                have hblk := own_blk HO.out
                refine hK.out _ _ s64 (fun _ => ?_)
                have HAP := Lib.hid (And.intro ho4 (And.intro hch (And.intro hty hblk)))
                have HNCP := Lib.hid (And.intro HNC63.out (And.intro cr63 (And.intro s63 t63)))
                clear hK K c64 hb64 ho4 hch hty hblk
                try simp only [Act.put, List.setIfInBounds_toArray, List.set_cons_zero, List.set_cons_succ]
                obtain ⟨w64, hw64⟩ : ∃ y, (w63.alloc (.cells #[.slice ac 0 cc] 45)) = y := ⟨_, rfl⟩
                rw [hw64] at s64 t64 cr64 hrun ⊢
                obtain ⟨Kb, hKb⟩ : ∃ y, w63.heap.size = y := ⟨_, rfl⟩
                rw [hKb] at hrun ⊢
                clear hw64
                obtain ⟨a4, c4, hv4⟩ := own_val HAP.out.1
                subst hv4
                have hbT : ∀ t ∈ (match (Value.slice a3 ln c3).ownBlock with | some b => [b] | none => []), t ≠ Tb := fun t ht => by have := HAP.out.2.2.2 t ht; omega
                have t4 : w4.heap[Tb]? = some (.cells #[I s.g, I s.sl, U s.sd, .slice a3 ln c3, .slice a19 pm c19] 26 (0, 0)) := (HAP.out.2.1.block Tb (Array.getElem?_eq_some_iff.1 HNCP.out.2.2.2).1 (fun h => hbT Tb h rfl)).trans HNCP.out.2.2.2
                have s4 : Ch [] w w4 := HNCP.out.2.2.1.trans2 HAP.out.2.1 (fun t ht => .inr (by have := HAP.out.2.2.2 t ht; omega))
                refine wpAnyH_ready (rs := [9]) (by kernel_rfl) (by simp) ?_
                refine AllReadyH.cons (o := ⟨some 40, _, _, _, _, none⟩) rfl (fun K hK => ?_) AllReadyH.nil
                rw [if_pos (by kernel_rfl)]
                refine Lib.wp_append_run _ (.tmp 32) (.tmp 39) 23 23 rfl (.slice a3 ln c3) (.slice (some ⟨Kb, 0, none⟩) 1 1) (by kernel_rfl) (by kernel_rfl) _ _ hrun ?_
                refine hK.out _ _ s4 (fun _ => ?_)
                clear hK K hrun s64 t64 cr64
                try simp only [Act.put, List.setIfInBounds_toArray, List.set_cons_zero, List.set_cons_succ]
                refine wpAnyH_take (i := 10) (oi := ⟨some 41, _, _, _, _, none⟩) (v := ?_) rfl (by kernel_rfl) (by kernel_rfl) (by kernel_rfl) (fun _ _ _ h => h) (Or.inl ⟨by rfl, ?_⟩) s4 ?_
                rotate_left
                · intro wq hSq
                  first | (go_simp; done) | (go_simp; with_reducible rfl)
                try simp only [Act.put, List.setIfInBounds_toArray, List.set_cons_zero, List.set_cons_succ]
                refine wpAnyH_ready (rs := [11]) (by kernel_rfl) (by simp) ?_
                refine AllReadyH.cons rfl (fun K hK => ?_) AllReadyH.nil
                go_simp
                have cS : Ch [Tb] w4 (w4.setCell ⟨Tb, 3, none⟩ (.slice a4 (ln + 1) c4)) := (Ch.refl _ _).setCell (.inl (by simp)) _
                have s5 : Ch [] w (w4.setCell ⟨Tb, 3, none⟩ (.slice a4 (ln + 1) c4)) := s4.setCell (.inr (by show w.heap.size ≤ Tb; omega)) _
                have t5 : (w4.setCell ⟨Tb, 3, none⟩ (.slice a4 (ln + 1) c4)).heap[Tb]? = some (.cells #[I s.g, I s.sl, U s.sd, .slice a4 (ln + 1) c4, .slice a19 pm c19] 26 (0, 0)) := by rw [heap_setCell, if_pos rfl, t4]; rfl
                refine hK.out _ _ s5 (fun _ => ?_)
                have HE := Lib.hid (STEP.out w63 w4 _ ac cc a4 c4 HNCP.out.1 HNCP.out.2.1 HAP.out.1 HAP.out.2.1 HAP.out.2.2.1 HAP.out.2.2.2 t4 cS t5 s5)
                clear hK K cS s5 t5 s4 t4 hbT
                refine wpAnyH_done (by kernel_rfl) ?_ _
                go_wp2
                go_roundw
                case rel => exact ⟨_, _, _, HE.out, rfl, rfl, rfl⟩
                case measure => simp [intOf]; omega
              · go_simp
                refine hK.out _ _ s60 (fun _ => ?_)
                clear hK K
                try simp only [Act.put, List.setIfInBounds_toArray, List.set_cons_zero, List.set_cons_succ]
                refine wpAnyH_take (i := 6) (oi := ⟨some 37, _, _, _, _, none⟩) (v := ?_) rfl (by kernel_rfl) (by kernel_rfl) (by kernel_rfl) (fun _ _ _ h => h) (Or.inl ⟨by rfl, ?_⟩) s60 ?_
                rotate_left
                · intro wq hSq
                  first | (go_simp; done) | (go_simp; with_reducible rfl)
                try simp only [Act.put, List.setIfInBounds_toArray, List.set_cons_zero, List.set_cons_succ]
                refine wpAnyH_ready (rs := [1, 7]) (by kernel_rfl) (by simp) ?_
                refine AllReadyH.cons (o := ⟨some 32, _, _, _, _, none⟩) rfl (fun K hK => ?_) (AllReadyH.cons (o := ⟨some 38, _, _, _, _, none⟩) rfl (fun K hK => ?_) AllReadyH.nil)
                · go_simp
                  refine hK.out _ _ s60 (fun _ => ?_)
                  clear hK K
                  try simp only [Act.put, List.setIfInBounds_toArray, List.set_cons_zero, List.set_cons_succ]
                  refine wpAnyH_ready (rs := [7]) (by kernel_rfl) (by simp) ?_
                  refine AllReadyH.cons (o := ⟨some 38, _, _, _, _, none⟩) rfl (fun K hK => ?_) AllReadyH.nil
                  go_simp
                  refine (CC.out _ none 0 (HRA.out.ch cr60)).mono ?_
                  rintro e w65 ⟨vc, rfl, oc, hc⟩
                  obtain ⟨ac, cc, hvc, hnc⟩ := own_new HLT.out oc
                  subst hvc
                  have s65 : (fun W' : World => Ch [] w W') w65 := s60.trans hc
                  have t65 := bkeep hc t60
                  have cr65 := cr60.trans hc
                  refine hK.out _ _ s65 (fun _ => ?_)
                  have HNC65 := Lib.hid hnc
                  clear hK K oc hc s60 t60 cr60 hnc
                  try simp only [Act.put, List.setIfInBounds_toArray, List.set_cons_zero, List.set_cons_succ]
                  refine wpAnyH_ready (rs := [8]) (by kernel_rfl) (by simp) ?_
                  refine AllReadyH.cons (o := ⟨some 39, _, _, _, _, none⟩) rfl (fun K hK => ?_) AllReadyH.nil
                  go_simp
                  have c66 : Ch [] w65 (w65.alloc (.cells #[.slice ac 0 cc] 45)) := (Ch.refl _ _).alloc _
                  have s66 : (fun W' : World => Ch [] w W') (w65.alloc (.cells #[.slice ac 0 cc] 45)) := s65.trans c66
                  have t66 := bkeep c66 t65
                  have cr66 := cr65.trans c66
                  have hb66 : b0 ≤ w65.heap.size := Nat.le_trans hb0 cr65.size
                  obtain ⟨v4, w4, hrun, ho4, hch⟩ := append_list w65 b0 _ ln _ (own_keep HO.out cr65 (by simp)) ac 0 cc (by omega) hb66
                  have hty := own_type (own_keep HO.out cr65 (by simp))
                  have hblk := own_blk HO.out
                  refine hK.out _ _ s66 (fun _ => ?_)
                  have HAP := Lib.hid (And.intro ho4 (And.intro hch (And.intro hty hblk)))
                  have HNCP := Lib.hid (And.intro HNC65.out (And.intro cr65 (And.intro s65 t65)))
                  clear hK K c66 hb66 ho4 hch hty hblk
                  try simp only [Act.put, List.setIfInBounds_toArray, List.set_cons_zero, List.set_cons_succ]
                  obtain ⟨w66, hw66⟩ : ∃ y, (w65.alloc (.cells #[.slice ac 0 cc] 45)) = y := ⟨_, rfl⟩
                  rw [hw66] at s66 t66 cr66 hrun ⊢
                  obtain ⟨Kb, hKb⟩ : ∃ y, w65.heap.size = y := ⟨_, rfl⟩
                  rw [hKb] at hrun ⊢
                  clear hw66
                  obtain ⟨a4, c4, hv4⟩ := own_val HAP.out.1
                  subst hv4
                  have hbT : ∀ t ∈ (match (Value.slice a3 ln c3).ownBlock with | some b => [b] | none => []), t ≠ Tb := fun t ht => by have := HAP.out.2.2.2 t ht; omega
                  have t4 : w4.heap[Tb]? = some (.cells #[I s.g, I s.sl, U s.sd, .slice a3 ln c3, .slice a19 pm c19] 26 (0, 0)) := (HAP.out.2.1.block Tb (Array.getElem?_eq_some_iff.1 HNCP.out.2.2.2).1 (fun h => hbT Tb h rfl)).trans HNCP.out.2.2.2
                  have s4 : Ch [] w w4 := HNCP.out.2.2.1.trans2 HAP.out.2.1 (fun t ht => .inr (by have := HAP.out.2.2.2 t ht; omega))
                  refine wpAnyH_ready (rs := [9]) (by kernel_rfl) (by simp) ?_
                  refine AllReadyH.cons (o := ⟨some 40, _, _, _, _, none⟩) rfl (fun K hK => ?_) AllReadyH.nil
                  rw [if_pos (by kernel_rfl)]
                  refine Lib.wp_append_run _ (.tmp 32) (.tmp 39) 23 23 rfl (.slice a3 ln c3) (.slice (some ⟨Kb, 0, none⟩) 1 1) (by kernel_rfl) (by kernel_rfl) _ _ hrun ?_
                  refine hK.out _ _ s4 (fun _ => ?_)
                  clear hK K hrun s66 t66 cr66
                  try simp only [Act.put, List.setIfInBounds_toArray, List.set_cons_zero, List.set_cons_succ]
                  refine wpAnyH_take (i := 10) (oi := ⟨some 41, _, _, _, _, none⟩) (v := ?_) rfl (by kernel_rfl) (by kernel_rfl) (by kernel_rfl) (fun _ _ _ h => h) (Or.inl ⟨by rfl, ?_⟩) s4 ?_
                  rotate_left
                  · intro wq hSq
                    first | (go_simp; done) | (go_simp; with_reducible rfl)
                  try simp only [Act.put, List.setIfInBounds_toArray, List.set_cons_zero, List.set_cons_succ]
                  refine wpAnyH_ready (rs := [11]) (by kernel_rfl) (by simp) ?_
                  refine AllReadyH.cons rfl (fun K hK => ?_) AllReadyH.nil
                  go_simp
                  have cS : Ch [Tb] w4 (w4.setCell ⟨Tb, 3, none⟩ (.slice a4 (ln + 1) c4)) := (Ch.refl _ _).setCell (.inl (by simp)) _
                  have s5 : Ch [] w (w4.setCell ⟨Tb, 3, none⟩ (.slice a4 (ln + 1) c4)) := s4.setCell (.inr (by show w.heap.size ≤ Tb; omega)) _
                  have t5 : (w4.setCell ⟨Tb, 3, none⟩ (.slice a4 (ln + 1) c4)).heap[Tb]? = some (.cells #[I s.g, I s.sl, U s.sd, .slice a4 (ln + 1) c4, .slice a19 pm c19] 26 (0, 0)) := by rw [heap_setCell, if_pos rfl, t4]; rfl
                  refine hK.out _ _ s5 (fun _ => ?_)
                  have HE := Lib.hid (STEP.out w65 w4 _ ac cc a4 c4 HNCP.out.1 HNCP.out.2.1 HAP.out.1 HAP.out.2.1 HAP.out.2.2.1 HAP.out.2.2.2 t4 cS t5 s5)
                  clear hK K cS s5 t5 s4 t4 hbT
                  refine wpAnyH_done (by kernel_rfl) ?_ _
                  go_wp2
                  go_roundw
                  case rel => exact ⟨_, _, _, HE.out, rfl, rfl, rfl⟩
                  case measure => simp [intOf]; omega
                · go_simp
                  refine (CC.out _ none 0 (HRA.out.ch cr60)).mono ?_
                  rintro e w67 ⟨vc, rfl, oc, hc⟩
                  obtain ⟨ac, cc, hvc, hnc⟩ := own_new HLT.out oc
                  subst hvc
                  have s67 : (fun W' : World => Ch [] w W') w67 := s60.trans hc
                  have t67 := bkeep hc t60
                  have cr67 := cr60.trans hc
                  refine hK.out _ _ s67 (fun _ => ?_)
                  have HNC67 := Lib.hid hnc
                  clear hK K oc hc s60 t60 cr60 hnc
                  try simp only [Act.put, List.setIfInBounds_toArray, List.set_cons_zero, List.set_cons_succ]
                  refine wpAnyH_ready (rs := [1, 8]) (by kernel_rfl) (by simp) ?_
                  refine AllReadyH.cons (o := ⟨some 32, _, _, _, _, none⟩) rfl (fun K hK => ?_) (AllReadyH.cons (o := ⟨some 39, _, _, _, _, none⟩) rfl (fun K hK => ?_) AllReadyH.nil)
                  · go_simp
                    refine hK.out _ _ s67 (fun _ => ?_)
                    clear hK K
                    try simp only [Act.put, List.setIfInBounds_toArray, List.set_cons_zero, List.set_cons_succ]
                    refine wpAnyH_ready (rs := [8]) (by kernel_rfl) (by simp) ?_
                    refine AllReadyH.cons (o := ⟨some 39, _, _, _, _, none⟩) rfl (fun K hK => ?_) AllReadyH.nil
                    go_simp
                    have c68 : Ch [] w67 (w67.alloc (.cells #[.slice ac 0 cc] 45)) := (Ch.refl _ _).alloc _
                    have s68 : (fun W' : World => Ch [] w W') (w67.alloc (.cells #[.slice ac 0 cc] 45)) := s67.trans c68
                    have t68 := bkeep c68 t67
                    have cr68 := cr67.trans c68
                    have hb68 : b0 ≤ w67.heap.size := Nat.le_trans hb0 cr67.size
                    obtain ⟨v4, w4, hrun, ho4, hch⟩ := append_list w67 b0 _ ln _ (own_keep HO.out cr67 (by simp)) ac 0 cc (by omega) hb68
                    have hty := own_type (own_keep HO.out cr67 (by simp))
                    have hblk := own_blk HO.out
                    refine hK.out _ _ s68 (fun _ => ?_)
                    have HAP := Lib.hid (And.intro ho4 (And.intro hch (And.intro hty hblk)))
                    have HNCP := Lib.hid (And.intro HNC67.out (And.intro cr67 (And.intro s67 t67)))
                    clear hK K c68 hb68 ho4 hch hty hblk
                    try simp only [Act.put, List.setIfInBounds_toArray, List.set_cons_zero, List.set_cons_succ]
                    obtain ⟨w68, hw68⟩ : ∃ y, (w67.alloc (.cells #[.slice ac 0 cc] 45)) = y := ⟨_, rfl⟩
                    rw [hw68] at s68 t68 cr68 hrun ⊢
                    obtain ⟨Kb, hKb⟩ : ∃ y, w67.heap.size = y := ⟨_, rfl⟩
                    rw [hKb] at hrun ⊢
                    clear hw68
                    obtain ⟨a4, c4, hv4⟩ := own_val HAP.out.1
                    subst hv4
                    have hbT : ∀ t ∈ (match (Value.slice a3 ln c3).ownBlock with | some b => [b] | none => []), t ≠ Tb := fun t ht => by have := HAP.out.2.2.2 t ht; omega
                    have t4 : w4.heap[Tb]? = some (.cells #[I s.g, I s.sl, U s.sd, .slice a3 ln c3, .slice a19 pm c19] 26 (0, 0)) := (HAP.out.2.1.block Tb (Array.getElem?_eq_some_iff.1 HNCP.out.2.2.2).1 (fun h => hbT Tb h rfl)).trans HNCP.out.2.2.2
                    have s4 : Ch [] w w4 := HNCP.out.2.2.1.trans2 HAP.out.2.1 (fun t ht => .inr (by have := HAP.out.2.2.2 t ht; omega))
                    refine wpAnyH_ready (rs := [9]) (by kernel_rfl) (by simp) ?_
                    refine AllReadyH.cons (o := ⟨some 40, _, _, _, _, none⟩) rfl (fun K hK => ?_) AllReadyH.nil
                    rw [if_pos (by kernel_rfl)]
                    refine Lib.wp_append_run _ (.tmp 32) (.tmp 39) 23 23 rfl (.slice a3 ln c3) (.slice (some ⟨Kb, 0, none⟩) 1 1) (by kernel_rfl) (by kernel_rfl) _ _ hrun ?_
                    refine hK.out _ _ s4 (fun _ => ?_)
                    clear hK K hrun s68 t68 cr68
                    try simp only [Act.put, List.setIfInBounds_toArray, List.set_cons_zero, List.set_cons_succ]
                    refine wpAnyH_take (i := 10) (oi := ⟨some 41, _, _, _, _, none⟩) (v := ?_) rfl (by kernel_rfl) (by kernel_rfl) (by kernel_rfl) (fun _ _ _ h => h) (Or.inl ⟨by rfl, ?_⟩) s4 ?_
                    rotate_left
                    · intro wq hSq
                      first | (go_simp; done) | (go_simp; with_reducible rfl)
                    try simp only [Act.put, List.setIfInBounds_toArray, List.set_cons_zero, List.set_cons_succ]
                    refine wpAnyH_ready (rs := [11]) (by kernel_rfl) (by simp) ?_
                    refine AllReadyH.cons rfl (fun K hK => ?_) AllReadyH.nil
                    go_simp
                    have cS : Ch [Tb] w4 (w4.setCell ⟨Tb, 3, none⟩ (.slice a4 (ln + 1) c4)) := (Ch.refl _ _).setCell (.inl (by simp)) _
                    have s5 : Ch [] w (w4.setCell ⟨Tb, 3, none⟩ (.slice a4 (ln + 1) c4)) := s4.setCell (.inr (by show w.heap.size ≤ Tb; omega)) _
                    have t5 : (w4.setCell ⟨Tb, 3, none⟩ (.slice a4 (ln + 1) c4)).heap[Tb]? = some (.cells #[I s.g, I s.sl, U s.sd, .slice a4 (ln + 1) c4, .slice a19 pm c19] 26 (0, 0)) := by rw [heap_setCell, if_pos rfl, t4]; rfl
                    refine hK.out _ _ s5 (fun _ => ?_)
                    have HE := Lib.hid (STEP.out w67 w4 _ ac cc a4 c4 HNCP.out.1 HNCP.out.2.1 HAP.out.1 HAP.out.2.1 HAP.out.2.2.1 HAP.out.2.2.2 t4 cS t5 s5)
                    clear hK K cS s5 t5 s4 t4 hbT
                    refine wpAnyH_done (by kernel_rfl) ?_ _
                    go_wp2
                    go_roundw
                    case rel => exact ⟨_, _, _, HE.out, rfl, rfl, rfl⟩
                    case measure => simp [intOf]; omega
                  · go_simp
                    have c69 : Ch [] w67 (w67.alloc (.cells #[.slice ac 0 cc] 45)) := (Ch.refl _ _).alloc _
                    have s69 : (fun W' : World => Ch [] w W') (w67.alloc (.cells #[.slice ac 0 cc] 45)) := s67.trans c69
                    have t69 := bkeep c69 t67
                    have cr69 := cr67.trans c69
                    have hb69 : b0 ≤ w67.heap.size := Nat.le_trans hb0 cr67.size
                    obtain ⟨v4, w4, hrun, ho4, hch⟩ := append_list w67 b0 _ ln _ (own_keep HO.out cr67 (by simp)) ac 0 cc (by omega) hb69
                    have hty := own_type (own_keep HO.out cr67 (by simp))
                    have hblk := own_blk HO.out
                    refine hK.out _ _ s69 (fun _ => ?_)
                    have HAP := Lib.hid (And.intro ho4 (And.intro hch (And.intro hty hblk)))
                    have HNCP := Lib.hid (And.intro HNC67.out (And.intro cr67 (And.intro s67 t67)))
                    clear hK K c69 hb69 ho4 hch hty hblk
                    try simp only [Act.put, List.setIfInBounds_toArray, List.set_cons_zero, List.set_cons_succ]
                    obtain ⟨w69, hw69⟩ : ∃ y, (w67.alloc (.cells #[.slice ac 0 cc] 45)) = y := ⟨_, rfl⟩
                    rw [hw69] at s69 t69 cr69 hrun ⊢
                    obtain ⟨Kb, hKb⟩ : ∃ y, w67.heap.size = y := ⟨_, rfl⟩
                    rw [hKb] at hrun ⊢
                    clear hw69
                    refine wpAnyH_ready (rs := [1]) (by kernel_rfl) (by simp) ?_
                    refine AllReadyH.cons (o := ⟨some 32, _, _, _, _, none⟩) rfl (fun K hK => ?_) AllReadyH.nil
                    go_simp
                    refine hK.out _ _ s69 (fun _ => ?_)
                    clear hK K
                    try simp only [Act.put, List.setIfInBounds_toArray, List.set_cons_zero, List.set_cons_succ]
                    obtain ⟨a4, c4, hv4⟩ := own_val HAP.out.1
                    subst hv4
                    have hbT : ∀ t ∈ (match (Value.slice a3 ln c3).ownBlock with | some b => [b] | none => []), t ≠ Tb := fun t ht => by have := HAP.out.2.2.2 t ht; omega
                    have t4 : w4.heap[Tb]? = some (.cells #[I s.g, I s.sl, U s.sd, .slice a3 ln c3, .slice a19 pm c19] 26 (0, 0)) := (HAP.out.2.1.block Tb (Array.getElem?_eq_some_iff.1 HNCP.out.2.2.2).1 (fun h => hbT Tb h rfl)).trans HNCP.out.2.2.2
                    have s4 : Ch [] w w4 := HNCP.out.2.2.1.trans2 HAP.out.2.1 (fun t ht => .inr (by have := HAP.out.2.2.2 t ht; omega))
                    refine wpAnyH_ready (rs := [9]) (by kernel_rfl) (by simp) ?_
                    refine AllReadyH.cons (o := ⟨some 40, _, _, _, _, none⟩) rfl (fun K hK => ?_) AllReadyH.nil
                    rw [if_pos (by kernel_rfl)]
                    refine Lib.wp_append_run _ (.tmp 32) (.tmp 39) 23 23 rfl (.slice a3 ln c3) (.slice (some ⟨Kb, 0, none⟩) 1 1) (by kernel_rfl) (by kernel_rfl) _ _ hrun ?_
                    refine hK.out _ _ s4 (fun _ => ?_)
                    clear hK K hrun s69 t69 cr69
                    try simp only [Act.put, List.setIfInBounds_toArray, List.set_cons_zero, List.set_cons_succ]
                    refine wpAnyH_take (i := 10) (oi := ⟨some 41, _, _, _, _, none⟩) (v := ?_) rfl (by kernel_rfl) (by kernel_rfl) (by kernel_rfl) (fun _ _ _ h => h) (Or.inl ⟨by rfl, ?_⟩) s4 ?_
                    rotate_left
                    · intro wq hSq
                      first | (go_simp; done) | (go_simp; with_reducible rfl)
                    try simp only [Act.put, List.setIfInBounds_toArray, List.set_cons_zero, List.set_cons_succ]
                    refine wpAnyH_ready (rs := [11]) (by kernel_rfl) (by simp) ?_
                    refine AllReadyH.cons rfl (fun K hK => ?_) AllReadyH.nil
                    go_simp
                    have cS : Ch [Tb] w4 (w4.setCell ⟨Tb, 3, none⟩ (.slice a4 (ln + 1) c4)) := (Ch.refl _ _).setCell (.inl (by simp)) _
                    have s5 : Ch [] w (w4.setCell ⟨Tb, 3, none⟩ (.slice a4 (ln + 1) c4)) := s4.setCell (.inr (by show w.heap.size ≤ Tb; omega)) _
                    have t5 : (w4.setCell ⟨Tb, 3, none⟩ (.slice a4 (ln + 1) c4)).heap[Tb]? = some (.cells #[I s.g, I s.sl, U s.sd, .slice a4 (ln + 1) c4, .slice a19 pm c19] 26 (0, 0)) := by rw [heap_setCell, if_pos rfl, t4]; rfl
                    refine hK.out _ _ s5 (fun _ => ?_)
                    have HE := Lib.hid (STEP.out w67 w4 _ ac cc a4 c4 HNCP.out.1 HNCP.out.2.1 HAP.out.1 HAP.out.2.1 HAP.out.2.2.1 HAP.out.2.2.2 t4 cS t5 s5)
                    clear hK K cS s5 t5 s4 t4 hbT
                    refine wpAnyH_done (by kernel_rfl) ?_ _
                    go_wp2
                    go_roundw
                    case rel => exact ⟨_, _, _, HE.out, rfl, rfl, rfl⟩
                    case measure => simp [intOf]; omega
          · subst hp0
            have e1 : (mm : Int) ≤ sc := by omega
            have e2 : (0 : Int) ≤ mm := by omega
            clear hcap2
            go_upto_region 6 with (fail)
            have s60 : (fun W' : World => Ch [] w W') wr.drew := c1.drew
            have t60 : wr.drew.heap[Tb]? = some (.cells #[I s.g, I s.sl, U s.sd, .slice a3 ln c3, .slice a19 pm c19] 26 (0, 0)) := hTw
            have cr60 : Ch [] wr wr.drew := (Ch.refl _ _).drew
            refine wp_region_held_drew (S := fun W' : World => Ch [] w W') (by kernel_rfl) s60 ?_
            intro _
            simp only [List.size_toArray, List.length_cons, List.length_nil, Nat.reduceAdd]
            generalize wr.drew = w60 at *
            refine wpAnyH_take (i := 0) (oi := ⟨some 31, _, _, _, _, none⟩) (v := ?_) rfl (by kernel_rfl) (by kernel_rfl) (by kernel_rfl) (fun _ _ _ h => h) (Or.inl ⟨by rfl, ?_⟩) s60 ?_
            rotate_left
            · intro wq hSq
              first | (go_simp; done) | (go_simp; with_reducible rfl)
            try simp only [Act.put, List.setIfInBounds_toArray, List.set_cons_zero, List.set_cons_succ]
            refine wpAnyH_take (i := 2) (oi := ⟨some 33, _, _, _, _, none⟩) (v := ?_) rfl (by kernel_rfl) (by kernel_rfl) (by kernel_rfl) (fun _ _ _ h => h) (Or.inl ⟨by rfl, ?_⟩) s60 ?_
            rotate_left
            · intro wq hSq
              first | (go_simp; done) | (go_simp; with_reducible rfl)
            try simp only [Act.put, List.setIfInBounds_toArray, List.set_cons_zero, List.set_cons_succ]
            refine wpAnyH_take (i := 3) (oi := ⟨some 34, _, _, _, _, none⟩) (v := ?_) rfl (by kernel_rfl) (by kernel_rfl) (by kernel_rfl) (fun _ _ _ h => h) (Or.inl ⟨by rfl, ?_⟩) s60 ?_
            rotate_left
            · intro wq hSq
              first | (go_simp; done) | (go_simp; with_reducible rfl)
            try simp only [Act.put, List.setIfInBounds_toArray, List.set_cons_zero, List.set_cons_succ]
            refine wpAnyH_ready (rs := [1, 4]) (by kernel_rfl) (by simp) ?_
            refine AllReadyH.cons (o := ⟨some 32, _, _, _, _, none⟩) rfl (fun K hK => ?_) (AllReadyH.cons (o := ⟨some 35, _, _, _, _, none⟩) rfl (fun K hK => ?_) AllReadyH.nil)
            · go_simp
              refine hK.out _ _ s60 (fun _ => ?_)
              clear hK K
              try simp only [Act.put, List.setIfInBounds_toArray, List.set_cons_zero, List.set_cons_succ]
              refine wpAnyH_ready (rs := [4]) (by kernel_rfl) (by simp) ?_
              refine AllReadyH.cons (o := ⟨some 35, _, _, _, _, none⟩) rfl (fun K hK => ?_) AllReadyH.nil
              go_simp
              refine hK.out _ _ s60 (fun _ => ?_)
              clear hK K
              try simp only [Act.put, List.setIfInBounds_toArray, List.set_cons_zero, List.set_cons_succ]
              refine wpAnyH_ready (rs := [5]) (by kernel_rfl) (by simp) ?_
              refine AllReadyH.cons (o := ⟨some 36, _, _, _, _, none⟩) rfl (fun K hK => ?_) AllReadyH.nil
              go_simp
              refine hK.out _ _ s60 (fun _ => ?_)
              clear hK K
              try simp only [Act.put, List.setIfInBounds_toArray, List.set_cons_zero, List.set_cons_succ]
              refine wpAnyH_take (i := 6) (oi := ⟨some 37, _, _, _, _, none⟩) (v := ?_) rfl (by kernel_rfl) (by kernel_rfl) (by kernel_rfl) (fun _ _ _ h => h) (Or.inl ⟨by rfl, ?_⟩) s60 ?_
              rotate_left
              · intro wq hSq
                first | (go_simp; done) | (go_simp; with_reducible rfl)
              try simp only [Act.put, List.setIfInBounds_toArray, List.set_cons_zero, List.set_cons_succ]
              refine wpAnyH_ready (rs := [7]) (by kernel_rfl) (by simp) ?_
              refine AllReadyH.cons (o := ⟨some 38, _, _, _, _, none⟩) rfl (fun K hK => ?_) AllReadyH.nil
              go_simp
              refine (CC.out _ (some x) sc (HRA.out.ch cr60)).mono ?_
              rintro e w61 ⟨vc, rfl, oc, hc⟩
              obtain ⟨ac, cc, hvc, hnc⟩ := own_new HLT.out oc
              subst hvc
              have s61 : (fun W' : World => Ch [] w W') w61 := s60.trans hc
              have t61 := bkeep hc t60
              have cr61 := cr60.trans hc
              refine hK.out _ _ s61 (fun _ => ?_)
              have HNC61 := Lib.hid hnc
              clear hK K oc hc s60 t60 cr60 hnc
              try simp only [Act.put, List.setIfInBounds_toArray, List.set_cons_zero, List.set_cons_succ]
              refine wpAnyH_ready (rs := [8]) (by kernel_rfl) (by simp) ?_
              refine AllReadyH.cons (o := ⟨some 39, _, _, _, _, none⟩) rfl (fun K hK => ?_) AllReadyH.nil
              go_simp
              have c62 : Ch [] w61 (w61.alloc (.cells #[.slice ac mm cc] 45)) := (Ch.refl _ _).alloc _
              have s62 : (fun W' : World => Ch [] w W') (w61.alloc (.cells #[.slice ac mm cc] 45)) := s61.trans c62
              have t62 := bkeep c62 t61
              have cr62 := cr61.trans c62
              have hb62 : b0 ≤ w61.heap.size := Nat.le_trans hb0 cr61.size
              obtain ⟨v4, w4, hrun, ho4, hch⟩ := append_list w61 b0 _ ln _ (own_keep HO.out cr61 (by simp)) ac mm cc (by omega) hb62
              have hty := own_type (own_keep HO.out cr61 (by simp))
              have hblk := own_blk HO.out
              refine hK.out _ _ s62 (fun _ => ?_)
              have HAP := Lib.hid (And.intro ho4 (And.intro hch (And.intro hty hblk)))
              have HNCP := Lib.hid (And.intro HNC61.out (And.intro cr61 (And.intro s61 t61)))
              clear hK K c62 hb62 ho4 hch hty hblk
              try simp only [Act.put, List.setIfInBounds_toArray, List.set_cons_zero, List.set_cons_succ]
              obtain ⟨w62, hw62⟩ : ∃ y, (w61.alloc (.cells #[.slice ac mm cc] 45)) = y := ⟨_, rfl⟩
              rw [hw62] at s62 t62 cr62 hrun ⊢
              obtain ⟨Kb, hKb⟩ : ∃ y, w61.heap.size = y := ⟨_, rfl⟩
              rw [hKb] at hrun ⊢
              clear hw62
              obtain ⟨a4, c4, hv4⟩ := own_val HAP.out.1
              subst hv4
              have hbT : ∀ t ∈ (match (Value.slice a3 ln c3).ownBlock with | some b => [b] | none => []), t ≠ Tb := fun t ht => by have := HAP.out.2.2.2 t ht; omega
              have t4 : w4.heap[Tb]? = some (.cells #[I s.g, I s.sl, U s.sd, .slice a3 ln c3, .slice a19 pm c19] 26 (0, 0)) := (HAP.out.2.1.block Tb (Array.getElem?_eq_some_iff.1 HNCP.out.2.2.2).1 (fun h => hbT Tb h rfl)).trans HNCP.out.2.2.2
              have s4 : Ch [] w w4 := HNCP.out.2.2.1.trans2 HAP.out.2.1 (fun t ht => .inr (by have := HAP.out.2.2.2 t ht; omega))
              refine wpAnyH_ready (rs := [9]) (by kernel_rfl) (by simp) ?_
              refine AllReadyH.cons (o := ⟨some 40, _, _, _, _, none⟩) rfl (fun K hK => ?_) AllReadyH.nil
              rw [if_pos (by kernel_rfl)]
              refine Lib.wp_append_run _ (.tmp 32) (.tmp 39) 23 23 rfl (.slice a3 ln c3) (.slice (some ⟨Kb, 0, none⟩) 1 1) (by kernel_rfl) (by kernel_rfl) _ _ hrun ?_
              refine hK.out _ _ s4 (fun _ => ?_)
              clear hK K hrun s62 t62 cr62
              try simp only [Act.put, List.setIfInBounds_toArray, List.set_cons_zero, List.set_cons_succ]
              refine wpAnyH_take (i := 10) (oi := ⟨some 41, _, _, _, _, none⟩) (v := ?_) rfl (by kernel_rfl) (by kernel_rfl) (by kernel_rfl) (fun _ _ _ h => h) (Or.inl ⟨by rfl, ?_⟩) s4 ?_
              rotate_left
              · intro wq hSq
                first | (go_simp; done) | (go_simp; with_reducible rfl)
              try simp only [Act.put, List.setIfInBounds_toArray, List.set_cons_zero, List.set_cons_succ]
              refine wpAnyH_ready (rs := [11]) (by kernel_rfl) (by simp) ?_
              refine AllReadyH.cons rfl (fun K hK => ?_) AllReadyH.nil
              go_simp
              have cS : Ch [Tb] w4 (w4.setCell ⟨Tb, 3, none⟩ (.slice a4 (ln + 1) c4)) := (Ch.refl _ _).setCell (.inl (by simp)) _
              have s5 : Ch [] w (w4.setCell ⟨Tb, 3, none⟩ (.slice a4 (ln + 1) c4)) := s4.setCell (.inr (by show w.heap.size ≤ Tb; omega)) _
              have t5 : (w4.setCell ⟨Tb, 3, none⟩ (.slice a4 (ln + 1) c4)).heap[Tb]? = some (.cells #[I s.g, I s.sl, U s.sd, .slice a4 (ln + 1) c4, .slice a19 pm c19] 26 (0, 0)) := by rw [heap_setCell, if_pos rfl, t4]; rfl
              refine hK.out _ _ s5 (fun _ => ?_)
              have HE := Lib.hid (STEP.out w61 w4 _ ac cc a4 c4 HNCP.out.1 HNCP.out.2.1 HAP.out.1 HAP.out.2.1 HAP.out.2.2.1 HAP.out.2.2.2 t4 cS t5 s5)
              clear hK K cS s5 t5 s4 t4 hbT
              refine wpAnyH_done (by kernel_rfl) ?_ _
              go_wp2
              go_roundw
              case rel => exact ⟨_, _, _, HE.out, rfl, rfl, rfl⟩
              case measure => simp [intOf]; omega
            · go_simp
              refine hK.out _ _ s60 (fun _ => ?_)
              clear hK K
              try simp only [Act.put, List.setIfInBounds_toArray, List.set_cons_zero, List.set_cons_succ]
              refine wpAnyH_ready (rs := [1, 5]) (by kernel_rfl) (by simp) ?_
              refine AllReadyH.cons (o := ⟨some 32, _, _, _, _, none⟩) rfl (fun K hK => ?_) (AllReadyH.cons (o := ⟨some 36, _, _, _, _, none⟩) rfl (fun K hK => ?_) AllReadyH.nil)
              · go_simp
                refine hK.out _ _ s60 (fun _ => ?_)
                clear hK K
                try simp only [Act.put, List.setIfInBounds_toArray, List.set_cons_zero, List.set_cons_succ]
                refine wpAnyH_ready (rs := [5]) (by kernel_rfl) (by simp) ?_
                refine AllReadyH.cons (o := ⟨some 36, _, _, _, _, none⟩) rfl (fun K hK => ?_) AllReadyH.nil
                go_simp
                refine hK.out _ _ s60 (fun _ => ?_)
                clear hK K
                try simp only [Act.put, List.setIfInBounds_toArray, List.set_cons_zero, List.set_cons_succ]
                refine wpAnyH_take (i := 6) (oi := ⟨some 37, _, _, _, _, none⟩) (v := ?_) rfl (by kernel_rfl) (by kernel_rfl) (by kernel_rfl) (fun _ _ _ h => h) (Or.inl ⟨by rfl, ?_⟩) s60 ?_
                rotate_left
                · intro wq hSq
                  first | (go_simp; done) | (go_simp; with_reducible rfl)
                try simp only [Act.put, List.setIfInBounds_toArray, List.set_cons_zero, List.set_cons_succ]
                refine wpAnyH_ready (rs := [7]) (by kernel_rfl) (by simp) ?_
                refine AllReadyH.cons (o := ⟨some 38, _, _, _, _, none⟩) rfl (fun K hK => ?_) AllReadyH.nil
                go_simp
                refine (CC.out _ (some x) sc (HRA.out.ch cr60)).mono ?_
                rintro e w63 ⟨vc, rfl, oc, hc⟩
                obtain ⟨ac, cc, hvc, hnc⟩ := own_new HLT.out oc
                subst hvc
                have s63 : (fun W' : World => Ch [] w W') w63 := s60.trans hc
                have t63 := bkeep hc t60
                have cr63 := cr60.trans hc
                refine hK.out _ _ s63 (fun _ => ?_)
                have HNC63 := Lib.hid hnc
                clear hK K oc hc s60 t60 cr60 hnc
                try simp only [Act.put, List.setIfInBounds_toArray, List.set_cons_zero, List.set_cons_succ]
                refine wpAnyH_ready (rs := [8]) (by kernel_rfl) (by simp) ?_
                refine AllReadyH.cons (o := ⟨some 39, _, _, _, _, none⟩) rfl (fun K hK => ?_) AllReadyH.nil
                go_simp
                have c64 : Ch [] w63 (w63.alloc (.cells #[.slice ac mm cc] 45)) := (Ch.refl _ _).alloc _
                have s64 : (fun W' : World => Ch [] w W') (w63.alloc (.cells #[.slice ac mm cc] 45)) := s63.trans c64
                have t64 := bkeep c64 t63
                have cr64 := cr63.trans c64
                have hb64 : b0 ≤ w63.heap.size := Nat.le_trans hb0 cr63.size
                obtain ⟨v4, w4, hrun, ho4, hch⟩ := append_list w63 b0 _ ln _ (own_keep HO.out cr63 (by simp)) ac mm cc (by omega) hb64
                have hty := own_type (own_keep HO.out cr63 (by simp))
                have hblk := own_blk HO.out
                refine hK.out _ _ s64 (fun _ => ?_)
                have HAP := Lib.hid (And.intro ho4 (And.intro hch (And.intro hty hblk)))
                have HNCP := Lib.hid (And.intro HNC63.out (And.intro cr63 (And.intro s63 t63)))
                clear hK K c64 hb64 ho4 hch hty hblk
                try simp only [Act.put, List.setIfInBounds_toArray, List.set_cons_zero, List.set_cons_succ]
                obtain ⟨w64, hw64⟩ : ∃ y, (w63.alloc (.cells #[.slice ac mm cc] 45)) = y := ⟨_, rfl⟩
                rw [hw64] at s64 t64 cr64 hrun ⊢
                obtain ⟨Kb, hKb⟩ : ∃ y, w63.heap.size = y := ⟨_, rfl⟩
                rw [hKb] at hrun ⊢
                clear hw64
                obtain ⟨a4, c4, hv4⟩ := own_val HAP.out.1
                subst hv4
                have hbT : ∀ t ∈ (match (Value.slice a3 ln c3).ownBlock with | some b => [b] | none => []), t ≠ Tb := fun t ht => by have := HAP.out.2.2.2 t ht; omega
                have t4 : w4.heap[Tb]? = some (.cells #[I s.g, I s.sl, U s.sd, .slice a3 ln c3, .slice a19 pm c19] 26 (0, 0)) := (HAP.out.2.1.block Tb (Array.getElem?_eq_some_iff.1 HNCP.out.2.2.2).1 (fun h => hbT Tb h rfl)).trans HNCP.out.2.2.2
                have s4 : Ch [] w w4 := HNCP.out.2.2.1.trans2 HAP.out.2.1 (fun t ht => .inr (by have := HAP.out.2.2.2 t ht; omega))
                refine wpAnyH_ready (rs := [9]) (by kernel_rfl) (by simp) ?_
                refine AllReadyH.cons (o := ⟨some 40, _, _, _, _, none⟩) rfl (fun K hK => ?_) AllReadyH.nil
                rw [if_pos (by kernel_rfl)]
                refine Lib.wp_append_run _ (.tmp 32) (.tmp 39) 23 23 rfl (.slice a3 ln c3) (.slice (some ⟨Kb, 0, none⟩) 1 1) (by kernel_rfl) (by kernel_rfl) _ _ hrun ?_
                refine hK.out _ _ s4 (fun _ => ?_)
                clear hK K hrun s64 t64 cr64
                try simp only [Act.put, List.setIfInBounds_toArray, List.set_cons_zero, List.set_cons_succ]
                refine wpAnyH_take (i := 10) (oi := ⟨some 41, _, _, _, _, none⟩) (v := ?_) rfl (by kernel_rfl) (by kernel_rfl) (by kernel_rfl) (fun _ _ _ h => h) (Or.inl ⟨by rfl, ?_⟩) s4 ?_
                rotate_left
                · intro wq hSq
                  first | (go_simp; done) | (go_simp; with_reducible rfl)
                try simp only [Act.put, List.setIfInBounds_toArray, List.set_cons_zero, List.set_cons_succ]
                refine wpAnyH_ready (rs := [11]) (by kernel_rfl) (by simp) ?_
                refine AllReadyH.cons rfl (fun K hK => ?_) AllReadyH.nil
                go_simp
                have cS : Ch [Tb] w4 (w4.setCell ⟨Tb, 3, none⟩ (.slice a4 (ln + 1) c4)) := (Ch.refl _ _).setCell (.inl (by simp)) _
                have s5 : Ch [] w (w4.setCell ⟨Tb, 3, none⟩ (.slice a4 (ln + 1) c4)) := s4.setCell (.inr (by show w.heap.size ≤ Tb; omega)) _
                have t5 : (w4.setCell ⟨Tb, 3, none⟩ (.slice a4 (ln + 1) c4)).heap[Tb]? = some (.cells #[I s.g, I s.sl, U s.sd, .slice a4 (ln + 1) c4, .slice a19 pm c19] 26 (0, 0)) := by rw [heap_setCell, if_pos rfl, t4]; rfl
                refine hK.out _ _ s5 (fun _ => ?_)
                have HE := Lib.hid (STEP.out w63 w4 _ ac cc a4 c4 HNCP.out.1 HNCP.out.2.1 HAP.out.1 HAP.out.2.1 HAP.out.2.2.1 HAP.out.2.2.2 t4 cS t5 s5)
                clear hK K cS s5 t5 s4 t4 hbT
                refine wpAnyH_done (by kernel_rfl) ?_ _
                go_wp2
                go_roundw
                case rel => exact ⟨_, _, _, HE.out, rfl, rfl, rfl⟩
                case measure => simp [intOf]; omega
              · go_simp
                refine hK.out _ _ s60 (fun _ => ?_)
                clear hK K
                try simp only [Act.put, List.setIfInBounds_toArray, List.set_cons_zero, List.set_cons_succ]
                refine wpAnyH_take (i := 6) (oi := ⟨some 37, _, _, _, _, none⟩) (v := ?_) rfl (by kernel_rfl) (by kernel_rfl) (by kernel_rfl) (fun _ _ _ h => h) (Or.inl ⟨by rfl, ?_⟩) s60 ?_
                rotate_left
                · intro wq hSq
                  first | (go_simp; done) | (go_simp; with_reducible rfl)
                try simp only [Act.put, List.setIfInBounds_toArray, List.set_cons_zero, List.set_cons_succ]
                refine wpAnyH_ready (rs := [1, 7]) (by kernel_rfl) (by simp) ?_
                refine AllReadyH.cons (o := ⟨some 32, _, _, _, _, none⟩) rfl (fun K hK => ?_) (AllReadyH.cons (o := ⟨some 38, _, _, _, _, none⟩) rfl (fun K hK => ?_) AllReadyH.nil)
                · go_simp
                  refine hK.out _ _ s60 (fun _ => ?_)
                  clear hK K
                  try simp only [Act.put, List.setIfInBounds_toArray, List.set_cons_zero, List.set_cons_succ]
                  refine wpAnyH_ready (rs := [7]) (by kernel_rfl) (by simp) ?_
                  refine AllReadyH.cons (o := ⟨some 38, _, _, _, _, none⟩) rfl (fun K hK => ?_) AllReadyH.nil
                  go_simp
                  refine (CC.out _ (some x) sc (HRA.out.ch cr60)).mono ?_
                  rintro e w65 ⟨vc, rfl, oc, hc⟩
                  obtain ⟨ac, cc, hvc, hnc⟩ := own_new HLT.out oc
                  subst hvc
                  have s65 : (fun W' : World => Ch [] w W') w65 := s60.trans hc
                  have t65 := bkeep hc t60
                  have cr65 := cr60.trans hc
                  refine hK.out _ _ s65 (fun _ => ?_)
                  have HNC65 := Lib.hid hnc
                  clear hK K oc hc s60 t60 cr60 hnc
                  try simp only [Act.put, List.setIfInBounds_toArray, List.set_cons_zero, List.set_cons_succ]
                  refine wpAnyH_ready (rs := [8]) (by kernel_rfl) (by simp) ?_
                  refine AllReadyH.cons (o := ⟨some 39, _, _, _, _, none⟩) rfl (fun K hK => ?_) AllReadyH.nil
                  go_simp
                  have c66 : Ch [] w65 (w65.alloc (.cells #[.slice ac mm cc] 45)) := (Ch.refl _ _).alloc _
                  have s66 : (fun W' : World => Ch [] w W') (w65.alloc (.cells #[.slice ac mm cc] 45)) := s65.trans c66
                  have t66 := bkeep c66 t65
                  have cr66 := cr65.trans c66
                  have hb66 : b0 ≤ w65.heap.size := Nat.le_trans hb0 cr65.size
                  obtain ⟨v4, w4, hrun, ho4, hch⟩ := append_list w65 b0 _ ln _ (own_keep HO.out cr65 (by simp)) ac mm cc (by omega) hb66
                  have hty := own_type (own_keep HO.out cr65 (by simp))
                  have hblk := own_blk HO.out
                  refine hK.out _ _ s66 (fun _ => ?_)
                  have HAP := Lib.hid (And.intro ho4 (And.intro hch (And.intro hty hblk)))
                  have HNCP := Lib.hid (And.intro HNC65.out (And.intro cr65 (And.intro s65 t65)))
                  clear hK K c66 hb66 ho4 hch hty hblk
                  try simp only [Act.put, List.setIfInBounds_toArray, List.set_cons_zero, List.set_cons_succ]
                  obtain ⟨w66, hw66⟩ : ∃ y, (w65.alloc (.cells #[.slice ac mm cc] 45)) = y := ⟨_, rfl⟩
                  rw [hw66] at s66 t66 cr66 hrun ⊢
                  obtain ⟨Kb, hKb⟩ : ∃ y, w65.heap.size = y := ⟨_, rfl⟩
                  rw [hKb] at hrun ⊢
                  clear hw66
                  obtain ⟨a4, c4, hv4⟩ := own_val HAP.out.1
                  subst hv4
                  have hbT : ∀ t ∈ (match (Value.slice a3 ln c3).ownBlock with | some b => [b] | none => []), t ≠ Tb := fun t ht => by have := HAP.out.2.2.2 t ht; omega
                  have t4 : w4.heap[Tb]? = some (.cells #[I s.g, I s.sl, U s.sd, .slice a3 ln c3, .slice a19 pm c19] 26 (0, 0)) := (HAP.out.2.1.block Tb (Array.getElem?_eq_some_iff.1 HNCP.out.2.2.2).1 (fun h => hbT Tb h rfl)).trans HNCP.out.2.2.2
                  have s4 : Ch [] w w4 := HNCP.out.2.2.1.trans2 HAP.out.2.1 (fun t ht => .inr (by have := HAP.out.2.2.2 t ht; omega))
                  refine wpAnyH_ready (rs := [9]) (by kernel_rfl) (by simp) ?_
                  refine AllReadyH.cons (o := ⟨some 40, _, _, _, _, none⟩) rfl (fun K hK => ?_) AllReadyH.nil
                  rw [if_pos (by kernel_rfl)]
                  refine Lib.wp_append_run _ (.tmp 32) (.tmp 39) 23 23 rfl (.slice a3 ln c3) (.slice (some ⟨Kb, 0, none⟩) 1 1) (by kernel_rfl) (by kernel_rfl) _ _ hrun ?_
                  refine hK.out _ _ s4 (fun _ => ?_)
                  clear hK K hrun s66 t66 cr66
                  try simp only [Act.put, List.setIfInBounds_toArray, List.set_cons_zero, List.set_cons_succ]
                  refine wpAnyH_take (i := 10) (oi := ⟨some 41, _, _, _, _, none⟩) (v := ?_) rfl (by kernel_rfl) (by kernel_rfl) (by kernel_rfl) (fun _ _ _ h => h) (Or.inl ⟨by rfl, ?_⟩) s4 ?_
                  rotate_left
                  · intro wq hSq
                    first | (go_simp; done) | (go_simp; with_reducible rfl)
                  try simp only [Act.put, List.setIfInBounds_toArray, List.set_cons_zero, List.set_cons_succ]
                  refine wpAnyH_ready (rs := [11]) (by kernel_rfl) (by simp) ?_
                  refine AllReadyH.cons rfl (fun K hK => ?_) AllReadyH.nil
                  go_simp
                  have cS : Ch [Tb] w4 (w4.setCell ⟨Tb, 3, none⟩ (.slice a4 (ln + 1) c4)) := (Ch.refl _ _).setCell (.inl (by simp)) _
                  have s5 : Ch [] w (w4.setCell ⟨Tb, 3, none⟩ (.slice a4 (ln + 1) c4)) := s4.setCell (.inr (by show w.heap.size ≤ Tb; omega)) _
                  have t5 : (w4.setCell ⟨Tb, 3, none⟩ (.slice a4 (ln + 1) c4)).heap[Tb]? = some (.cells #[I s.g, I s.sl, U s.sd, .slice a4 (ln + 1) c4, .slice a19 pm c19] 26 (0, 0)) := by rw [heap_setCell, if_pos rfl, t4]; rfl
                  refine hK.out _ _ s5 (fun _ => ?_)
                  have HE := Lib.hid (STEP.out w65 w4 _ ac cc a4 c4 HNCP.out.1 HNCP.out.2.1 HAP.out.1 HAP.out.2.1 HAP.out.2.2.1 HAP.out.2.2.2 t4 cS t5 s5)
                  clear hK K cS s5 t5 s4 t4 hbT
                  refine wpAnyH_done (by kernel_rfl) ?_ _
                  go_wp2
                  go_roundw
                  case rel => exact ⟨_, _, _, HE.out, rfl, rfl, rfl⟩
                  case measure => simp [intOf]; omega
                · go_simp
                  refine (CC.out _ (some x) sc (HRA.out.ch cr60)).mono ?_
                  rintro e w67 ⟨vc, rfl, oc, hc⟩
                  obtain ⟨ac, cc, hvc, hnc⟩ := own_new HLT.out oc
                  subst hvc
                  have s67 : (fun W' : World => Ch [] w W') w67 := s60.trans hc
                  have t67 := bkeep hc t60
                  have cr67 := cr60.trans hc
                  refine hK.out _ _ s67 (fun _ => ?_)
                  have HNC67 := Lib.hid hnc
                  clear hK K oc hc s60 t60 cr60 hnc
                  try simp only [Act.put, List.setIfInBounds_toArray, List.set_cons_zero, List.set_cons_succ]
                  refine wpAnyH_ready (rs := [1, 8]) (by kernel_rfl) (by simp) ?_
                  refine AllReadyH.cons (o := ⟨some 32, _, _, _, _, none⟩) rfl (fun K hK => ?_) (AllReadyH.cons (o := ⟨some 39, _, _, _, _, none⟩) rfl (fun K hK => ?_) AllReadyH.nil)
                  · go_simp
                    refine hK.out _ _ s67 (fun _ => ?_)
                    clear hK K
                    try simp only [Act.put, List.setIfInBounds_toArray, List.set_cons_zero, List.set_cons_succ]
                    refine wpAnyH_ready (rs := [8]) (by kernel_rfl) (by simp) ?_
                    refine AllReadyH.cons (o := ⟨some 39, _, _, _, _, none⟩) rfl (fun K hK => ?_) AllReadyH.nil
                    go_simp
                    have c68 : Ch [] w67 (w67.alloc (.cells #[.slice ac mm cc] 45)) := (Ch.refl _ _).alloc _
                    have s68 : (fun W' : World => Ch [] w W') (w67.alloc (.cells #[.slice ac mm cc] 45)) := s67.trans c68
                    have t68 := bkeep c68 t67
                    have cr68 := cr67.trans c68
                    have hb68 : b0 ≤ w67.heap.size := Nat.le_trans hb0 cr67.size
                    obtain ⟨v4, w4, hrun, ho4, hch⟩ := append_list w67 b0 _ ln _ (own_keep HO.out cr67 (by simp)) ac mm cc (by omega) hb68
                    have hty := own_type (own_keep HO.out cr67 (by simp))
                    have hblk := own_blk HO.out
                    refine hK.out _ _ s68 (fun _ => ?_)
                    have HAP := Lib.hid (And.intro ho4 (And.intro hch (And.intro hty hblk)))
                    have HNCP := Lib.hid (And.intro HNC67.out (And.intro cr67 (And.intro s67 t67)))
                    clear hK K c68 hb68 ho4 hch hty hblk
                    try simp only [Act.put, List.setIfInBounds_toArray, List.set_cons_zero, List.set_cons_succ]
                    obtain ⟨w68, hw68⟩ : ∃ y, (w67.alloc (.cells #[.slice ac mm cc] 45)) = y := ⟨_, rfl⟩
                    rw [hw68] at s68 t68 cr68 hrun ⊢
                    obtain ⟨Kb, hKb⟩ : ∃ y, w67.heap.size = y := ⟨_, rfl⟩
                    rw [hKb] at hrun ⊢
                    clear hw68
                    obtain ⟨a4, c4, hv4⟩ := own_val HAP.out.1
                    subst hv4
                    have hbT : ∀ t ∈ (match (Value.slice a3 ln c3).ownBlock with | some b => [b] | none => []), t ≠ Tb := fun t ht => by have := HAP.out.2.2.2 t ht; omega
                    have t4 : w4.heap[Tb]? = some (.cells #[I s.g, I s.sl, U s.sd, .slice a3 ln c3, .slice a19 pm c19] 26 (0, 0)) := (HAP.out.2.1.block Tb (Array.getElem?_eq_some_iff.1 HNCP.out.2.2.2).1 (fun h => hbT Tb h rfl)).trans HNCP.out.2.2.2
                    have s4 : Ch [] w w4 := HNCP.out.2.2.1.trans2 HAP.out.2.1 (fun t ht => .inr (by have := HAP.out.2.2.2 t ht; omega))
                    refine wpAnyH_ready (rs := [9]) (by kernel_rfl) (by simp) ?_
                    refine AllReadyH.cons (o := ⟨some 40, _, _, _, _, none⟩) rfl (fun K hK => ?_) AllReadyH.nil
                    rw [if_pos (by kernel_rfl)]
                    refine Lib.wp_append_run _ (.tmp 32) (.tmp 39) 23 23 rfl (.slice a3 ln c3) (.slice (some ⟨Kb, 0, none⟩) 1 1) (by kernel_rfl) (by kernel_rfl) _ _ hrun ?_
                    refine hK.out _ _ s4 (fun _ => ?_)
                    clear hK K hrun s68 t68 cr68
                    try simp only [Act.put, List.setIfInBounds_toArray, List.set_cons_zero, List.set_cons_succ]
                    refine wpAnyH_take (i := 10) (oi := ⟨some 41, _, _, _, _, none⟩) (v := ?_) rfl (by kernel_rfl) (by kernel_rfl) (by kernel_rfl) (fun _ _ _ h => h) (Or.inl ⟨by rfl, ?_⟩) s4 ?_
                    rotate_left
                    · intro wq hSq
                      first | (go_simp; done) | (go_simp; with_reducible rfl)
                    try simp only [Act.put, List.setIfInBounds_toArray, List.set_cons_zero, List.set_cons_succ]
                    refine wpAnyH_ready (rs := [11]) (by kernel_rfl) (by simp) ?_
                    refine AllReadyH.cons rfl (fun K hK => ?_) AllReadyH.nil
                    go_simp
                    have cS : Ch [Tb] w4 (w4.setCell ⟨Tb, 3, none⟩ (.slice a4 (ln + 1) c4)) := (Ch.refl _ _).setCell (.inl (by simp)) _
                    have s5 : Ch [] w (w4.setCell ⟨Tb, 3, none⟩ (.slice a4 (ln + 1) c4)) := s4.setCell (.inr (by show w.heap.size ≤ Tb; omega)) _
                    have t5 : (w4.setCell ⟨Tb, 3, none⟩ (.slice a4 (ln + 1) c4)).heap[Tb]? = some (.cells #[I s.g, I s.sl, U s.sd, .slice a4 (ln + 1) c4, .slice a19 pm c19] 26 (0, 0)) := by rw [heap_setCell, if_pos rfl, t4]; rfl
                    refine hK.out _ _ s5 (fun _ => ?_)
                    have HE := Lib.hid (STEP.out w67 w4 _ ac cc a4 c4 HNCP.out.1 HNCP.out.2.1 HAP.out.1 HAP.out.2.1 HAP.out.2.2.1 HAP.out.2.2.2 t4 cS t5 s5)
                    clear hK K cS s5 t5 s4 t4 hbT
                    refine wpAnyH_done (by kernel_rfl) ?_ _
                    go_wp2
                    go_roundw
                    case rel => exact ⟨_, _, _, HE.out, rfl, rfl, rfl⟩
                    case measure => simp [intOf]; omega
                  · go_simp
                    have c69 : Ch [] w67 (w67.alloc (.cells #[.slice ac mm cc] 45)) := (Ch.refl _ _).alloc _
                    have s69 : (fun W' : World => Ch [] w W') (w67.alloc (.cells #[.slice ac mm cc] 45)) := s67.trans c69
                    have t69 := bkeep c69 t67
                    have cr69 := cr67.trans c69
                    have hb69 : b0 ≤ w67.heap.size := Nat.le_trans hb0 cr67.size
                    obtain ⟨v4, w4, hrun, ho4, hch⟩ := append_list w67 b0 _ ln _ (own_keep HO.out cr67 (by simp)) ac mm cc (by omega) hb69
                    have hty := own_type (own_keep HO.out cr67 (by simp))
                    have hblk := own_blk HO.out
                    refine hK.out _ _ s69 (fun _ => ?_)
                    have HAP := Lib.hid (And.intro ho4 (And.intro hch (And.intro hty hblk)))
                    have HNCP := Lib.hid (And.intro HNC67.out (And.intro cr67 (And.intro s67 t67)))
                    clear hK K c69 hb69 ho4 hch hty hblk
                    try simp only [Act.put, List.setIfInBounds_toArray, List.set_cons_zero, List.set_cons_succ]
                    obtain ⟨w69, hw69⟩ : ∃ y, (w67.alloc (.cells #[.slice ac mm cc] 45)) = y := ⟨_, rfl⟩
                    rw [hw69] at s69 t69 cr69 hrun ⊢
                    obtain ⟨Kb, hKb⟩ : ∃ y, w67.heap.size = y := ⟨_, rfl⟩
                    rw [hKb] at hrun ⊢
                    clear hw69
                    refine wpAnyH_ready (rs := [1]) (by kernel_rfl) (by simp) ?_
                    refine AllReadyH.cons (o := ⟨some 32, _, _, _, _, none⟩) rfl (fun K hK => ?_) AllReadyH.nil
                    go_simp
                    refine hK.out _ _ s69 (fun _ => ?_)
                    clear hK K
                    try simp only [Act.put, List.setIfInBounds_toArray, List.set_cons_zero, List.set_cons_succ]
                    obtain ⟨a4, c4, hv4⟩ := own_val HAP.out.1
                    subst hv4
                    have hbT : ∀ t ∈ (match (Value.slice a3 ln c3).ownBlock with | some b => [b] | none => []), t ≠ Tb := fun t ht => by have := HAP.out.2.2.2 t ht; omega
                    have t4 : w4.heap[Tb]? = some (.cells #[I s.g, I s.sl, U s.sd, .slice a3 ln c3, .slice a19 pm c19] 26 (0, 0)) := (HAP.out.2.1.block Tb (Array.getElem?_eq_some_iff.1 HNCP.out.2.2.2).1 (fun h => hbT Tb h rfl)).trans HNCP.out.2.2.2
                    have s4 : Ch [] w w4 := HNCP.out.2.2.1.trans2 HAP.out.2.1 (fun t ht => .inr (by have := HAP.out.2.2.2 t ht; omega))
                    refine wpAnyH_ready (rs := [9]) (by kernel_rfl) (by simp) ?_
                    refine AllReadyH.cons (o := ⟨some 40, _, _, _, _, none⟩) rfl (fun K hK => ?_) AllReadyH.nil
                    rw [if_pos (by kernel_rfl)]
                    refine Lib.wp_append_run _ (.tmp 32) (.tmp 39) 23 23 rfl (.slice a3 ln c3) (.slice (some ⟨Kb, 0, none⟩) 1 1) (by kernel_rfl) (by kernel_rfl) _ _ hrun ?_
                    refine hK.out _ _ s4 (fun _ => ?_)
                    clear hK K hrun s69 t69 cr69
                    try simp only [Act.put, List.setIfInBounds_toArray, List.set_cons_zero, List.set_cons_succ]
                    refine wpAnyH_take (i := 10) (oi := ⟨some 41, _, _, _, _, none⟩) (v := ?_) rfl (by kernel_rfl) (by kernel_rfl) (by kernel_rfl) (fun _ _ _ h => h) (Or.inl ⟨by rfl, ?_⟩) s4 ?_
                    rotate_left
                    · intro wq hSq
                      first | (go_simp; done) | (go_simp; with_reducible rfl)
                    try simp only [Act.put, List.setIfInBounds_toArray, List.set_cons_zero, List.set_cons_succ]
                    refine wpAnyH_ready (rs := [11]) (by kernel_rfl) (by simp) ?_
                    refine AllReadyH.cons rfl (fun K hK => ?_) AllReadyH.nil
                    go_simp
                    have cS : Ch [Tb] w4 (w4.setCell ⟨Tb, 3, none⟩ (.slice a4 (ln + 1) c4)) := (Ch.refl _ _).setCell (.inl (by simp)) _
                    have s5 : Ch [] w (w4.setCell ⟨Tb, 3, none⟩ (.slice a4 (ln + 1) c4)) := s4.setCell (.inr (by show w.heap.size ≤ Tb; omega)) _
                    have t5 : (w4.setCell ⟨Tb, 3, none⟩ (.slice a4 (ln + 1) c4)).heap[Tb]? = some (.cells #[I s.g, I s.sl, U s.sd, .slice a4 (ln + 1) c4, .slice a19 pm c19] 26 (0, 0)) := by rw [heap_setCell, if_pos rfl, t4]; rfl
                    refine hK.out _ _ s5 (fun _ => ?_)
                    have HE := Lib.hid (STEP.out w67 w4 _ ac cc a4 c4 HNCP.out.1 HNCP.out.2.1 HAP.out.1 HAP.out.2.1 HAP.out.2.2.1 HAP.out.2.2.2 t4 cS t5 s5)
                    clear hK K cS s5 t5 s4 t4 hbT
                    refine wpAnyH_done (by kernel_rfl) ?_ _
                    go_wp2
                    go_roundw
                    case rel => exact ⟨_, _, _, HE.out, rfl, rfl, rfl⟩
                    case measure => simp [intOf]; omega
end Go.Proofs.Hc
