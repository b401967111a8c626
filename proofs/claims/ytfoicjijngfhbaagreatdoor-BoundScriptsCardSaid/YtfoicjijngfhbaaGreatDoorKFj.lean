/- The reference of layer 3: Same, at two scripts that hold the same. -/
import Derived.Test.YtfoicjijngfhbaaGreatDoorKBc
import Derived.Test.YtfoicjijngfhbaaGreatDoorKBd
import Derived.Test.YtfoicjijngfhbaaGreatDoorKBf
import Derived.Test.YtfoicjijngfhbaaGreatDoorKBh
import Derived.Test.YtfoicjijngfhbaaGreatDoorKBk
import Derived.Test.YtfoicjijngfhbaaGreatDoorKBo
import Derived.Test.YtfoicjijngfhbaaGreatDoorKBr
import Derived.Test.YtfoicjijngfhbaaGreatDoorKBu
import Derived.Test.YtfoicjijngfhbaaGreatDoorKDa
import Derived.Test.YtfoicjijngfhbaaGreatDoorKDf
import Derived.Test.YtfoicjijngfhbaaGreatDoorKEf
import Derived.Test.YtfoicjijngfhbaaGreatDoorKEk
import Derived.Test.YtfoicjijngfhbaaGreatDoorKFe
import Derived.Test.YtfoicjijngfhbaaGreatDoorKFf
import Derived.Test.YtfoicjijngfhbaaGreatDoorKFi
import Derived.Test.YtfoicjijngfhbaaGreatDoorKHm
import Derived.Test.YtfoicjijngfhbaaGreatDoorKHr
import Derived.Below
import Derived.BigQuiet
import Derived.ChangeKeysEq
import Derived.Deep.Cut
import Derived.Deep.CutRange
import Derived.Deep.Draws
import Derived.Deep.OwnRows
import Derived.Deep.QuietTactic
import Derived.Deep.RegionHeld
import Derived.Laws.AppendOwn
import Derived.Laws.Bits64
import Derived.Laws.Bits64b
import Derived.Laws.CopyOwn
import Derived.Laws.CopyRow
import Derived.Laws.EntriesVeiled
import Derived.Laws.IdiomCopy
import Derived.Laws.StructEq
import Derived.Laws.Tables
import Derived.Lib.AppendZerosOnto
import Derived.Lib.BitFns
import Derived.Lib.Hide
import Derived.Lib.Slices
import Derived.Lib.Small
import Derived.Lib.Strings
import Derived.Lib.Tables
import Derived.Lib.Walk
import Derived.LoopIn
import Derived.LoopNIn
import Derived.Maps.RangeWalk
import Derived.Maps.Views
import Derived.OwnWalkIn
import Derived.RangeFuncCalls
import Derived.RangeFuncRecord
import Derived.RangeFuncSeq
import Derived.Recover
import Derived.Sort.AssemblyPlain
import Derived.Sort.Defs
import Derived.Sort.LotC
import Derived.Sort.LotD1
import Derived.Sort.LotD5
import Derived.Sort.LotD6
import Derived.Sort.Walk13a
import Derived.StillTail
import Derived.TacticsInMore
import Derived.Test.YtfoicjijngfhbaaGreatDoorProg
import Derived.WalkKit
import Derived.WalkLawsBesides
set_option linter.unusedSimpArgs false
set_option linter.unusedVariables false
namespace Go.Proofs.Hc
open Go.RowKit
set_option linter.unusedVariables false
set_option linter.unusedSimpArgs false
attribute [local go_sem] wrap_u64 wrap_u8 bits_xor64 bits_and64 bits_or64 bits_not64 bits_xor8 bits_and8 bits_or8 signed64 signed8 ofInt_N BitVec.ofInt_add BitVec.ofInt_mul ofInt_sub' ofInt8_N64 ofInt64_N8 wide8 eqN neN shr_pow shr1 shr7 shr56
attribute [local go_sem high] bits_com64 shl_wrap
attribute [local go_sem] nn2 nm2 nn3 nm3 nn4 nm4 nn5 nm5 nn6 nm6 nn7 nm7 nn8 nm8
attribute [local go_sem] Oper.semAt_some make_func1 make_funcB
attribute [local go_sem] cell_heap ice_heap cellAt_cells iceAt_cells setAt_cells size_setCell rowAt_cells canLay_cells laidAt_cells size_onObj rowRes_some layRes_true
attribute [local go_sem ↓] heap_alloc heap_drew heap_drewN heap_setCell heap_putObj heap_onObj
attribute [local go_sem] loadS box_sc loadC storeC oneC zeroCall_size box_call
attribute [local go_sem ↓] lrowS lrowC srowC zeroC
/-- A value that is equal to itself. -/
def SelfEqS (d : Nat) (T : TypeId) (v : Value) : Prop := ∀ w, (Op.equalIn d T v v).run Tryz.prog w = .ok true w
theorem self_intS (d : Nat) (T : TypeId) (k k' : IntKind) (a : Int) (h : Tryz.prog.underlying T = some (.int k')) : SelfEqS (d + 1) T (.int k a) := fun w => by
  rw [run_equalIn_int w d T k k' a a h, beq_self_eq_true]
theorem self_fieldsS {d : Nat} {xs : Array Value} : ∀ (fs : List Field), (∀ f ∈ fs, ∃ a, (∀ w, (part f.type xs f.offset).run Tryz.prog w = .ok a w) ∧ SelfEqS d f.type a) → ∀ w, (Op.eqFields d xs xs fs).run Tryz.prog w = .ok true w
  | [], _, w => by simp [Op.eqFields]
  | f :: fs, h, w => by
    obtain ⟨a, h1, h2⟩ := h f (by simp)
    have ih := self_fieldsS fs (fun j hj => h j (by simp [hj])) w
    simp only [Op.eqFields]
    split
    · simp only [Sem.run_bind, h1, h2 w, Result.andThen_ok, Bool.not_true, Bool.false_eq_true, if_false, ih]
    · exact ih
theorem part_intS {T : TypeId} {k : IntKind} (h : Tryz.prog.underlying T = some (.int k)) {xs : Array Value} {off : Nat} {v : Value} (hx : xs[off]? = some v) (w : World) : (part T xs off).run Tryz.prog w = .ok v w :=
  run_part_plain w (by simp [Program.plainKey, h]) hx
theorem callS_fields : (Tryz.prog.fieldsOf 44).toList.map (fun f => (f.type, f.offset)) = [(3, 0), (22, 1), (22, 2), (22, 3)] := by kernel_rfl
theorem callS_under : Tryz.prog.underlying 44 = some (.struct (Tryz.prog.fieldsOf 44)) := by kernel_rfl
theorem callS_stood : Tryz.prog.stoodInHeld 44 = false := by kernel_rfl
theorem self_callS (d : Nat) (a : Int) (b c e : BitVec 64) : SelfEqS (d + 2) 44 (.agg #[I a, U b, U c, U e]) := fun w => by
  rw [run_equalIn_agg w (d + 1) 44 _ _ callS_under callS_stood]
  refine self_fieldsS _ (fun f hf => ?_) w
  have hm : (f.type, f.offset) ∈ [(3, 0), (22, 1), (22, 2), (22, 3)] := by
    rw [← callS_fields]; exact List.mem_map.2 ⟨f, hf, rfl⟩
  generalize f.type = T at *
  generalize f.offset = o at *
  simp only [List.mem_cons, Prod.mk.injEq, List.not_mem_nil, or_false] at hm
  rcases hm with ⟨rfl, rfl⟩ | ⟨rfl, rfl⟩ | ⟨rfl, rfl⟩ | ⟨rfl, rfl⟩
  · exact ⟨I a, part_intS Tryz.underlying3 rfl, self_intS _ _ _ _ _ Tryz.underlying3⟩
  · exact ⟨U b, part_intS Tryz.underlying22 rfl, self_intS _ _ _ _ _ Tryz.underlying22⟩
  · exact ⟨U c, part_intS Tryz.underlying22 rfl, self_intS _ _ _ _ _ Tryz.underlying22⟩
  · exact ⟨U e, part_intS Tryz.underlying22 rfl, self_intS _ _ _ _ _ Tryz.underlying22⟩
theorem neq_callS (a : Int) (b c e : BitVec 64) (w : World) : (binOp .neq 44 (.agg #[I a, U b, U c, U e]) (.agg #[I a, U b, U c, U e])).run Tryz.prog w = .ok (.bool false) w := by
  rw [run_neq_struct, self_callS 9998 a b c e w]; rfl
theorem guardCallS (op : BinOp) (x y : Operand) (xs ys : Array Value) (w : World) : (eqGuard op 44 x y (.agg xs) (.agg ys)).run Tryz.prog w = .ok () w := run_eqGuard_agg w op 44 x y xs ys (by kernel_rfl)
attribute [local go_sem] neq_callS guardCallS
/-- A script that own made. -/
structure OwnedSc (w : World) (s : ScT) (ks : List (BitVec 64)) : Prop where
  lists : (s.la = none ∧ s.ls = []) ∨ ∃ L o, s.la = some (L, o) ∧ ListsAt w L o s.ls
  many : s.ls.length ≤ 10
  calls : ∀ x ∈ s.ls, x.l.length ≤ 66
  picks : KW w s.pa ks
  pn : ks.length = s.pn
  p41 : s.pn ≤ 4100
theorem OwnSc.owned {w : World} {s s' : ScT} {ps : List (BitVec 64)} (h : OwnSc w s s' ps) : OwnedSc w s' (ps.take 4100) := by
  have h1 := congrArg List.length h.ls
  simp only [List.length_map, List.length_take] at h1
  have h2 := h.pn
  refine ⟨h.lists, by omega, fun x hx => ?_, h.picks, h2, ?_⟩
  · have : x.l ∈ (s.ls.take 10).map (·.l.take 66) := by rw [← h.ls]; exact List.mem_map.2 ⟨x, hx, rfl⟩
    obtain ⟨y, _, hy⟩ := List.mem_map.1 this
    rw [← hy, List.length_take]
    omega
  · rw [← h2, List.length_take]; omega
theorem OwnedSc.ch {w w' : World} {s : ScT} {ks : List (BitVec 64)} (R : OwnedSc w s ks) (c : Ch [] w w') : OwnedSc w' s ks := by
  refine { R with lists := ?_, picks := R.picks.ch c }
  rcases R.lists with h | ⟨L, o, h1, h2⟩
  · exact .inl h
  · exact .inr ⟨L, o, h1, h2.ch c⟩
theorem OwnedSc.get {w : World} {s : ScT} {ks : List (BitVec 64)} (R : OwnedSc w s ks) {j : Nat} {x : ListT} (hx : s.ls[j]? = some x) : ∃ L o, adr s.la = some ⟨L, o, none⟩ ∧ (w.heap[L]?).bind (cellAt (o + j)) = some (.slice x.a x.l.length x.c) ∧ RowAt w x.a x.l := by
  rcases R.lists with ⟨_, h0⟩ | ⟨L, o, h1, h2⟩
  · rw [h0] at hx; cases hx
  · obtain ⟨h3, h4⟩ := h2 j x hx
    rw [cell_heap] at h3
    exact ⟨L, o, by rw [h1]; rfl, h3, h4⟩
theorem same_world (s t : ScT) (w : World) : ∃ W, (w.alloc (.cells (scC s) 26)).alloc (.cells (scC t) 26) = W ∧ Ch [] w W ∧ W.heap[w.heap.size]? = some (.cells (scC s) 26 (0, 0)) ∧ W.heap[w.heap.size + 1]? = some (.cells (scC t) 26 (0, 0)) :=
  ⟨_, rfl, ((Ch.refl [] w).alloc _).alloc _, by rw [heap_alloc, if_neg (by simp), heap_alloc, if_pos rfl], by rw [heap_alloc, if_pos (by simp)]⟩
set_option maxHeartbeats 1000000 in
set_option maxRecDepth 100000 in
theorem rSame_any (s t : ScT) (ks : List (BitVec 64)) (w : World) (hg : t.g = s.g) (hsl : t.sl = s.sl) (hsd : t.sd = s.sd) (hll : t.ls.map (·.l) = s.ls.map (·.l)) (S : OwnedSc w s ks) (T : OwnedSc w t ks) : Calls Tryz.prog 16 #[.agg (scC s), .agg (scC t)] w fun e w' => e = .returned (.bool true) ∧ Ch [] w w' := by
  obtain ⟨W, hW, C, hB, hD⟩ := same_world s t w
  have GS := Lib.hid (fun (j : Nat) (x : ListT) wr (c : Ch [] w wr) (hx : s.ls[j]? = some x) => (S.ch c).get hx)
  have GT := Lib.hid (fun (j : Nat) (x : ListT) wr (c : Ch [] w wr) (hx : t.ls[j]? = some x) => (T.ch c).get hx)
  have PS := Lib.hid S.picks
  have PT := Lib.hid T.picks
  have hpn := S.pn
  have hpn2 := T.pn
  have hp41 := S.p41
  have hmany := S.many
  have HCA := Lib.hid S.calls
  clear S T
  obtain ⟨g, sl, sd, la, lc, ls, pa, pn, pc⟩ := s
  obtain ⟨g2, sl2, sd2, la2, lc2, ls2, pa2, pn2, pc2⟩ := t
  dsimp only at *
  subst hg hsl hsd
  have hpe : pn = pn2 := by rw [← hpn, ← hpn2]
  subst hpe
  unfold scC at hB hD hW ⊢
  dsimp only at hB hD hW ⊢
  obtain ⟨n, hn⟩ : ∃ n, ls.length = n := ⟨_, rfl⟩
  have hn2 : ls2.length = n := by rw [← hn]; simpa using congrArg List.length hll
  obtain ⟨aa, haa⟩ : ∃ a, adr la = a := ⟨_, rfl⟩
  obtain ⟨ab, hab⟩ : ∃ a, adr la2 = a := ⟨_, rfl⟩
  rw [hn, haa] at hB hW ⊢
  rw [hn2, hab] at hD hW ⊢
  rw [haa] at GS
  rw [hab] at GT
  rw [hn] at hmany
  obtain ⟨B, hBe⟩ : ∃ B, w.heap.size = B := ⟨_, rfl⟩
  rw [hBe] at hB hD
  have HN := Lib.hid hn
  have HN2 := Lib.hid hn2
  have HLL := Lib.hid hll
  have HPN := Lib.hid hpn
  have HB := Lib.hid hB
  have HD := Lib.hid hD
  have HC := Lib.hid C
  clear hn hn2 hll haa hab hpn hpn2
  go_enter Tryz.func16, Tryz.ntmps16
  go_upto_region 1 with (fail)
  try rw [hW]
  try rw [hBe]
  clear hW hBe
  go_wp2
  clear hB hD C
  go_loopw [51] (fun i wr => ∃ j : Nat, i = I j ∧ j ≤ n ∧ Ch [] W wr) (fun i _ => n - (intOf i).toNat)
  case atStart => exact ⟨0, rfl, by omega, Ch.refl _ _⟩
  case round =>
    obtain ⟨j, hi, hj, c1⟩ := hrel
    subst hi
    rcases (show j = n ∨ j < n by omega) with rfl | hlt
    · have hB1 := bkeep c1 HB.out
      have c1w := HC.out.trans c1
      go_wp2
      clear hB1
      go_loopw [87] (fun i wr => ∃ k : Nat, i = I k ∧ k ≤ pn ∧ Ch [] W wr) (fun i _ => pn - (intOf i).toNat)
      case atStart => exact ⟨0, rfl, by omega, c1⟩
      case round =>
        obtain ⟨k, hi, hk, c2⟩ := hrel
        subst hi
        clear c1 c1w
        rcases (show k = pn ∨ k < pn by omega) with rfl | hlt
        · have c2w := HC.out.trans c2
          clear c2
          go_wp2
          go_ret
          exact ⟨rfl, c2w⟩
        · obtain ⟨x, hx⟩ : ∃ x, ks[k]? = some x := ⟨_, List.getElem?_eq_getElem (by have := HPN.out; omega)⟩
          obtain ⟨q, o, rfl, hq⟩ := (PS.out.ch (HC.out.trans c2)).get hx
          obtain ⟨q2, o2, rfl, hq2⟩ := (PT.out.ch (HC.out.trans c2)).get hx
          have hD1 := bkeep c2 HD.out
          have hkn : (k : Int) < pn := by omega
          have hC2 := Lib.hid c2
          clear c2 hx
          go_wp2
          go_roundw
          case rel => exact ⟨k + 1, by go_num, by omega, hC2.out⟩
          case measure => simp [intOf]; omega
    · obtain ⟨sx, hs⟩ : ∃ s, ls[j]? = some s := ⟨_, List.getElem?_eq_getElem (by have := HN.out; omega)⟩
      obtain ⟨tx, ht⟩ : ∃ s, ls2[j]? = some s := ⟨_, List.getElem?_eq_getElem (by have := HN2.out; omega)⟩
      have hlx : tx.l = sx.l := by
        have h := congrArg (fun l => l[j]?) HLL.out
        simp only [List.getElem?_map, hs, ht, Option.map_some] at h
        exact Option.some.inj h
      have h66 : sx.l.length ≤ 66 := HCA.out sx (List.mem_of_getElem? hs)
      obtain ⟨L, o, e1, hcell, hrow⟩ := GS.out j sx wr (HC.out.trans c1) hs
      obtain ⟨L2, o2, e2, hx1, hx2⟩ := GT.out j tx wr (HC.out.trans c1) ht
      clear hx1 hx2
      obtain ⟨_, _, hx3, hx4, hrowW⟩ := GS.out j sx W HC.out hs
      clear hx3 hx4
      obtain ⟨_, _, hx3, hx4, hrowW2⟩ := GT.out j tx W HC.out ht
      clear hx3 hx4
      subst e1 e2
      obtain ⟨sa, sc, xl⟩ := sx
      obtain ⟨ta, tc, yl⟩ := tx
      dsimp only at hlx h66 hcell hrow hrowW hrowW2
      subst hlx
      obtain ⟨m, hm⟩ : ∃ m, yl.length = m := ⟨_, rfl⟩
      rw [hm] at h66 hcell
      have GT2 := Lib.hid (fun wr (c : Ch [] W wr) => GT.out j _ wr (HC.out.trans c) ht)
      dsimp only at GT2
      rw [hm] at GT2
      have hjn : (j : Int) < n := by omega
      have hD1 := bkeep c1 HD.out
      obtain ⟨L3, o3, e3, hcell2, hrow2⟩ := GT2.out wr c1
      simp only [Option.some.injEq, Addr.mk.injEq, and_true] at e3
      obtain ⟨rfl, rfl⟩ := e3
      clear hs ht
      have HC1 := Lib.hid c1
      have HRO := Lib.hid hrowW
      have HRO2 := Lib.hid hrowW2
      have HM := Lib.hid hm
      clear c1 hrow hrow2 hm hrowW hrowW2
      go_wp2
      clear hcell hcell2 hD1
      go_loopw [67] (fun i wr => ∃ k : Nat, i = I k ∧ k ≤ m ∧ Ch [] W wr) (fun i _ => m - (intOf i).toNat)
      case atStart => exact ⟨0, rfl, by omega, HC1.out⟩
      case round =>
        obtain ⟨k, hi, hk, c2⟩ := hrel
        subst hi
        rcases (show k = m ∨ k < m by omega) with rfl | hlt2
        · have HC2 := Lib.hid c2
          clear c2
          go_wp2
          go_roundw
          case rel => exact ⟨j + 1, by go_num, by omega, HC2.out⟩
          case measure => simp [intOf]; omega
        · obtain ⟨c, hc⟩ : ∃ c, yl[k]? = some c := ⟨_, List.getElem?_eq_getElem (by have := HM.out; omega)⟩
          have hne : yl ≠ [] := fun e => by rw [e] at hc; cases hc
          obtain ⟨xb, xo, rfl, hr⟩ : ∃ b o, sa = some ⟨b, o, none⟩ ∧ RowIn W b o yl := by
            rcases HRO.out with h | h
            · exact absurd h hne
            · exact h
          obtain ⟨zb, zo, rfl, hr2⟩ : ∃ b o, ta = some ⟨b, o, none⟩ ∧ RowIn W b o yl := by
            rcases HRO2.out with h | h
            · exact absurd h hne
            · exact h
          have hr4 := row_in (hr.ch c2) hc
          have HR5 := Lib.hid (fun w3 (c3 : Ch [] W w3) => row_in (hr2.ch c3) hc)
          have hkm : (k : Int) < m := by omega
          have one := oneC c.op c.k c.x c.y
          have HC2 := Lib.hid c2
          clear c2 hc hr hr2
          go_upto_region 11 with (fail)
          have hV := call_put c.op c.k c.x c.y wr
          have C3 := HC2.out.trans (call_put_ch #[I c.op, U c.k, U c.x, U c.y] wr)
          obtain ⟨w3, hw3⟩ : ∃ W, World.onObj (wr.alloc (.cells zeroCall 44)) wr.heap.size (laidAt 0 #[I c.op, U c.k, U c.x, U c.y]) = W := ⟨_, rfl⟩
          rw [hw3] at hV C3 ⊢
          obtain ⟨V, hVe⟩ : ∃ b, wr.heap.size = b := ⟨_, rfl⟩
          rw [hVe] at hV ⊢
          clear hw3 hVe hr4
          have hr5 := HR5.out w3 C3
          obtain ⟨L4, o4, e4, hcell3, hx5⟩ := GT2.out w3 C3
          simp only [Option.some.injEq, Addr.mk.injEq, and_true] at e4
          obtain ⟨rfl, rfl⟩ := e4
          have hD2 := bkeep C3 HD.out
          have HC3 := Lib.hid C3
          clear C3 hx5
          go_quiet (fail)
          go_wp2
          go_roundw
          case rel => exact ⟨k + 1, by go_num, by omega, HC3.out.drewN _⟩
          case measure => simp [intOf]; omega
end Go.Proofs.Hc
