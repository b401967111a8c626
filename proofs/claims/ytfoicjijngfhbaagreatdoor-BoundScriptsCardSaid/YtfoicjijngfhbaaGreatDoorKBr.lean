/- A map from words to numbers that counts. -/
import Derived.Test.YtfoicjijngfhbaaGreatDoorKBc
import Derived.Test.YtfoicjijngfhbaaGreatDoorKBd
import Derived.Test.YtfoicjijngfhbaaGreatDoorKDa
import Derived.Test.YtfoicjijngfhbaaGreatDoorKFm
import Derived.Test.YtfoicjijngfhbaaGreatDoorKEk
import Derived.Test.YtfoicjijngfhbaaGreatDoorKHm
import Derived.Test.YtfoicjijngfhbaaGreatDoorKHr
import Derived.Below
import Derived.BigQuiet
import Derived.Deep.Cut
import Derived.Deep.Draws
import Derived.Deep.QuietTactic
import Derived.Deep.RegionHeld
import Derived.Laws.AppendOwn
import Derived.Laws.CopyRow
import Derived.Laws.EntriesVeiled
import Derived.Laws.Tables
import Derived.Lib.AppendZerosOnto
import Derived.Lib.Hide
import Derived.LoopIn
import Derived.LoopNIn
import Derived.Maps.RangeWalk
import Derived.Maps.Views
import Derived.OwnWalkIn
import Derived.RangeFuncCalls
import Derived.RangeFuncRecord
import Derived.RangeFuncSeq
import Derived.Recover
import Derived.TacticsInMore
import Derived.Test.YtfoicjijngfhbaaGreatDoorProg
import Derived.WalkKit
import Derived.WalkLawsBesides
import Derived.Deep.OwnRows
import Derived.Laws.CopyOwn
import Derived.Lib.Tables
set_option linter.unusedSimpArgs false
set_option linter.unusedVariables false
namespace Go.Proofs.Hc
open Go.RowKit
set_option linter.unusedVariables false
noncomputable abbrev mapR : Value → Option (DataW Unit × List MemPlace) := plainElem Tryz.prog 3
theorem keyLawB : Go.Maps.Keyed Tryz.prog 22 := Go.Maps.int_keyed Tryz.underlying22
theorem wf_u64B (k : BitVec 64) : (Lit.int .u64 (N k)).wf = true := by
  have h := k.isLt
  have h2 : (IntKind.u64.max : Int) = 18446744073709551615 := by decide
  have h3 : (IntKind.u64.min : Int) = 0 := by decide
  simp [Lit.wf, N, h2, h3]; omega
theorem zeroIntB (w : World) : (zeroValue 3).run Tryz.prog w = .ok (.int .i64 0) w := by kernel_rfl
/-- The datum D counts f: it has the keys at which f is not nought. -/
def Counts (D : DataW Unit) (f : BitVec 64 → Int) : Prop := ∀ k : BitVec 64, D.atKey (.int .u64 (N k)) (.lit (.int .i64 0)) = .lit (.int .i64 (f k)) ∧ Maps.has D (.int .u64 (N k)) = decide (f k ≠ 0)
/-- Block bm is a map of at most n entries that counts f. -/
def CntAt (w : World) (bm n : Nat) (f : BitVec 64 → Int) : Prop := ∃ D : DataW Unit, w.ownsMap Tryz.prog 22 mapR bm n D ∧ Counts D f
theorem cnt_made (w : World) : CntAt (w.alloc (.map #[] 0)) w.heap.size 0 fun _ => 0 := ⟨.map [], World.ownsMap_made _ _ _ _, fun _ => ⟨rfl, rfl⟩⟩
theorem cnt_look {w : World} {bm n : Nat} {f : BitVec 64 → Int} (h : CntAt w bm n f) (k : BitVec 64) :
    (Instr.lookup 61 (.map (some bm)) (U k) false).run Tryz.prog w = .ok (I (f k)) w := by
  obtain ⟨D, ho, hf⟩ := h
  obtain ⟨c, hr, hc, _⟩ := ho.lookup_int keyLawB Tryz.underlying61 Tryz.underlying3 (zeroIntB _) (Go.Maps.keyOf_int_mk Tryz.underlying22 (wf_u64B k))
  rw [(hf k).1] at hc
  have : f k = c := by simpa using hc
  rw [this]; exact hr
theorem cnt_put {w : World} {bm n : Nat} {f : BitVec 64 → Int} (h : CntAt w bm n f) (hn : n < 1000000) (k : BitVec 64) (x : Int) (h0 : x ≠ 0) (hx : (Lit.int .i64 x).wf = true) :
    ∃ w', (Instr.mapUpdate 61 (.map (some bm)) (U k) (I x)).run Tryz.prog w = .ok () w' ∧ CntAt w' bm (n + 1) (fun j => if j = k then x else f j) ∧ Ch [bm] w w' ∧ w'.heap.size = w.heap.size := by
  obtain ⟨D, ho, hf⟩ := h
  have hm : Go.Maps.IsMap D := ⟨_, ho.choose_spec.choose_spec.2.2.2⟩
  obtain ⟨es, clock, hb, F, hs, hD⟩ := ho
  obtain ⟨es', clock', hrun, F', hput, _⟩ := Go.Maps.fit_store (R' := mapR) keyLawB Tryz.underlying61 hb F (Nat.lt_of_le_of_lt hs (by unfold maxLen; omega)) (fun _ _ _ _ hz => hz) (Go.Maps.keyOf_int_mk Tryz.underlying22 (wf_u64B k)) (plainElem_int (H := Unit) Tryz.underlying3 hx)
  obtain ⟨w', hr, ho', hg⟩ := World.ownsMap.update ⟨es, clock, hb, F, hs, hD⟩ keyLawB Tryz.underlying61 (by unfold maxLen; omega) (Go.Maps.keyOf_int_mk Tryz.underlying22 (wf_u64B k)) (plainElem_int (H := Unit) Tryz.underlying3 hx)
  refine ⟨w', hr, ⟨_, ho', fun j => ⟨?_, ?_⟩⟩, Ch.of_grown hg (fun b hb => by simpa using hb.symm), ?_⟩
  · show _ = DataW.lit (Lit.int .i64 (if j = k then x else f j))
    by_cases hj : j = k
    · subst hj
      rw [if_pos rfl]
      exact Go.Maps.atKey_put_same hm (Go.Maps.Keyed.key keyLawB (Go.Maps.keyOf_int_mk Tryz.underlying22 (wf_u64B j))) _ _
    · have hne : Lit.int .u64 (N j) ≠ Lit.int .u64 (N k) := fun e => hj ((N_inj _ _).1 (by simpa using e))
      rw [if_neg hj, Go.Maps.atKey_put_other hne]
      exact (hf j).1
  · show _ = decide ((if j = k then x else f j) ≠ 0)
    by_cases hj : j = k
    · subst hj
      rw [if_pos rfl, Go.Maps.has_put_same hm (Go.Maps.Keyed.key keyLawB (Go.Maps.keyOf_int_mk Tryz.underlying22 (wf_u64B j)))]
      exact (decide_eq_true h0).symm
    · have hne : Lit.int .u64 (N j) ≠ Lit.int .u64 (N k) := fun e => hj ((N_inj _ _).1 (by simpa using e))
      rw [if_neg hj, Go.Maps.has_put_other hne]
      exact (hf j).2
  · have h1 := hrun.symm.trans hr
    have h2 : w' = _ := (Result.ok.inj h1).2.symm
    rw [h2]; simp [Go.ChangeMaps.setBlock]
theorem cnt_ch {w w' : World} {bm n : Nat} {f : BitVec 64 → Int} {S : List Nat} (h : CntAt w bm n f) (c : Ch S w w') (hS : bm ∉ S) : CntAt w' bm n f := by
  obtain ⟨D, ⟨es, clock, hb, r⟩, hf⟩ := h
  exact ⟨D, ⟨es, clock, (c.block bm (Array.getElem?_eq_some_iff.1 hb).1 hS).trans hb, r⟩, hf⟩
theorem cnt_lt {w : World} {bm n : Nat} {f : BitVec 64 → Int} (h : CntAt w bm n f) : bm < w.heap.size := by
  obtain ⟨D, ⟨es, clock, hb, r⟩, hf⟩ := h
  exact (Array.getElem?_eq_some_iff.1 hb).1
theorem cnt_mono {w : World} {bm n m : Nat} {f : BitVec 64 → Int} (h : CntAt w bm n f) (hm : n ≤ m) : CntAt w bm m f := by
  obtain ⟨D, ⟨es, clock, hb, F, hs, hD⟩, hf⟩ := h
  exact ⟨D, ⟨es, clock, hb, F, Nat.le_trans hs hm, hD⟩, hf⟩
/-- A row of four cells. -/
theorem row4_of {w : World} {b o : Nat} {v0 v1 v2 v3 : Value} (h0 : w.cell? ⟨b, o, none⟩ = some v0) (h1 : w.cell? ⟨b, o + 1, none⟩ = some v1) (h2 : w.cell? ⟨b, o + 2, none⟩ = some v2) (h3 : w.cell? ⟨b, o + 3, none⟩ = some v3) :
    (w.heap[b]?).bind (rowAt o 4) = some #[v0, v1, v2, v3] := by
  unfold World.cell? at h0 h1 h2 h3
  cases hb : w.heap[b]? with
  | none => rw [hb] at h0; cases h0
  | some ob =>
    rw [hb] at h0 h1 h2 h3
    cases ob with
    | cells c t fr =>
      simp at h0 h1 h2 h3
      have hs : o + 3 < c.size := (Array.getElem?_eq_some_iff.1 h3).1
      rw [Option.bind_some, rowAt_cells, if_pos (by omega)]
      congr 1
      apply Array.ext_getElem?
      intro i
      rw [Array.getElem?_extract]
      match i with
      | 0 => rw [if_pos (by omega)]; simpa using h0
      | 1 => rw [if_pos (by omega)]; simpa using h1
      | 2 => rw [if_pos (by omega)]; simpa using h2
      | 3 => rw [if_pos (by omega)]; simpa using h3
      | k + 4 => rw [if_neg (by omega)]; rfl
    | _ => simp at h0
theorem row_in {w : World} {b o : Nat} {l : List CallT} (h : RowIn w b o l) {i : Nat} {c : CallT} (hi : l[i]? = some c) : (w.heap[b]?).bind (rowAt (o + i * 4) 4) = some #[I c.op, U c.k, U c.x, U c.y] := by
  have g : ∀ j u, (CallT.cells c)[j]? = some u → (crow l)[i * 4 + j]? = some u := fun j u hj => by
    obtain ⟨hlt, he⟩ := List.getElem?_eq_some_iff.1 hi
    have hcr : crow l = crow (l.take i) ++ (CallT.cells c ++ crow (l.drop (i + 1))) := by
      have : l = l.take i ++ (c :: l.drop (i + 1)) := by rw [← he, ← List.drop_eq_getElem_cons hlt, List.take_append_drop]
      conv => lhs; rw [this]
      rw [crow_append]
      rfl
    have hlen : (crow (l.take i)).length = i * 4 := by rw [crow_len, List.length_take, Nat.min_eq_left (by omega)]
    have hj4 : j < (CallT.cells c).length := (List.getElem?_eq_some_iff.1 hj).1
    rw [hcr, List.getElem?_append_right (by omega), hlen, Nat.add_sub_cancel_left, List.getElem?_append_left hj4]
    exact hj
  have r : ∀ j u, (CallT.cells c)[j]? = some u → w.cell? ⟨b, o + i * 4 + j, none⟩ = some u := fun j u hj => by
    have := h _ _ (g j u hj)
    rw [← Nat.add_assoc] at this
    exact this
  exact row4_of (r 0 _ rfl) (r 1 _ rfl) (r 2 _ rfl) (r 3 _ rfl)
end Go.Proofs.Hc
/- Package hash: prefix, hashes of one key. -/
namespace Go.Proofs.Hc
open Go.RowKit
set_option linter.unusedVariables false
attribute [local go_sem] wrap_u64 wrap_u8 bits_xor64 bits_and64 bits_or64 bits_not64 bits_xor8 bits_and8 bits_or8 signed64 signed8 ofInt_N BitVec.ofInt_add BitVec.ofInt_mul ofInt_sub' ofInt8_N64 ofInt64_N8 wide8 eqN neN shr_pow shr1 shr7 shr56
attribute [local go_sem high] bits_com64 shl_wrap
attribute [local go_sem] nn2 nm2 nn3 nm3 nn4 nm4 nn5 nm5 nn6 nm6 nn7 nm7 nn8 nm8
attribute [local go_sem] Oper.semAt_some make_func1 make_funcB
attribute [local go_sem] cell_heap ice_heap cellAt_cells iceAt_cells setAt_cells size_setCell rowAt_cells canLay_cells laidAt_cells size_onObj rowRes_some layRes_true
attribute [local go_sem ↓] heap_alloc heap_drew heap_drewN heap_setCell heap_putObj heap_onObj
theorem prefix0_any (h : BitVec 64) (w : World) : Calls Tryz.prog 82 #[U h, I 0] w fun e w' => e = .returned (U 0#64) ∧ w = w' := by
  have hz : N h / 18446744073709551616 = 0 := Int.ediv_eq_zero_of_lt (N_nonneg h) (by have := h.isLt; unfold N; omega)
  go_enter Tryz.func82, Tryz.ntmps82
  go_wp2
  go_ret
  exact ⟨rfl, rfl⟩
theorem boxSe (xs : Array Value) (w : World) : (Instr.box 100 (.agg xs)).run Tryz.prog w = .ok (.pointer (some ⟨w.heap.size, 0, none⟩)) (w.alloc (.cells xs 100)) := rfl
attribute [local go_sem] boxSe
theorem hashes_any (a : Option Addr) (n c : Nat) (sd : BitVec 64) (w : World) : Calls Tryz.prog 81 #[.agg #[.slice a n c, U sd]] w fun e w' => e = .returned (.func (.func 95) #[] #[.pointer (some ⟨w.heap.size, 0, none⟩)]) ∧ w'.heap[w.heap.size]? = some (.cells #[.slice a n c, U sd] 100 (0, 0)) ∧ Ch [] w w' := by
  go_enter Tryz.func81, Tryz.ntmps81
  go_wp2
  go_ret
  exact ⟨rfl, by rw [heap_alloc, if_pos rfl], (Ch.refl [] w).alloc _⟩
theorem enters_hashes (args : Array Value) (w : World) : (callFunc 95 args).run Tryz.prog w = .ok (.enter 95 args) w := by kernel_rfl
set_option maxHeartbeats 1000000 in
set_option maxRecDepth 100000 in
theorem hashes_yields (sd k : BitVec 64) (S q : Nat) (w : World) (hS : w.heap[S]? = some (.cells #[.slice (some ⟨q, 0, none⟩) 1 1, U sd] 100 (0, 0))) (hq : w.heap[q]? = some (.cells #[U k] 22 (0, 0))) :
    Yields Tryz.prog 95 #[.pointer (some ⟨S, 0, none⟩)] (fun h : BitVec 64 => #[U h]) [hashOf sd k] [] [] w := by
  intro n l J Jx W hW hk hJ hJx hY h0
  have s0 := bkeep hW hS
  have q0 := bkeep hW hq
  have O1 := fun w => hashOf_any sd k w
  obtain ⟨h, hh⟩ : ∃ h, hashOf sd k = h := ⟨_, rfl⟩
  rw [hh] at O1 hY ⊢
  have hmm := @run_makeMap Tryz.prog
  have hcm := cnt_made W
  have C1 : Ch [] W (W.alloc (.map #[] 0)) := (Ch.refl [] W).alloc _
  have j1 := hJ _ _ _ h0 C1
  have s1 := bkeep C1 s0
  have q1 := bkeep C1 q0
  obtain ⟨W1, hW1⟩ : ∃ W1, W.alloc (.map #[] 0) = W1 := ⟨_, rfl⟩
  rw [hW1] at hcm C1 j1 s1 q1
  obtain ⟨M, hM⟩ : ∃ M, W.heap.size = M := ⟨_, rfl⟩
  rw [hM] at hcm
  have hlk := cnt_look hcm k
  obtain ⟨W2, hu, hcn2, hc2, hz2⟩ := cnt_put hcm (by omega) k 1 (by decide) (by decide)
  have hlk2 := cnt_look hcn2 k
  rw [if_pos rfl] at hlk2
  have hC2 : Ch [] W W2 := C1.trans2 hc2 (fun t ht => .inr (by rw [List.mem_singleton.1 ht, hM]; exact Nat.le_refl _))
  have s2 := bkeep hC2 s0
  have j2 := hJ _ _ _ h0 hC2
  obtain ⟨fn, tmps, assign, body, hy, hR⟩ := hY [] h [] W2 rfl j2
  have HJ := Lib.hid hJ
  have HJX := Lib.hid hJx
  clear hW hk hJ hJx hY h0 s0 q0 hcm C1 j1 hcn2 hc2 hz2 hC2 j2 hS hq hh
  refine callsIn_of_wp Tryz.func95 rfl trivial ?_
  simp only [Tryz.ntmps95, List.size_toArray, List.length_cons, List.length_nil, Nat.reduceAdd, Nat.reduceSub, Array.replicate_succ, Array.replicate_zero, List.push_toArray, List.append_toArray, List.nil_append, List.cons_append]
  gi_wp2
  gi_loopw [10] (fun i wr => (i = I 0 ∧ wr = W1) ∨ (i = I 1 ∧ J [h] wr)) (fun i _ => 1 - (intOf i).toNat)
  case atStart => exact .inl ⟨rfl, rfl⟩
  case round =>
    rcases hrel with ⟨hi, hwr⟩ | ⟨hi, hj⟩
    · subst hi
      rw [hwr]
      clear hwr
      gi_wp2_with (refine ⟨trivial, ?_⟩; gi_at_call 96; refine (callsIn_wide.2 (O1 _)).mono ?_; rintro e w' ⟨rfl, rfl⟩)
      refine hR.mono ?_
      rintro e W3 (⟨rfl, hJ3, hz3, hk3⟩ | ⟨rfl, hJx3⟩)
      · clear hk3 hy
        gi_wp2
        go_roundw
        case rel => exact .inr ⟨rfl, hJ3⟩
        case measure => decide
      · gi_wp2
        refine bodyPost_ret (results_none rfl _ _ _) rfl ?_
        exact ⟨⟨_, rfl⟩, .inr hJx3⟩
    · subst hi
      gi_wp2
      refine bodyPost_end (results_none rfl _ _ _) rfl ?_
      exact ⟨⟨_, rfl⟩, .inl hj⟩
/-- Is a count more than so many? -/
theorem deep1_any (n m : Int) (b : Nat) (w : World) (hb : w.heap[b]? = some (.cells #[I m] 3 (0, 0))) : Calls Tryz.prog 60 #[I n, .pointer (some ⟨b, 0, none⟩)] w fun e w' => e = .returned (.bool (decide (m < n))) ∧ w = w' := by
  go_enter Tryz.func60, Tryz.ntmps60
  go_wp2
  go_ret
  exact ⟨rfl, rfl⟩
end Go.Proofs.Hc
