/- Law 20, RehashTakes: what its walk wants. -/
import Derived.Test.YtcikopeddljgkaaGreatKTi
set_option linter.unusedSimpArgs false
set_option linter.unusedVariables false
namespace Go.Proofs.Hc
open Go.RowKit
theorem acc_fields : (Tryz.prog.fieldsOf 87).toList.map (fun f => (f.type, f.offset)) = [(3, 0), (3, 1), (3, 2), (22, 3), (22, 4)] := by kernel_rfl
theorem acc_under : Tryz.prog.underlying 87 = some (.struct (Tryz.prog.fieldsOf 87)) := by kernel_rfl
theorem acc_stood : Tryz.prog.stoodInHeld 87 = false := by kernel_rfl
theorem self_acc (d : Nat) (a b c e : Int) : SelfEq (d + 2) 87 (.agg (accC a b c e)) := fun w => by
  rw [run_equalIn_agg w (d + 1) 87 _ _ acc_under acc_stood]
  refine self_fields _ (fun f hf => ?_) w
  have hm : (f.type, f.offset) ∈ [(3, 0), (3, 1), (3, 2), (22, 3), (22, 4)] := by
    rw [← acc_fields]; exact List.mem_map.2 ⟨f, hf, rfl⟩
  generalize f.type = T at *
  generalize f.offset = o at *
  simp only [List.mem_cons, Prod.mk.injEq, List.not_mem_nil, or_false] at hm
  rcases hm with ⟨rfl, rfl⟩ | ⟨rfl, rfl⟩ | ⟨rfl, rfl⟩ | ⟨rfl, rfl⟩ | ⟨rfl, rfl⟩
  · exact ⟨I a, part_int Tryz.underlying3 rfl, self_int _ _ _ _ _ Tryz.underlying3⟩
  · exact ⟨I b, part_int Tryz.underlying3 rfl, self_int _ _ _ _ _ Tryz.underlying3⟩
  · exact ⟨I c, part_int Tryz.underlying3 rfl, self_int _ _ _ _ _ Tryz.underlying3⟩
  · exact ⟨.int .u64 0, part_int Tryz.underlying22 rfl, self_int _ _ _ _ _ Tryz.underlying22⟩
  · exact ⟨.int .u64 e, part_int Tryz.underlying22 rfl, self_int _ _ _ _ _ Tryz.underlying22⟩
theorem neq_acc (a b c e : Int) (w : World) : (binOp .neq 87 (.agg (accC a b c e)) (.agg (accC a b c e))).run Tryz.prog w = .ok (.bool false) w := by
  rw [run_neq_struct, self_acc 9998 a b c e w]; rfl
theorem guardAcc (op : BinOp) (x y : Operand) (xs ys : Array Value) (w : World) : (eqGuard op 87 x y (.agg xs) (.agg ys)).run Tryz.prog w = .ok () w := run_eqGuard_agg w op 87 x y xs ys (by kernel_rfl)
theorem zacc (w : World) : (w.alloc (.cells (accC 0 0 0 0) 87)).heap[w.heap.size]? = some (.cells (accC 0 0 0 0) 87 (0, 0)) := by rw [zac, if_pos rfl]
theorem zacc_ch (w : World) : Ch [] w (w.alloc (.cells (accC 0 0 0 0) 87)) := (Ch.refl [] w).alloc _
theorem lStep_is20 {l : List (BitVec 64)} {p : LayT} {n : Nat} {z : List (BitVec 64) × LayT} (h1 : 1 ≤ n) (hn : n ≤ 8192) (hl : l.length = n) (hr : rightL p = true) (hz : stepL l p = some z) (r c : Nat) (cur : Array Value) (hw : WordsAt cur l) (w : World) (hb : w.heap[r]? = some (.cells cur 22 (0, 0))) :
    Calls Tryz.prog 63 #[.slice (some ⟨r, 0, none⟩) n c, .agg (layC p)] w fun e w' => ∃ R, e = .returned (.tuple #[.slice (some ⟨R, 0, none⟩) n n, .agg (layC z.2), I 0]) ∧ z.1.length = n ∧ w.heap.size ≤ R ∧ w'.heap[R]? = some (.cells (wcells z.1) 22 (0, 0)) ∧ Ch [] w w' := by
  subst hl
  refine (lStep_any l r c cur p w h1 hn hb hw hr).mono ?_
  intro e w' h
  unfold StepLPost at h
  rw [hz] at h
  obtain ⟨R, rfl, hrow, hyl, hC⟩ := h
  exact ⟨R, by rw [hyl], hyl, hrow.1, hrow.2, hC⟩
theorem lStep_isnt20 {l : List (BitVec 64)} {p : LayT} {n : Nat} (h1 : 1 ≤ n) (hn : n ≤ 8192) (hl : l.length = n) (hr : rightL p = true) (hz : stepL l p = none) (r c : Nat) (cur : Array Value) (hw : WordsAt cur l) (w : World) (hb : w.heap[r]? = some (.cells cur 22 (0, 0))) :
    Calls Tryz.prog 63 #[.slice (some ⟨r, 0, none⟩) n c, .agg (layC p)] w fun e w' => e = .returned (.tuple #[.slice none 0 0, .agg (layC zeroLay), I 2]) ∧ Ch [] w w' := by
  subst hl
  refine (lStep_any l r c cur p w h1 hn hb hw hr).mono ?_
  intro e w' h
  unfold StepLPost at h
  rw [hz] at h
  exact h
theorem r20Step_same (R2 c3 : Nat) (cur2 : Array Value) (LL : List (BitVec 64)) (m : Nat) (p : LayT) (h5 : ¬ p.ph ≤ 4) (w : World) (hb : w.heap[R2]? = some (.cells cur2 22 (0, 0))) (hw : WordsAt cur2 LL) :
    Calls Tryz.prog 64 #[.slice (some ⟨R2, 0, none⟩) m c3, .agg (layC p)] w fun e w' => ∃ R c2 cur, e = .returned (.tuple #[.slice (some ⟨R, 0, none⟩) m c2, .agg (layC p)]) ∧ WordsAt cur LL ∧ w'.heap[R]? = some (.cells cur 22 (0, 0)) ∧ Ch [] w w' := by
  refine (r20Step_over _ p h5 w).mono ?_
  rintro e w' ⟨rfl, hC⟩
  exact ⟨R2, c3, cur2, rfl, hw, hkeep hC hb, hC⟩
theorem kq {w w' : World} (c : Ch [] w w') {k : Nat} {o : Obj} (h : w.heap[k]? = some o) : w'.heap[k]? = some o := hkeep c h
end Go.Proofs.Hc
