/- Leaf contracts: words, bytes, hashes. -/
import Derived.Test.YtcikopeddljgkaaGreatJHdv
import Derived.Deep.OwnRows
import Derived.Laws.CopyOwn
set_option linter.unusedSimpArgs false
set_option linter.unusedVariables false
set_option maxHeartbeats 1000000
set_option maxRecDepth 100000
namespace Go.Proofs.Hc
open Go.RowKit
def lows : BitVec 64 := 0x7f7f7f7f7f7f7f7f#64
def tops : BitVec 64 := 0x8080808080808080#64
def ones : BitVec 64 := 0x0101010101010101#64
def byteAt (x : BitVec 64) (n : Nat) : BitVec 8 := (x >>> (8 * n)).setWidth 8
def withB (x : BitVec 64) (n : Nat) (b : BitVec 8) : BitVec 64 := (x &&& ~~~(255#64 <<< (8 * n))) ||| (b.setWidth 64 <<< (8 * n))
def noughts (x : BitVec 64) : BitVec 64 := ~~~(((x &&& lows) + lows) ||| x ||| lows)
def gathered (x : BitVec 64) : BitVec 8 := (((x >>> 7) * 0x0102040810204080#64) >>> 56).setWidth 8
def fillB (b : BitVec 8) : BitVec 64 := b.setWidth 64 * ones
def alike (v w : BitVec 64) : BitVec 8 := gathered (noughts (v ^^^ w))
def equalM (w : BitVec 64) (b : BitVec 8) : BitVec 8 := alike w (fillB b)
def lessM (x y : BitVec 64) : BitVec 64 := ~~~((x ||| tops) - (y &&& lows)) &&& tops
def belowM (x : BitVec 64) (b : BitVec 8) : BitVec 8 := gathered ((~~~x &&& fillB b &&& tops) ||| (~~~(x ^^^ fillB b) &&& lessM x (fillB b)))
def mixF (x : BitVec 64) (n : Nat) : BitVec 64 := x ^^^ (x >>> n)
def hashOf (s k : BitVec 64) : BitVec 64 := mixF (mixF ((k ^^^ s) * 0xbf58476d1ce4e5b9#64) 32 * 0x94d049bb133111eb#64) 29
def hash1 (h : BitVec 64) : BitVec 64 := h >>> 7
def hash2 (h : BitVec 64) : BitVec 8 := h.setWidth 8 &&& 127#8
attribute [local go_sem] zbu zcc zax zbf zbo zbd zbn zbp zbw signed64 signed8 zap BitVec.ofInt_add BitVec.ofInt_mul ofInt_sub' zbb zbc wide8 eqN neN zca shr1 shr7 shr56
attribute [local go_sem high] zbe zbv
theorem shift_any (n : Nat) (w : World) (h : n < 8) :
    Calls Tryz.prog 279 #[I n] w fun e w' => e = .returned (I ((8 * n : Nat) : Int)) ∧ w = w' := by
  go_enter Tryz.func279, Tryz.ntmps279
  go_wp2
  go_ret
  exact ⟨by rw [show ((8 * n : Nat) : Int) = (n : Int) * 8 by omega]; rfl, rfl⟩
theorem word_at_any (x : BitVec 64) (n : Nat) (w : World) (h : n < 8) :
    Calls Tryz.prog 231 #[U x, I n] w fun e w' => e = .returned (Y (byteAt x n)) ∧ w = w' := by
  go_enter Tryz.func231, Tryz.ntmps231
  go_wp2_with (go_at_call 279; refine (shift_any _ _ h).mono ?_; rintro e w' ⟨rfl, rfl⟩)
  go_ret
  exact ⟨rfl, rfl⟩
theorem noughts_any (x : BitVec 64) (w : World) :
    Calls Tryz.prog 317 #[U x] w fun e w' => e = .returned (U (noughts x)) ∧ w = w' := by
  go_enter Tryz.func317, Tryz.ntmps317
  go_wp2
  go_ret
  exact ⟨by unfold noughts lows; rfl, rfl⟩
theorem gathered_any (x : BitVec 64) (w : World) :
    Calls Tryz.prog 307 #[U x] w fun e w' => e = .returned (Y (gathered x)) ∧ w = w' := by
  go_enter Tryz.func307, Tryz.ntmps307
  go_wp2
  go_ret
  exact ⟨by unfold gathered; rfl, rfl⟩
theorem with_any (x : BitVec 64) (n : Nat) (b : BitVec 8) (w : World) (h : n < 8) :
    Calls Tryz.prog 321 #[U x, I n, Y b] w fun e w' => e = .returned (U (withB x n b)) ∧ Ch [] w w' := by
  go_enter Tryz.func321, Tryz.ntmps321
  go_wp2
  go_quiet ((go_at_call 279; exact quietL (shift_any _ _ h)))
  go_wp2
  go_ret
  exact ⟨by unfold withB; rfl, (Ch.refl [] w).drewN nq⟩
theorem fillB_any (b : BitVec 8) (w : World) :
    Calls Tryz.prog 216 #[Y b] w fun e w' => e = .returned (U (fillB b)) ∧ w = w' := by
  go_enter Tryz.func216, Tryz.ntmps216
  go_wp2
  go_ret
  exact ⟨by unfold fillB ones; rfl, rfl⟩
theorem alike_any (x y : BitVec 64) (w : World) :
    Calls Tryz.prog 305 #[U x, U y] w fun e w' => e = .returned (Y (alike x y)) ∧ w = w' := by
  go_enter Tryz.func305, Tryz.ntmps305
  go_wp2_with (first
    | (go_at_call 317; refine (noughts_any _ _).mono ?_; rintro e w' ⟨rfl, rfl⟩)
    | (go_at_call 307; refine (gathered_any _ _).mono ?_; rintro e w' ⟨rfl, rfl⟩))
  go_ret
  exact ⟨rfl, rfl⟩
theorem equal_any (x : BitVec 64) (b : BitVec 8) (w : World) :
    Calls Tryz.prog 264 #[U x, Y b] w fun e w' => e = .returned (Y (equalM x b)) ∧ w = w' := by
  go_enter Tryz.func264, Tryz.ntmps264
  go_wp2_with (first
    | (go_at_call 216; refine (fillB_any _ _).mono ?_; rintro e w' ⟨rfl, rfl⟩)
    | (go_at_call 305; refine (alike_any _ _ _).mono ?_; rintro e w' ⟨rfl, rfl⟩))
  go_ret
  exact ⟨rfl, rfl⟩
theorem below_any (x : BitVec 64) (b : BitVec 8) (w : World) :
    Calls Tryz.prog 275 #[U x, Y b] w fun e w' => e = .returned (Y (belowM x b)) ∧ w = w' := by
  go_enter Tryz.func275, Tryz.ntmps275
  go_wp2_with (first
    | (go_at_call 216; refine (fillB_any _ _).mono ?_; rintro e w' ⟨rfl, rfl⟩)
    | (go_at_call 307; refine (gathered_any _ _).mono ?_; rintro e w' ⟨rfl, rfl⟩))
  go_ret
  exact ⟨by unfold belowM lessM lows tops; rfl, rfl⟩
theorem times_any (x : BitVec 64) (y : Int) (w : World) :
    Calls Tryz.prog 124 #[U x, .int .u64 y] w fun e w' => e = .returned (U (x * BitVec.ofInt 64 y)) ∧ w = w' := by
  go_enter Tryz.func124, Tryz.ntmps124
  go_wp2
  go_ret
  exact ⟨rfl, rfl⟩
theorem folded_any (x : BitVec 64) (n : Int) (h : 0 ≤ n) (w : World) :
    Calls Tryz.prog 125 #[U x, I n] w fun e w' => e = .returned (U (mixF x n.toNat)) ∧ w = w' := by
  obtain ⟨n, rfl⟩ := Int.eq_ofNat_of_zero_le h
  go_enter Tryz.func125, Tryz.ntmps125
  have hm : N x / 2 ^ min n 64 = N (x >>> n) := shr_min x n
  go_wp2
  go_ret
  exact ⟨by unfold mixF; rfl, rfl⟩
theorem hashOf_any (s k : BitVec 64) (w : World) :
    Calls Tryz.prog 67 #[U s, U k] w fun e w' => e = .returned (U (hashOf s k)) ∧ w = w' := by
  go_enter Tryz.func67, Tryz.ntmps67
  go_wp2_with (first
    | (go_at_call 124; refine (times_any _ _ _).mono ?_; rintro e w' ⟨rfl, rfl⟩)
    | (go_at_call 125; refine (folded_any _ _ (by decide) _).mono ?_; rintro e w' ⟨rfl, rfl⟩))
  go_ret
  exact ⟨by unfold hashOf; rfl, rfl⟩
theorem hash1_any (h : BitVec 64) (w : World) :
    Calls Tryz.prog 260 #[U h] w fun e w' => e = .returned (U (hash1 h)) ∧ w = w' := by
  go_enter Tryz.func260, Tryz.ntmps260
  go_wp2
  go_ret
  exact ⟨rfl, rfl⟩
theorem hash2_any (h : BitVec 64) (w : World) :
    Calls Tryz.prog 232 #[U h] w fun e w' => e = .returned (Y (hash2 h)) ∧ w = w' := by
  go_enter Tryz.func232, Tryz.ntmps232
  go_wp2
  go_ret
  exact ⟨rfl, rfl⟩
end Go.Proofs.Hc
namespace Go.Proofs.Hc
open Go.RowKit
attribute [local go_sem] zbu zcc zax zbf zbo zbd zbn zbp zbw signed64 signed8 zap BitVec.ofInt_add BitVec.ofInt_mul ofInt_sub' zbb zbc wide8 eqN neN zca shr1 shr7 shr56
attribute [local go_sem high] zbe zbv
attribute [local go_sem] zaw zby zaj zas zaf zaz zar zak zbm zal zay zba
attribute [local go_sem] load26 load73 load23 store26 build73
attribute [local go_sem ↓] lrow26 lrow73 lrow23 srow26 zero26 brow73 zae zbk zbg zaa zab
attribute [local go_sem] zai zav zat zbj zbl zbr zaq zau zbs zbi zbh
attribute [local go_sem] nn2 nm2 nn3 nm3 nn4 nm4 nn5 nm5 nn6 nm6 nn7 nm7 nn8 nm8
section
attribute [local go_sem] zao
attribute [local go_sem] box26 zcb cell0 cell1 cell2 cell3 cell4
theorem zcn (t : Tab) (s : BitVec 64) (i : Nat) (h : i < (hcells t s).size) : (hcells t s)[i] = if i = 39 then U s else t.cell i := by simp [hcells]
theorem zcm (t : Tab) (s : BitVec 64) : (hcells t s).pop = tcells t := by
  rw [← zaq t s, Array.extract_eq_pop (by rw [zav])]
attribute [local go_sem] zcn zcm
theorem h2_any (b : Nat) (t : Tab) (s k : BitVec 64) (w : World) (hb : w.heap[b]? = some (.cells (hcells t s) 141 (0, 0))) :
    Calls Tryz.prog 169 #[.pointer (some ⟨b, 0, none⟩), U k] w fun e w' => e = .returned (Y (hash2 (hashOf s k))) ∧ w = w' := by
  have H1 := fun w => hashOf_any s k w
  generalize hashOf s k = h at *
  have H2 := fun w => hash2_any h w
  generalize hash2 h = h2 at *
  go_enter Tryz.func169, Tryz.ntmps169
  go_wp2_with (first
    | (go_at_call 67; refine (H1 _).mono ?_; rintro e w' ⟨rfl, rfl⟩)
    | (go_at_call 232; refine (H2 _).mono ?_; rintro e w' ⟨rfl, rfl⟩))
  go_ret
  exact ⟨rfl, rfl⟩
theorem goes_any (b : Nat) (t : Tab) (s k : BitVec 64) (w : World) (hb : w.heap[b]? = some (.cells (hcells t s) 141 (0, 0))) :
    Calls Tryz.prog 84 #[.pointer (some ⟨b, 0, none⟩), U k] w fun e w' => e = .returned (.bool (hasT t (hashOf s k))) ∧ Ch [] w w' := by
  have H1 := fun w => hashOf_any s k w
  generalize hashOf s k = h at *
  have H2 := fun w => has_any t h w
  generalize hasT t h = r at *
  have hl := (Array.getElem?_eq_some_iff.1 hb).1
  have hg : ∀ g : Gar w, (g.1).heap[b]? = some (.cells (hcells t s) 141 (0, 0)) := fun g => (g.2.block b hl (by simp)).trans hb
  clear hl hb
  go_enter Tryz.func84, Tryz.ntmps84
  go_wp2
  refine wp_region_gar (by kernel_rfl) (by kernel_rfl) ?_
  repeat (go_big_quiet_step ((first | (go_at_call 67; exact garL (H1 _)) | (go_at_call 68; exact garC (H2 _)))))
  refine wpQuiet_nil ?_
  rintro w1 ⟨g1, hw1⟩
  have hc1 : Ch [] w w1 := by rw [hw1]; exact g1.2
  clear hw1 g1 hg
  go_wp2
  go_ret
  exact ⟨rfl, hc1⟩
theorem row_make (b : Nat) (k : BitVec 64) (w : World) :
    Calls Tryz.prog 207 #[.pointer (some ⟨b, 0, none⟩), U k] w fun e w' => e = .returned (.func (.func 258) #[] #[.pointer (some ⟨w.heap.size, 0, none⟩), .pointer (some ⟨w.heap.size + 1, 0, none⟩)]) ∧
      w' = (w.alloc (.cells #[.pointer (some ⟨b, 0, none⟩)] 137)).alloc (.cells #[U k] 22) := by
  go_enter Tryz.func207, Tryz.ntmps207
  go_wp2
  go_ret
  exact ⟨rfl, rfl⟩
theorem slots_make (b : Nat) (w : World) :
    Calls Tryz.prog 144 #[.pointer (some ⟨b, 0, none⟩)] w fun e w' => e = .returned (.func (.func 217) #[] #[.pointer (some ⟨w.heap.size, 0, none⟩)]) ∧
      w' = w.alloc (.cells #[.pointer (some ⟨b, 0, none⟩)] 137) := by
  go_enter Tryz.func144, Tryz.ntmps144
  go_wp2
  go_ret
  exact ⟨rfl, rfl⟩
end
end Go.Proofs.Hc
namespace Go.Proofs.Hc
open Go.RowKit
structure LayT where
  ph : Int
  who : Int
  sl : Int
  seed : BitVec 64
  count : BitVec 64
  at_ : Int
  ws : Nat → BitVec 64
  bad : Bool
def zeroLay : LayT := ⟨0, 0, 0, 0#64, 0#64, 0, fun _ => 0#64, false⟩
def updW (ws : Nat → BitVec 64) (j : Nat) (x : BitVec 64) : Nat → BitVec 64 := fun i => if i = j then x else ws i
end Go.Proofs.Hc
namespace Go.Proofs.Hc
open Go.RowKit
attribute [local go_sem] zbu zcc zax zbf zbo zbd zbn zbp zbw signed64 signed8 zap BitVec.ofInt_add BitVec.ofInt_mul ofInt_sub' zbb zbc wide8 eqN neN zca shr1 shr7 shr56
attribute [local go_sem high] zbe zbv
attribute [local go_sem] shr8 zap
theorem ofInt8_mod (x : BitVec 64) : BitVec.ofInt 8 (N x % 256) = x.setWidth 8 := by
  unfold N
  apply BitVec.eq_of_toNat_eq
  rw [BitVec.toNat_ofInt, BitVec.toNat_setWidth]
  omega
theorem tdiv256 (x : BitVec 64) : (N x).tdiv 256 = N (x >>> 8) := by rw [Int.tdiv_eq_ediv_of_nonneg (N_nonneg x), shr8]
theorem tmod256 (x : BitVec 64) : (N x).tmod 256 = N x % 256 := by rw [Int.tmod_eq_emod_of_nonneg (N_nonneg x)]
attribute [local go_sem high] ofInt8_mod tdiv256 tmod256
theorem rAt_any (x : BitVec 64) (n : Nat) (hn : n ≤ 64) (w : World) : Calls Tryz.prog 88 #[U x, I n] w fun e w' => e = .returned (Y (byteAt x n)) ∧ w = w' := by
  go_enter Tryz.func88, Tryz.ntmps88
  go_wp2
  go_loop [0, 6] (fun v i => ∃ j : Nat, j ≤ n ∧ i = .int .i64 j ∧ v = U (x >>> (8 * j))) (fun _ i => n - (intOf i).toNat)
  case atStart => exact ⟨0, Nat.zero_le _, rfl, by rw [Nat.mul_zero, BitVec.ushiftRight_zero]⟩
  case round =>
    obtain ⟨j, hj, rfl, rfl⟩ := hrel
    have h0 := N_nonneg (x >>> (8 * j))
    by_cases hlt : j < n
    · have hs : x >>> (8 * j) >>> 8 = x >>> (8 * (j + 1)) := by rw [← BitVec.shiftRight_add, Nat.mul_succ]
      have HS := Lib.hid hs
      clear hs
      go_wp2
      go_round
      case rel => exact ⟨j + 1, by omega, by go_num, by rw [HS.out]⟩
      case measure => simp [intOf]; omega
    · have hjn : j = n := by omega
      have HJ := Lib.hid hjn
      clear hjn
      go_wp2
      go_ret
      refine ⟨?_, rfl⟩
      rw [← HJ.out]; rfl
end Go.Proofs.Hc
namespace Go.Proofs.Hc
open Go.RowKit
theorem own_form {W : World} {base n size : Nat} {e : TypeId} {v : Value} {xs : List Value} (h : W.ownsRow base e size v n xs) : ∃ a c, v = .slice a n c := by
  obtain ⟨_, ⟨rfl, h0⟩ | ⟨g, cap, cur, hv, _⟩⟩ := h
  · exact ⟨none, 0, by rw [h0]⟩
  · exact ⟨_, _, hv⟩
end Go.Proofs.Hc
namespace Go.Proofs.Hc
open Go.RowKit
attribute [local go_sem] zbu zcc zax zbf zbo zbd zbn zbp zbw signed64 signed8 zap BitVec.ofInt_add BitVec.ofInt_mul ofInt_sub' zbb zbc wide8 eqN neN zca shr1 shr7 shr56
attribute [local go_sem high] zbe zbv
attribute [local go_sem] zaw zby zaj zas zaf zaz zar zak zbm zal zay zba
attribute [local go_sem] load26 load73 load23 store26 build73
attribute [local go_sem ↓] lrow26 lrow73 lrow23 srow26 zero26 brow73 zae zbk zbg zaa zab
attribute [local go_sem] zai zav zat zbj zbl zbr zaq zau zbs zbi zbh
attribute [local go_sem] nn2 nm2 nn3 nm3 nn4 nm4 nn5 nm5 nn6 nm6 nn7 nm7 nn8 nm8
section
attribute [local go_sem] zap
def bytesOf (x : BitVec 64) : List (BitVec 8) := (List.range 8).map (byteAt x)
def ycells (l : List (BitVec 8)) : List Value := l.map fun b => Y b
theorem infoY : (Tryz.prog.info? 5).map (fun i => (i.zero, i.size, i.bytes)) = some (some (.int .u8 0), 1, 1) := by kernel_rfl
theorem ycells_range (x : BitVec 64) (j : Nat) : ycells ((List.range (j + 1)).map (byteAt x)) = ycells ((List.range j).map (byteAt x)) ++ [Y (byteAt x j)] := by
  unfold ycells; rw [List.range_succ, List.map_append, List.map_append]; rfl
theorem rBytes_any (x : BitVec 64) (w : World) : Calls Tryz.prog 147 #[U x] w fun e w' => ∃ a c, e = .returned (.slice a 8 c) ∧ w'.ownsRow w.heap.size 5 1 (.slice a 8 c) 8 (ycells (bytesOf x)) ∧ Ch [] w w' := by
  obtain ⟨i0, hi, hz0, hz1, hz2⟩ := info_parts infoY
  go_enter Tryz.func147, Tryz.ntmps147
  go_wp2
  go_loopw [3, 5] (fun v i wr => ∃ j : Nat, i = .int .i64 j ∧ j ≤ 8 ∧ wr.ownsRow w.heap.size 5 1 v j (ycells ((List.range j).map (byteAt x))) ∧ Ch [] w wr) (fun _ i _ => 8 - (intOf i).toNat)
  case atStart => exact ⟨0, rfl, by omega, World.ownsRow_nil _ _ _ _, Ch.refl _ _⟩
  case round =>
    obtain ⟨j, hj, hj8, hown, hcr⟩ := hrel
    subst hj
    have hz := hcr.size
    by_cases hlt : j < 8
    · have A1 := fun w => rAt_any x j (by omega) w
      have HS := Lib.hid (ycells_range x j)
      have hob := own_block hown
      generalize ycells ((List.range j).map (byteAt x)) = ys at *
      go_wp2_with (first
        | (go_at_call 88; refine (A1 _).mono ?_; rintro e w' ⟨rfl, rfl⟩)
        | (at_builtin; refine wpList_append_own _ rfl _ _ 228 rfl w.heap.size 5 i0 (.int .u8 0) 1 1 Tryz.underlying228 hi hz0 hz1 hz2 rfl (by decide) _ _ _ rfl (hown.alloc _) ⟨wr.heap.size, 0, none⟩ 1 1 [Y (byteAt x j)] rfl rfl (cell_one_new _ _ _) (by simp [Value.oneCell']) (by unfold maxLen; omega) (by omega) (by simp; omega) ?_; intro v' w1 hown' hgrow _; have HO := Lib.hid hown'; have HG := Lib.hid hgrow; clear hown' hgrow))
      have hgr : (wr.alloc (.cells #[Y (byteAt x j)] 5)).grownBy w1 u3.ownBlock := HG.out
      have hW1 : Ch (u3.ownBlock.toList) wr w1 := (((Ch.refl [] wr).alloc (.cells #[Y (byteAt x j)] 5)).of_nil).trans2 (Ch.of_grown (S := u3.ownBlock.toList) hgr (fun k hk => by simp [hk])) (fun t ht => .inl ht)
      have hSS : ∀ s ∈ u3.ownBlock.toList, w.heap.size ≤ s := fun s hs => hob s (by simpa using hs)
      go_roundw
      case rel => exact ⟨j + 1, by go_num, hlt, by rw [HS.out]; exact HO.out, hcr.trans2 hW1 (fun t ht => .inr (hSS t ht))⟩
      case measure => simp [intOf]; omega
    · have hj8 : j = 8 := by omega
      subst hj8
      have HO := Lib.hid hown
      obtain ⟨a, c, rfl⟩ := own_form hown
      clear hown
      go_wp2
      go_ret
      exact ⟨a, c, rfl, HO.out, hcr⟩
end
end Go.Proofs.Hc
namespace Go.Proofs.Hc
open Go.RowKit
theorem zcq {w : World} {r b : Nat} {c d : Array Value} {T T' : TypeId} {fr fr' : Nat × Nat} (h1 : w.heap[r]? = some (.cells c T fr)) (h2 : w.heap[b]? = some (.cells d T' fr')) (hT : T ≠ T') : r ≠ b := by
  intro he
  subst he
  rw [h1] at h2
  have := Option.some.inj h2
  injection this with _ h3
  exact hT h3
theorem zan {w : World} {F b : Nat} (f : Obj → Obj) (h : ¬ b = F) : (World.onObj w F f).heap[b]? = w.heap[b]? := by rw [zab, if_neg h]
theorem setCell_other {w : World} {b : Nat} (p o : Nat) (v : Value) (h : b ≠ p) : (w.setCell ⟨p, o, none⟩ v).heap[b]? = w.heap[b]? := by rw [zaa, if_neg h]
theorem zad {w : World} {b : Nat} {o : Obj} (h : w.heap[b]? = some o) : b < w.heap.size := (Array.getElem?_eq_some_iff.1 h).1
end Go.Proofs.Hc
namespace Go.Proofs.Hc
open Go.RowKit
def LayT.cell (p : LayT) : Nat → Value
  | 0 => I p.ph
  | 1 => I p.who
  | 2 => I p.sl
  | 3 => U p.seed
  | 4 => U p.count
  | 5 => I p.at_
  | i + 6 => if i < 40 then U (p.ws i) else .bool p.bad
def layC (p : LayT) : Array Value := Array.ofFn (n := 47) fun i => p.cell i.1
def wsC (ws : Nat → BitVec 64) : Array Value := Array.ofFn (n := 40) fun i => U (ws i.1)
theorem layC_size (p : LayT) : (layC p).size = 47 := by simp [layC]
theorem layC_get (p : LayT) (i : Nat) : (layC p)[i]? = if i < 47 then some (p.cell i) else none := by
  unfold layC; rw [Array.getElem?_ofFn]; simp
theorem layCell_one (p : LayT) (i : Nat) : (p.cell i).oneCell' = true := by
  unfold LayT.cell; split <;> try rfl
  split <;> rfl
theorem layC_one (p : LayT) : allOne (layC p) = true := by
  unfold allOne
  simp only [layC, Array.all_eq_true_iff_forall_mem, Array.mem_ofFn]; rintro v ⟨i, rfl⟩; exact layCell_one ..
theorem layC_all (p : LayT) : (layC p).extract 0 47 = layC p := by
  have := Array.extract_size (xs := layC p); rwa [layC_size] at this
theorem wsC_get (ws : Nat → BitVec 64) (i : Nat) : (wsC ws)[i]? = if i < 40 then some (U (ws i)) else none := by
  unfold wsC; rw [Array.getElem?_ofFn]; simp
theorem layC_ws (p : LayT) : (layC p).extract 6 46 = wsC p.ws := by
  apply Array.ext_getElem?; intro i
  rw [Array.getElem?_extract, layC_get, wsC_get, layC_size]
  by_cases h : i < 40
  · rw [if_pos (by omega), if_pos (by omega), if_pos h, Nat.add_comm]
    simp [LayT.cell, h]
  · rw [if_neg (by omega), if_neg h]
theorem lay_g0 (p : LayT) : (layC p)[0]? = some (I p.ph) := by rw [layC_get]; rfl
theorem lay_g1 (p : LayT) : (layC p)[1]? = some (I p.who) := by rw [layC_get]; rfl
theorem lay_g2 (p : LayT) : (layC p)[2]? = some (I p.sl) := by rw [layC_get]; rfl
theorem lay_g3 (p : LayT) : (layC p)[3]? = some (U p.seed) := by rw [layC_get]; rfl
theorem lay_g4 (p : LayT) : (layC p)[4]? = some (U p.count) := by rw [layC_get]; rfl
theorem lay_g5 (p : LayT) : (layC p)[5]? = some (I p.at_) := by rw [layC_get]; rfl
theorem lay_g46 (p : LayT) : (layC p)[46]? = some (.bool p.bad) := by rw [layC_get]; rfl
theorem layC_idx (p : LayT) (i : Nat) (h : i < (layC p).size) : (layC p)[i] = p.cell i := by simp [layC]
theorem lcell0 (p : LayT) : p.cell 0 = I p.ph := rfl
theorem lcell1 (p : LayT) : p.cell 1 = I p.who := rfl
theorem lcell2 (p : LayT) : p.cell 2 = I p.sl := rfl
theorem lcell3 (p : LayT) : p.cell 3 = U p.seed := rfl
theorem lcell4 (p : LayT) : p.cell 4 = U p.count := rfl
theorem lcell5 (p : LayT) : p.cell 5 = I p.at_ := rfl
theorem lcell46 (p : LayT) : p.cell 46 = .bool p.bad := rfl
theorem lset {p p' : LayT} {j : Nat} {x : Value} (hj : j < 47) (hx : p'.cell j = x) (ho : ∀ i, i < 47 → i ≠ j → p'.cell i = p.cell i) :
    (layC p).setIfInBounds j x = layC p' := by
  apply Array.ext_getElem?; intro i
  rw [Array.getElem?_setIfInBounds, layC_get, layC_get, layC_size]
  by_cases h : j = i
  · subst h; simp [hj, hx]
  · rw [if_neg h]
    by_cases h2 : i < 47
    · simp only [h2, if_true]; rw [ho i h2 (fun e => h e.symm)]
    · simp [h2]
theorem lay_s0 (p : LayT) (x : Int) : (layC p).setIfInBounds 0 (I x) = layC { p with ph := x } :=
  lset (by omega) rfl (fun i _ h => by unfold LayT.cell; split <;> first | rfl | omega)
theorem lay_s4 (p : LayT) (x : BitVec 64) : (layC p).setIfInBounds 4 (U x) = layC { p with count := x } :=
  lset (by omega) rfl (fun i _ h => by unfold LayT.cell; split <;> first | rfl | omega)
theorem lay_s5 (p : LayT) (x : Int) : (layC p).setIfInBounds 5 (I x) = layC { p with at_ := x } :=
  lset (by omega) rfl (fun i _ h => by unfold LayT.cell; split <;> first | rfl | omega)
theorem lay_s46 (p : LayT) (x : Bool) : (layC p).setIfInBounds 46 (.bool x) = layC { p with bad := x } := by
  refine lset (by omega) rfl (fun i hi h => ?_)
  unfold LayT.cell
  split <;> first | rfl | skip
  rename_i i
  rw [if_pos (by omega), if_pos (by omega)]
theorem boxLay (p : LayT) (w : World) : (Instr.box 72 (.agg (layC p))).run Tryz.prog w = .ok (.pointer (some ⟨w.heap.size, 0, none⟩)) (w.alloc (.cells (layC p) 72)) := rfl
theorem loadLay (g o : Nat) (w : World) : (loadRow 72 ⟨g, o, none⟩).run Tryz.prog w = rowRes Tryz.prog 72 g o w ((w.heap[g]?).bind (rowAt o 47)) :=
  run_row Tryz.underlying72 rfl (by kernel_rfl) g o w
theorem storeLay (g o : Nat) (vs : Array Value) (w : World) : (storeRow 72 ⟨g, o, none⟩ (.agg vs)).run Tryz.prog w = layRes Tryz.prog 72 g o vs w (((w.heap[g]?).map (canLay o 47 vs)).getD false) :=
  run_lay (by kernel_rfl) g o vs w
theorem lrowLay (a : Addr) : loadVar 72 a = loadRow 72 a := rfl
theorem srowLay (a : Addr) (v : Value) : storeVar 72 a v = storeRow 72 a v := rfl
theorem browLay (ps : Array (Nat × Value)) : Instr.build 72 ps = buildRow 72 ps := rfl
theorem brow_lay (ps : Array (Nat × Value)) : Instr.build 163 ps = buildRow 163 ps := rfl
theorem build_lay (p : LayT) (w : World) : (buildRow 163 #[(0, .agg (layC p))]).run Tryz.prog w = .ok (.agg (layC p)) w := by kernel_rfl
theorem box_lay (p : LayT) (w : World) : (Instr.box 163 (.agg (layC p))).run Tryz.prog w = .ok (.pointer (some ⟨w.heap.size, 0, none⟩)) (w.alloc (.cells (layC p) 163)) := rfl
theorem zeroLay_run (w : World) : (zeroValue 72).run Tryz.prog w = .ok (.agg (layC zeroLay)) w := by kernel_rfl
theorem laidAt_lay (p q : LayT) (T : TypeId) (fr : Nat × Nat) : laidAt 0 (layC q) (.cells (layC p) T fr) = .cells (layC q) T fr := by
  rw [zak, laid_whole _ _ (by rw [layC_size, layC_size])]
theorem buildLay0 (w : World) : (buildRow 72 #[]).run Tryz.prog w = .ok (.agg (layC zeroLay)) w := by kernel_rfl
def firstL (who sl : Int) (seed : BitVec 64) : LayT := ⟨0, who, sl, seed, 0#64, 0, fun _ => 0#64, false⟩
theorem buildLay3 (who sl : Int) (seed : BitVec 64) (w : World) : (buildRow 72 #[(1, I who), (2, I sl), (3, U seed)]).run Tryz.prog w = .ok (.agg (layC (firstL who sl seed))) w := by kernel_rfl
theorem buildLay2 (sl : Int) (seed : BitVec 64) (w : World) : (buildRow 72 #[(2, I sl), (3, U seed)]).run Tryz.prog w = .ok (.agg (layC (firstL 0 sl seed))) w := by kernel_rfl
end Go.Proofs.Hc
namespace Go.Proofs.Hc
open Go.RowKit
attribute [local go_sem] zbu zcc zax zbf zbo zbd zbn zbp zbw signed64 signed8 zap BitVec.ofInt_add BitVec.ofInt_mul ofInt_sub' zbb zbc wide8 eqN neN zca shr1 shr7 shr56
attribute [local go_sem high] zbe zbv
attribute [local go_sem] zaw zby zaj zas zaf zaz zar zak zbm zal zay zba
attribute [local go_sem] load26 load73 load23 store26 build73
attribute [local go_sem ↓] lrow26 lrow73 lrow23 srow26 zero26 brow73 zae zbk zbg zaa zab
attribute [local go_sem] zai zav zat zbj zbl zbr zaq zau zbs zbi zbh
attribute [local go_sem] nn2 nm2 nn3 nm3 nn4 nm4 nn5 nm5 nn6 nm6 nn7 nm7 nn8 nm8
section
attribute [local go_sem] Oper.semAt_some zao
theorem zdh (a b : Option Addr) (c d : Nat) (w : World) : Calls Tryz.prog 31 #[.slice a 0 c, .slice b 0 d] w fun e w' => e = .returned (.bool true) ∧ Ch [] w w' := by
  go_enter Tryz.func31, Tryz.ntmps31
  go_wp2
  go_loopw [13] (fun i wr => ∃ j : Nat, i = .int .i64 j ∧ j ≤ 0 ∧ Ch [] w wr) (fun i _ => 0 - (intOf i).toNat)
  case atStart => exact ⟨0, rfl, Nat.zero_le _, Ch.refl _ _⟩
  case round =>
    obtain ⟨j, hj, hjl, hcr⟩ := hrel
    subst hj
    obtain rfl : j = 0 := by omega
    go_wp2
    go_ret
    exact ⟨rfl, hcr⟩
end
end Go.Proofs.Hc
