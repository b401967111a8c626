/- Law 22: SplitRuns. -/
import Derived.Test.YtcikopeddljgkaaGreatJWn
import Derived.Test.YtcikopeddljgkaaGreatJWo
import Derived.Test.YtcikopeddljgkaaGreatJWp
import Derived.Test.YtcikopeddljgkaaGreatJWq
set_option linter.unusedSimpArgs false
set_option linter.unusedVariables false
set_option maxRecDepth 100000
namespace Go.Proofs.Hc
open Go.RowKit
theorem runsLaw22 (a : Option Addr) (n0 c0 : Nat) (ks : Nat → BitVec 64) (wh sl a0 b0 : Int) (sd : BitVec 64) (s : PartT) (w : World) (hn : n0 ≤ c0) (hc : c0 ≤ 9223372036854775807) (ha : a = none → n0 = 0 ∧ c0 = 0) (hk : KeysIn w a n0 ks) :
    Calls Tryz.prog 4 #[.slice a n0 c0, .agg #[I wh, I sl, I a0, I b0, U sd], .agg (partC s)] w fun e w' => e = .returned (.bool true) ∧ Ch [] w w' := by
  rcases Nat.eq_zero_or_pos (min n0 180) with h0 | h1
  · by_cases w0 : 0 ≤ wh
    · by_cases w7 : wh < 8
      · cases hs : slabsS sl a0 b0 with
        | false => exact runs22_e3 a n0 c0 ks wh sl a0 b0 sd s w hn hc ha hk h0 w0 w7 hs
        | true => exact runs22_e4 a n0 c0 ks wh sl a0 b0 sd s w hn hc ha hk h0 w0 w7 hs
      · exact runs22_e2 a n0 c0 ks wh sl a0 b0 sd s w hn hc ha hk h0 w0 w7
    · exact runs22_e1 a n0 c0 ks wh sl a0 b0 sd s w hn hc ha hk h0 w0
  · by_cases w0 : 0 ≤ wh
    · by_cases w7 : wh < 8
      · cases hs : slabsS sl a0 b0 with
        | false => exact runs22_s3 a n0 c0 ks wh sl a0 b0 sd s w hn hc ha hk _ rfl h1 w0 w7 hs
        | true => exact runs22_s4 a n0 c0 ks wh sl a0 b0 sd s w hn hc ha hk _ rfl h1 w0 w7 hs
      · exact runs22_s2 a n0 c0 ks wh sl a0 b0 sd s w hn hc ha hk _ rfl h1 w0 w7
    · exact runs22_s1 a n0 c0 ks wh sl a0 b0 sd s w hn hc ha hk _ rfl h1 w0
end Go.Proofs.Hc
namespace Go.Proofs.Hc
open Go.ChangeShapes Go.WideShapes Go.ChangeAt Go.RowKit
section
variable {H : Type} {enc : TypeId × Value → H} {w : World} {base : Nat} {spare : Nat → Bool} {held : Bool}
theorem by_under : Tryz.prog.underlying 47 = some (.struct (Tryz.prog.fieldsOf 47)) := by kernel_rfl
theorem by_fields : (Tryz.prog.fieldsOf 47).toList.map (fun f => (f.type, f.offset)) = [(3, 0), (3, 1), (45, 2), (22, 4)] := by kernel_rfl
theorem cells_by : Tryz.prog.cellsOf 47 = 5 := by kernel_rfl
theorem open_by {r : Reach} {b0 : Nat} {v : Value} {d : DataW H} {p : List MemPlace} (hv : Value.okWide Tryz.prog w r b0 47 v) (h : DataW.Trod enc Tryz.prog w base spare held 47 v d p) :
    ∃ (wh sl a b : Int) (sd : BitVec 64), v = .agg #[I wh, I sl, I a, I b, U sd] := by
  obtain ⟨cs0, rfl, hsz⟩ := okWide_struct by_under hv
  obtain ⟨fuel, hf⟩ := h
  have hf' : DataW.trod enc Tryz.prog w base spare held fuel 47 cs0.toList = some (d, p) := hf
  obtain ⟨cs, hcs⟩ : ∃ l, cs0.toList = l := ⟨_, rfl⟩
  rw [hcs] at hf'
  obtain ⟨xs, n, _, _, hlen, hxl, hx⟩ := DataW.trod_struct by_under hf'
  have fd := fields_at (n := n) (cs := cs) by_fields hxl hx
  have hlen := hlen.trans cells_by
  obtain ⟨y0, e0⟩ := fd 0 _ _ rfl
  obtain ⟨m0, h0, _⟩ := rd_int Tryz.underlying3 cells_int e0
  obtain ⟨y1, e1⟩ := fd 1 _ _ rfl
  obtain ⟨m1, h1, _⟩ := rd_int Tryz.underlying3 cells_int e1
  obtain ⟨y2, e2⟩ := fd 2 _ _ rfl
  have h2 := row_ints e2
  obtain ⟨y3, e3⟩ := fd 3 _ _ rfl
  obtain ⟨m4, h4, w4⟩ := rd_int Tryz.underlying22 cells_u64 e3
  obtain ⟨m2, h2a⟩ := h2 0 (by omega)
  obtain ⟨m3, h2b⟩ := h2 1 (by omega)
  have h2a := drop_take_get h2a
  have h2b := drop_take_get h2b
  refine ⟨m0, m1, m2, m3, BitVec.ofInt 64 m4, congrArg Value.agg (Array.ext' ?_)⟩
  rw [hcs]
  apply List.ext_getElem?
  intro i
  match i with
  | 0 => exact h0
  | 1 => exact h1
  | 2 => exact h2a
  | 3 => exact h2b
  | 4 => rw [U_of w4]; exact h4
  | k + 5 =>
    rw [List.getElem?_eq_none (by omega)]
    rfl
end
end Go.Proofs.Hc
