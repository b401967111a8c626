/- Package table: where a key is. -/
import Derived.Test.YtcikopeddljgkaaGreatKHti
import Derived.Test.YtcikopeddljgkaaGreatK0
set_option linter.unusedSimpArgs false
set_option linter.unusedVariables false
set_option maxHeartbeats 2000000
set_option maxRecDepth 100000
namespace Go.Proofs.Hc
open Go.RowKit
attribute [local go_sem] zbs zca zax zbc zbn zba zbm zbo zbu signed64 signed8 zar BitVec.ofInt_add BitVec.ofInt_mul ofInt_sub' zay zaz wide8 eqN neN zbz shr1 shr7 shr56
attribute [local go_sem high] zbb zbt
attribute [local go_sem] zag zbw zah zas zad zbe zaq zal zbl zan zbd zbf
attribute [local go_sem] load26 load73 load23 store26 build73
attribute [local go_sem ↓] lrow26 lrow73 lrow23 srow26 zero26 brow73 zac zaw zbg zaa zab
attribute [local go_sem] zai zav zat zbj zbk zbp zao zau zbq zbi zbh
attribute [local go_sem] nn2 nm2 nn3 nm3 nn4 nm4 nn5 nm5 nn6 nm6 nn7 nm7 nn8 nm8
section
attribute [local go_sem] Oper.semAt_some zap zby
attribute [local go_sem] box26 zbx cell0 cell1 cell2 cell3 cell4 zci zch
attribute [local go_sem] cell5 cell6
def scan (f : Nat → Bool) : Nat → List Nat → Option (Nat × Nat)
  | _, [] => none
  | n, x :: l => if f x then some (x, n + 1) else scan f (n + 1) l
theorem scan_skip (f : Nat → Bool) (post : List Nat) : ∀ (l : List Nat) (n : Nat), (∀ x ∈ l, f x = false) → scan f n (l ++ post) = scan f (n + l.length) post
  | [], n, _ => rfl
  | x :: l, n, h => by
    rw [List.cons_append, scan, if_neg (by rw [h x (by simp)]; decide), scan_skip f post l (n + 1) (fun y hy => h y (by simp [hy])), List.length_cons]
    congr 1; omega
theorem scan_hit (f : Nat → Bool) (post : List Nat) (n x : Nat) (h : f x = true) : scan f n (x :: post) = some (x, n + 1) := by rw [scan, if_pos h]
def candG (t : Tab) (h2 : BitVec 8) (g : Nat) : List Nat := (lanesOf (equalM (t.c g) h2)).map fun x => 8 * g + x
def foundT (t : Tab) (s k : BitVec 64) : Option (Nat × Nat) := scan (fun x => t.k x == k) 0 ((rowT t s k).flatMap (candG t (hash2 (hashOf s k))))
def orErr {α : Type} (c : Int) : Option α → Except Int α
  | none => .error c
  | some y => .ok y
def foundE (t : Tab) (s k : BitVec 64) : Except Int (Nat × Nat) := orErr 4 (foundT t s k)
theorem foundE_eq (t : Tab) (s k : BitVec 64) : foundE t s k = orErr 4 (foundT t s k) := by rw [foundE]
theorem foundE_none {t : Tab} {s k : BitVec 64} (h : foundT t s k = none) : foundE t s k = .error 4 := by rw [foundE_eq, h, orErr]
theorem foundE_some {t : Tab} {s k : BitVec 64} {y : Nat × Nat} (h : foundT t s k = some y) : foundE t s k = .ok y := by rw [foundE_eq, h, orErr]
theorem row_len (t : Tab) (s k : BitVec 64) : (rowT t s k).length ≤ 2 := by
  unfold rowT
  split <;> simp
theorem scan_at (f : Nat → Bool) (cd : Nat → List Nat) (ls : List Nat) (pre post : List Nat) (g m x n : Nat) (hcd : cd g = ls.map fun x => 8 * g + x) (hpre : ∀ y ∈ pre.flatMap cd, f y = false) (hn : n = (pre.flatMap cd).length)
    (htk : ∀ y ∈ ls.take m, f (8 * g + y) = false) (hm : m < ls.length) (hx : ls[m]? = some x) (hf : f (8 * g + x) = true) : scan f 0 ((pre ++ g :: post).flatMap cd) = some (8 * g + x, n + m + 1) := by
  have hls : ls = ls.take m ++ x :: ls.drop (m + 1) := by
    have : ls[m]'hm = x := by rw [List.getElem?_eq_getElem hm] at hx; simpa using hx
    rw [← this, ← List.drop_eq_getElem_cons hm, List.take_append_drop]
  rw [List.flatMap_append, List.flatMap_cons, scan_skip f _ _ 0 hpre, hcd, Nat.zero_add, ← hn]
  conv => lhs; rw [hls]
  rw [List.map_append, List.map_cons, List.append_assoc, List.cons_append, scan_skip f _ _ _ (fun y hy => ?_), scan_hit f _ _ _ hf, List.length_map, List.length_take, Nat.min_eq_left (Nat.le_of_lt hm)]
  obtain ⟨z, hz, rfl⟩ := List.mem_map.1 hy
  exact htk z hz
theorem scan_none (f : Nat → Bool) (l : List Nat) (h : ∀ y ∈ l, f y = false) : scan f 0 l = none := by
  have := scan_skip f [] l 0 h
  rw [List.append_nil] at this
  rw [this]; rfl
theorem take_next {P : Nat → Prop} {l : List Nat} {m x : Nat} (h : ∀ y ∈ l.take m, P y) (hx : l[m]? = some x) (hp : P x) : ∀ y ∈ l.take (m + 1), P y := by
  intro y hy
  rw [List.take_add_one, hx] at hy
  rcases List.mem_append.1 hy with h1 | h1
  · exact h y h1
  · have : y = x := by simpa using h1
    rw [this]; exact hp
structure FoundI (t : Tab) (k : BitVec 64) (b B : Nat) (w : World) (cd : Nat → List Nat) (pre : List Nat) (O : Nat → Prop) (W : World) : Prop where
  o : ∀ x, O x ↔ (x = B + 1 + 1 ∨ x = B + 1 + 1 + 1 ∨ x = B + 1 + 1 + 1 + 1)
  not : ∀ y ∈ pre.flatMap cd, (t.k y == k) = false
  ch : Ch [] w W
  hand : W.heap[B]? = some (.cells #[.pointer (some ⟨b, 0, none⟩)] 137 (0, 0))
  key : W.heap[B + 1]? = some (.cells #[U k] 22 (0, 0))
  r1 : W.heap[B + 1 + 1]? = some (.cells #[.int .i64 0] 3 (0, 0))
  r2 : W.heap[B + 1 + 1 + 1]? = some (.cells #[.int .i64 0] 3 (0, 0))
  many : W.heap[B + 1 + 1 + 1 + 1]? = some (.cells #[.int .i64 ((pre.flatMap cd).length : Int)] 3 (0, 0))
theorem FoundI.keep {t : Tab} {k : BitVec 64} {b B D : Nat} {w : World} {cd : Nat → List Nat} {pre : List Nat} {O : Nat → Prop} {A A' : World} (h : FoundI t k b B w cd pre O A) (c : Ch [D] A A') (hD : B + 1 + 1 + 1 + 1 < D) (hB : w.heap.size = B) : FoundI t k b B w cd pre O A' :=
  ⟨h.o, h.not, h.ch.trans2 c (by simp; omega), hkeepS c (by simp; omega) h.hand, hkeepS c (by simp; omega) h.key, hkeepS c (by simp; omega) h.r1, hkeepS c (by simp; omega) h.r2, hkeepS c (by simp; omega) h.many⟩
theorem flat_len (cd : Nat → List Nat) (pre : List Nat) (n : Nat) (h : ∀ g, (cd g).length ≤ n) (hp : pre.length ≤ 1) : (pre.flatMap cd).length ≤ n := by
  match pre, hp with
  | [], _ => simp
  | [g], _ => simpa using h g
theorem found_any (t : Tab) (s k : BitVec 64) (b : Nat) (w : World) (hok0 : ctrlOk (t.c 0) = true) (hok1 : ctrlOk (t.c 1) = true) (hb : w.heap[b]? = some (.cells (hcells t s) 141 (0, 0))) :
    Calls Tryz.prog 132 #[.pointer (some ⟨b, 0, none⟩), U k] w fun e w' => e = retOr (fun y : Nat × Nat => .tuple #[I y.1, I y.2]) (foundE t s k) ∧ Ch [] w w' := by
  have hbl := (Array.getElem?_eq_some_iff.1 hb).1
  have Y1 := fun p q w hb hp hq => row_yields t s k b p q w hok0 hok1 hb hp hq
  have R1 := Lib.hid (row_bound t s k)
  have RL := Lib.hid (row_len t s k)
  have hok := Lib.hid (fun g (h : g < 2) => pick_ok t g h hok0 hok1)
  have hle := hash2_le (hashOf s k)
  have H2 := fun w hb => h2_any b t s k w hb
  have hN := foundE_none (t := t) (s := s) (k := k)
  have hS := fun y => foundE_some (t := t) (s := s) (k := k) (y := y)
  have hF : foundT t s k = scan (fun x => t.k x == k) 0 ((rowT t s k).flatMap (candG t (hash2 (hashOf s k)))) := by rw [foundT]
  rw [hF] at hN
  simp only [hF] at hS
  generalize foundE t s k = r at *
  generalize rowT t s k = xs at *
  generalize hash2 (hashOf s k) = h2 at *
  have hcd : ∀ g, candG t h2 g = (lanesOf (equalM (t.c g) h2)).map fun x => 8 * g + x := fun g => by rw [candG]
  generalize candG t h2 = cd at *
  have HN := Lib.hid hN
  have HS := Lib.hid hS
  have HC := Lib.hid hcd
  clear hN hS hcd hF hok0 hok1
  refine (callsIn_wide (n := 3)).1 ?_
  refine callsIn_of_wp_marks Tryz.func132 rfl trivial ?_
  simp only [Tryz.ntmps132, List.size_toArray, List.length_cons, List.length_nil, Nat.reduceAdd, Nat.reduceSub, Array.replicate_succ, Array.replicate_zero, List.push_toArray, List.append_toArray, List.nil_append, List.cons_append]
  gi_wp2_with (refine ⟨trivial, ?_⟩; gi_at_call 207; refine (inW (row_make _ _ _)).mono ?_; rintro e w' ⟨rfl, rfl⟩)
  obtain ⟨W0, hW0⟩ : ∃ W0, ((((((w.alloc (.cells #[.pointer (some ⟨b, 0, none⟩)] 137)).alloc (.cells #[U k] 22)).alloc (.cells #[.int .i64 0] 3)).alloc (.cells #[.int .i64 0] 3)).alloc (.cells #[.int .i64 0] 3)).alloc (.cells #[.pointer (some ⟨b, 0, none⟩)] 137)).alloc (.cells #[U k] 22) = W0 := ⟨_, rfl⟩
  obtain ⟨B, hB⟩ : ∃ B, w.heap.size = B := ⟨_, rfl⟩
  have hs0 : W0.heap.size = B + 7 := by rw [← hW0, ← hB]; simp
  have hC0 : Ch [] w W0 := by rw [← hW0]; exact (((((((Ch.refl [] w).alloc _).alloc _).alloc _).alloc _).alloc _).alloc _).alloc _
  have b0 : W0.heap[B]? = some (.cells #[.pointer (some ⟨b, 0, none⟩)] 137 (0, 0)) := by rw [← hW0, ← hB]; simp [go_sem] <;> omega
  have b1 : W0.heap[B + 1]? = some (.cells #[U k] 22 (0, 0)) := by rw [← hW0, ← hB]; simp [go_sem] <;> omega
  have b2 : W0.heap[B + 1 + 1]? = some (.cells #[.int .i64 0] 3 (0, 0)) := by rw [← hW0, ← hB]; simp [go_sem] <;> omega
  have b3 : W0.heap[B + 1 + 1 + 1]? = some (.cells #[.int .i64 0] 3 (0, 0)) := by rw [← hW0, ← hB]; simp [go_sem] <;> omega
  have b4 : W0.heap[B + 1 + 1 + 1 + 1]? = some (.cells #[.int .i64 0] 3 (0, 0)) := by rw [← hW0, ← hB]; simp [go_sem] <;> omega
  have b5 : W0.heap[B + 1 + 1 + 1 + 1 + 1]? = some (.cells #[.pointer (some ⟨b, 0, none⟩)] 137 (0, 0)) := by rw [← hW0, ← hB]; simp [go_sem] <;> omega
  have b6 : W0.heap[B + 1 + 1 + 1 + 1 + 1 + 1]? = some (.cells #[U k] 22 (0, 0)) := by rw [← hW0, ← hB]; simp [go_sem] <;> omega
  have bb := hkeep hC0 hb
  rw [hW0, hB]
  have hbB : b < B := by omega
  have HBe := Lib.hid hB
  have HBB := Lib.hid hb
  clear hW0 hB hb hbl
  refine range_lawO (n := 1) (xs := xs) rfl enters_row (Y1 _ _ W0 bb b5 b6) (fun _ => rfl) (by simp) (by simp <;> omega)
    (fun pre O W => FoundI t k b B w cd pre O W)
    (fun c W => c = .ret ∧ ∃ y : Nat × Nat, scan (fun x => t.k x == k) 0 (xs.flatMap cd) = some y ∧ Ch [] w W ∧ W.heap[B + 1 + 1]? = some (.cells #[.int .i64 (y.1 : Int)] 3 (0, 0)) ∧ W.heap[B + 1 + 1 + 1]? = some (.cells #[.int .i64 (y.2 : Int)] 3 (0, 0)))
    (fun x => x = B + 1 + 1 ∨ x = B + 1 + 1 + 1 ∨ x = B + 1 + 1 + 1 + 1) ?hIO ?hI ?hIx ⟨fun _ => Iff.rfl, by simp, hC0, b0, b1, b2, b3, b4⟩ ?a₁ ?assign ?body ?done ?stop
  case assign =>
    intro x W K hK
    gi_wp2
    exact hK
  case hIO =>
    rintro pre O A h x hx
    have l1 := (Array.getElem?_eq_some_iff.1 h.many).1
    rcases (h.o x).1 hx with rfl | rfl | rfl
    · exact ⟨.inl (by omega), by omega, by simp; omega⟩
    · exact ⟨.inl (by omega), by omega, by simp; omega⟩
    · exact ⟨.inl (by omega), by omega, by simp; omega⟩
  case hI =>
    rintro pre O A B' h hAB
    exact h.keep hAB (by omega) HBe.out
  case hIx =>
    rintro c A B' ⟨rfl, y, hy, hc, h1, h2⟩ hAB
    have := HBe.out
    exact ⟨rfl, y, hy, hc.trans2 hAB (by simp <;> omega), hkeepS hAB (by simp; omega) h1, hkeepS hAB (by simp; omega) h2⟩
  case body =>
    rintro pre O g post W hx h hsz
    go_light
    have hg2 : g < 2 := R1.out g (by rw [hx]; simp)
    have hpl : pre.length ≤ 1 := by have := RL.out; rw [hx] at this; simp at this; omega
    have HX := Lib.hid hx
    have hc5 := hcells_ctrl_at t s g hg2
    have hbW := hkeep h.ch HBB.out
    have h0 := h.hand
    have h1 := h.key
    have M1 := fun w => match_ok (t.c g) h2 hle (hok.out g hg2) w
    have A1 := fun w => all_any (equalM (t.c g) h2) w
    have hls := HC.out g
    have hl8 := lanes_le (equalM (t.c g) h2)
    have hll : ∀ x ∈ lanesOf (equalM (t.c g) h2), x < 8 := fun x hx => by unfold lanesOf at hx; simpa using (List.mem_filter.1 hx).1
    have hcnt : (pre.flatMap cd).length ≤ 8 := flat_len cd pre 8 (fun g' => by rw [HC.out g', List.length_map]; exact lanes_le _) hpl
    generalize equalM (t.c g) h2 = em at *
    have hg0 : (0 : Int) ≤ (g : Int) := by omega
    have hg1 : (g : Int) < 2 := by omega
    clear hx Y1 b0 b1 b2 b3 b4 b5 b6 R1 bb
    gi_wp2
    have hS : ∀ W' : World, Ch [] W W' → W'.heap[B]? = some (.cells #[.pointer (some ⟨b, 0, none⟩)] 137 (0, 0)) ∧ W'.heap[B + 1]? = some (.cells #[U k] 22 (0, 0)) ∧ W'.heap[b]? = some (.cells (hcells t s) 141 (0, 0)) := fun W' c => ⟨hkeep c h0, hkeep c h1, hkeep c hbW⟩
    refine rr_held (fun W' => W'.heap[B]? = some (.cells #[.pointer (some ⟨b, 0, none⟩)] 137 (0, 0)) ∧ W'.heap[B + 1]? = some (.cells #[U k] 22 (0, 0)) ∧ W'.heap[b]? = some (.cells (hcells t s) 141 (0, 0))) (by kernel_rfl) (by kernel_rfl) (by rintro ⟨a, w, h⟩; exact h) (hS _ (Ch.refl _ _).drew) ?_
    intro hSS
    have HSW := Lib.hid hS
    clear hS
    simp only [List.size_toArray, List.length_cons, List.length_nil, Nat.reduceAdd]
    refine tn 0 ?_ rfl hSS ?_ ?_; rotate_left
    · intro wq hSq; obtain ⟨s1, s2, s3⟩ := hSq; go_simp; try with_reducible rfl
    try go_frame
    refine tn 1 ?_ rfl hSS ?_ ?_; rotate_left
    · intro wq hSq; obtain ⟨s1, s2, s3⟩ := hSq; go_simp; try with_reducible rfl
    try go_frame
    refine tn 2 ?_ rfl hSS ?_ ?_; rotate_left
    · intro wq hSq; obtain ⟨s1, s2, s3⟩ := hSq; go_simp; try with_reducible rfl
    try go_frame
    refine tn 3 ?_ rfl hSS ?_ ?_; rotate_left
    · intro wq hSq; obtain ⟨s1, s2, s3⟩ := hSq; go_simp; try with_reducible rfl
    try go_frame
    refine tn 4 ?_ rfl hSS ?_ ?_; rotate_left
    · intro wq hSq; obtain ⟨s1, s2, s3⟩ := hSq; go_simp; try with_reducible rfl
    try go_frame
    refine tn 5 ?_ rfl hSS ?_ ?_; rotate_left
    · intro wq hSq; obtain ⟨s1, s2, s3⟩ := hSq; go_simp; try with_reducible rfl
    try go_frame
    refine tn 6 ?_ rfl hSS ?_ ?_; rotate_left
    · intro wq hSq; obtain ⟨s1, s2, s3⟩ := hSq; go_simp; try with_reducible rfl
    try go_frame
    refine tn 7 ?_ rfl hSS ?_ ?_; rotate_left
    · intro wq hSq; obtain ⟨s1, s2, s3⟩ := hSq; go_simp; try with_reducible rfl
    try go_frame
    refine tn 8 ?_ rfl hSS ?_ ?_; rotate_left
    · intro wq hSq; obtain ⟨s1, s2, s3⟩ := hSq; go_simp; try with_reducible rfl
    try go_frame
    refine tn 16 ?_ rfl hSS ?_ ?_; rotate_left
    · intro wq hSq; obtain ⟨s1, s2, s3⟩ := hSq; go_simp; try with_reducible rfl
    try go_frame
    refine rd 9 rfl (fun K hK => ?_); go_simp
    refine (H2 _ hSS.2.2).mono ?_
    rintro e w' ⟨rfl, rfl⟩
    refine hK.out _ _ hSS (fun _ => ?_)
    clear hK K
    refine rd 10 rfl (fun K hK => ?_); go_simp
    refine (M1 _).mono ?_
    rintro e W1 ⟨rfl, hc1⟩
    have hC1 : Ch [] W W1 := ((Ch.refl [] W).drew).trans hc1
    have hS1 := HSW.out W1 hC1
    refine hK.out _ _ hS1 (fun _ => ?_)
    clear hK K hc1
    refine tn 11 ?_ rfl hS1 ?_ ?_; rotate_left
    · intro wq hSq; obtain ⟨s1, s2, s3⟩ := hSq; go_simp; try with_reducible rfl
    try go_frame
    refine tn 12 ?_ rfl hS1 ?_ ?_; rotate_left
    · intro wq hSq; obtain ⟨s1, s2, s3⟩ := hSq; go_simp; try with_reducible rfl
    try go_frame
    refine rd 13 rfl (fun K hK => ?_); go_simp
    refine (surem_yes _ _).mono ?_
    rintro e w' ⟨rfl, rfl⟩
    refine hK.out _ _ hS1 (fun _ => ?_)
    clear hK K
    refine rd 14 rfl (fun K hK => ?_); go_simp
    refine (A1 _).mono ?_
    rintro e W2 ⟨v, rfl, hown, hc2⟩
    obtain ⟨a, cap, cur, rfl, hj1, hj2⟩ := own_slice hown
    have hC2 : Ch [] W W2 := hC1.trans hc2
    have hS2 := HSW.out W2 hC2
    refine hK.out _ _ hS2 (fun _ => ?_)
    clear hK K hown
    refine tk 15 30 ?_ rfl hS2 ?_ ?_; rotate_left
    · intro wq hSq; obtain ⟨s1, s2, s3⟩ := hSq; go_simp; try with_reducible rfl
    try go_frame
    refine wpAnyH_done (by kernel_rfl) ?_ _
    generalize lanesOf em = ls at *
    have hm0 := h.many
    have hr1 := h.r1
    have hr2 := h.r2
    generalize hcn : (pre.flatMap cd).length = cn at *
    obtain ⟨d0, d1, db⟩ := hS2
    have d2 := hkeep hC2 hr1
    have d3 := hkeep hC2 hr2
    have d4 := hkeep hC2 hm0
    have HJ : ∀ r, a = some ⟨r, 0, none⟩ → W.heap.size ≤ r ∧ W2.heap[r]? = some (.cells cur 3 (0, 0)) := fun r hr => ⟨Nat.le_trans hC1.size (hj2 r hr).1, (hj2 r hr).2⟩
    have HJ2 := Lib.hid HJ
    have HJ1 := Lib.hid hj1
    have HSZ : B + 1 + 1 + 1 + 1 < W.heap.size := (Array.getElem?_eq_some_iff.1 hm0).1
    have HLS := Lib.hid hls
    clear hj1 hj2 HJ hc2 hC1 hS1 hSS HSW h0 h1 hbW hls M1 A1 H2
    gi_wp2
    gi_loopw [31] (fun i wr => ∃ m : Nat, i = .int .i64 m ∧ m ≤ ls.length ∧ (∀ y ∈ ls.take m, (t.k (8 * g + y) == k) = false) ∧ Ch [B + 1 + 1 + 1 + 1] W2 wr ∧ wr.heap[B + 1 + 1 + 1 + 1]? = some (.cells #[.int .i64 ((cn : Int) + (m : Int))] 3 (0, 0))) (fun i _ => ls.length - (intOf i).toNat)
    case atStart => exact ⟨0, rfl, Nat.zero_le _, by simp, Ch.refl _ _, by simpa using d4⟩
    case round =>
      obtain ⟨m, hm, hml, hnot, hcr, hmr⟩ := hrel
      subst hm
      have e0 := hkeepS hcr (by simp <;> omega) d0
      have e1 := hkeepS hcr (by simp <;> omega) d1
      have eb := hkeepS hcr (by simp <;> omega) db
      have e2 := hkeepS hcr (by simp <;> omega) d2
      have e3 := hkeepS hcr (by simp <;> omega) d3
      rcases Nat.lt_or_ge m ls.length with hlt | hge
      · obtain ⟨x, hxm, hdrop⟩ := drop_one hlt
        have hx8 : x < 8 := hll x (List.mem_of_getElem? hxm)
        obtain ⟨hcx, r, hra⟩ := HJ1.out m (I x) (by rw [List.getElem?_map, hxm]; rfl)
        subst hra
        obtain ⟨hrW, hrr2⟩ := HJ2.out r rfl
        have hrr := hkeepS hcr (by simp; omega) hrr2
        have hk7 := hcells_key t s (8 * g + x) (by omega)
        have hdec : decide (m < ls.length) = true := by simpa using hlt
        have hx0 : (0 : Int) ≤ (x : Int) := by omega
        have hx1 : (x : Int) < 8 := by omega
        have hcn0 : (0 : Int) ≤ (cn : Int) + (m : Int) := by omega
        have hcn1 : (cn : Int) + (m : Int) ≤ 100 := by omega
        have hw1 : IntKind.i64.wrap (8 * (g : Int)) = 8 * (g : Int) := by rw [IntKind.wrap_i64]; omega
        have hne : ¬ r = B + 1 + 1 + 1 + 1 := by omega
        have hneb : ¬ b = B + 1 + 1 + 1 + 1 := by omega
        have HND := Lib.hid hnot
        have HXM := Lib.hid hxm
        clear hnot hxm hdrop d0 d1 db d2 d3 d4
        have htn : (8 * (g : Int) + (x : Int)).toNat = 8 * g + x := by omega
        have hs0' : 0 ≤ 8 * (g : Int) + (x : Int) := by omega
        have hs1' : 8 * (g : Int) + (x : Int) < 16 := by omega
        cases he : (t.k (8 * g + x) == k)
        · have HE := Lib.hid he
          gi_wp2
          have f0 : (wr.setCell ⟨B + 1 + 1 + 1 + 1, 0, none⟩ (.int .i64 ((cn : Int) + (m : Int) + 1))).heap[B]? = some (.cells #[.pointer (some ⟨b, 0, none⟩)] 137 (0, 0)) := by rw [zaa, if_neg (by omega)]; exact e0
          have f1 : (wr.setCell ⟨B + 1 + 1 + 1 + 1, 0, none⟩ (.int .i64 ((cn : Int) + (m : Int) + 1))).heap[B + 1]? = some (.cells #[U k] 22 (0, 0)) := by rw [zaa, if_neg (by omega)]; exact e1
          have fb : (wr.setCell ⟨B + 1 + 1 + 1 + 1, 0, none⟩ (.int .i64 ((cn : Int) + (m : Int) + 1))).heap[b]? = some (.cells (hcells t s) 141 (0, 0)) := by rw [zaa, if_neg (by omega)]; exact eb
          have fm : (wr.setCell ⟨B + 1 + 1 + 1 + 1, 0, none⟩ (.int .i64 ((cn : Int) + (m : Int) + 1))).heap[B + 1 + 1 + 1 + 1]? = some (.cells #[.int .i64 ((cn : Int) + (m : Int) + 1)] 3 (0, 0)) := by rw [zaa, if_pos rfl, hmr]; rfl
          have f2 : (wr.setCell ⟨B + 1 + 1 + 1 + 1, 0, none⟩ (.int .i64 ((cn : Int) + (m : Int) + 1))).heap[B + 1 + 1]? = some (.cells #[.int .i64 0] 3 (0, 0)) := by rw [zaa, if_neg (by omega)]; exact e2
          have f3 : (wr.setCell ⟨B + 1 + 1 + 1 + 1, 0, none⟩ (.int .i64 ((cn : Int) + (m : Int) + 1))).heap[B + 1 + 1 + 1]? = some (.cells #[.int .i64 0] 3 (0, 0)) := by rw [zaa, if_neg (by omega)]; exact e3
          have fc : Ch [B + 1 + 1 + 1 + 1] W2 (wr.setCell ⟨B + 1 + 1 + 1 + 1, 0, none⟩ (.int .i64 ((cn : Int) + (m : Int) + 1))) := hcr.setCell (p := ⟨B + 1 + 1 + 1 + 1, 0, none⟩) (.inl (by simp)) _
          generalize wr.setCell ⟨B + 1 + 1 + 1 + 1, 0, none⟩ (.int .i64 ((cn : Int) + (m : Int) + 1)) = Wr at *
          have hq0 : ∀ q : Gar Wr, (q.1).heap[B]? = some (.cells #[.pointer (some ⟨b, 0, none⟩)] 137 (0, 0)) := fun q => hkeep q.2 f0
          have hq1 : ∀ q : Gar Wr, (q.1).heap[B + 1]? = some (.cells #[U k] 22 (0, 0)) := fun q => hkeep q.2 f1
          have hq2 : ∀ q : Gar Wr, (q.1).heap[b]? = some (.cells (hcells t s) 141 (0, 0)) := fun q => hkeep q.2 fb
          refine rr_gar (by kernel_rfl) (by kernel_rfl) (by kernel_rfl) (by rintro ⟨a, w, h⟩; exact h) ?_
          repeat (go_big_quiet_step (fail))
          refine wpQuiet_nil ?_
          rintro W9 ⟨g9, hw9⟩
          have hc9 : Ch [] Wr W9 := by rw [hw9]; exact g9.2
          have i2 := hkeep hc9 f2
          have i3 := hkeep hc9 f3
          have im := hkeep hc9 fm
          have fc9 := fc.pure hc9
          clear hw9 g9 hq0 hq1 hq2 e0 e1 eb e2 e3 hmr hrr f0 f1 fb fm f2 f3 fc hc9
          gi_wp2
          refine ⟨⟨m + 1, by go_num, hlt, take_next HND.out HXM.out HE.out, fc9, ?_⟩, by simp [intOf]; omega⟩
          rw [show ((cn : Int) + ((m + 1 : Nat) : Int)) = (cn : Int) + (m : Int) + 1 by omega]; exact im
        · have HE := Lib.hid he
          gi_wp2
          have f0 : (wr.setCell ⟨B + 1 + 1 + 1 + 1, 0, none⟩ (.int .i64 ((cn : Int) + (m : Int) + 1))).heap[B]? = some (.cells #[.pointer (some ⟨b, 0, none⟩)] 137 (0, 0)) := by rw [zaa, if_neg (by omega)]; exact e0
          have f1 : (wr.setCell ⟨B + 1 + 1 + 1 + 1, 0, none⟩ (.int .i64 ((cn : Int) + (m : Int) + 1))).heap[B + 1]? = some (.cells #[U k] 22 (0, 0)) := by rw [zaa, if_neg (by omega)]; exact e1
          have fb : (wr.setCell ⟨B + 1 + 1 + 1 + 1, 0, none⟩ (.int .i64 ((cn : Int) + (m : Int) + 1))).heap[b]? = some (.cells (hcells t s) 141 (0, 0)) := by rw [zaa, if_neg (by omega)]; exact eb
          have fm : (wr.setCell ⟨B + 1 + 1 + 1 + 1, 0, none⟩ (.int .i64 ((cn : Int) + (m : Int) + 1))).heap[B + 1 + 1 + 1 + 1]? = some (.cells #[.int .i64 ((cn : Int) + (m : Int) + 1)] 3 (0, 0)) := by rw [zaa, if_pos rfl, hmr]; rfl
          have f2 : (wr.setCell ⟨B + 1 + 1 + 1 + 1, 0, none⟩ (.int .i64 ((cn : Int) + (m : Int) + 1))).heap[B + 1 + 1]? = some (.cells #[.int .i64 0] 3 (0, 0)) := by rw [zaa, if_neg (by omega)]; exact e2
          have f3 : (wr.setCell ⟨B + 1 + 1 + 1 + 1, 0, none⟩ (.int .i64 ((cn : Int) + (m : Int) + 1))).heap[B + 1 + 1 + 1]? = some (.cells #[.int .i64 0] 3 (0, 0)) := by rw [zaa, if_neg (by omega)]; exact e3
          have fc : Ch [B + 1 + 1 + 1 + 1] W2 (wr.setCell ⟨B + 1 + 1 + 1 + 1, 0, none⟩ (.int .i64 ((cn : Int) + (m : Int) + 1))) := hcr.setCell (p := ⟨B + 1 + 1 + 1 + 1, 0, none⟩) (.inl (by simp)) _
          generalize wr.setCell ⟨B + 1 + 1 + 1 + 1, 0, none⟩ (.int .i64 ((cn : Int) + (m : Int) + 1)) = Wr at *
          have hq0 : ∀ q : Gar Wr, (q.1).heap[B]? = some (.cells #[.pointer (some ⟨b, 0, none⟩)] 137 (0, 0)) := fun q => hkeep q.2 f0
          have hq1 : ∀ q : Gar Wr, (q.1).heap[B + 1]? = some (.cells #[U k] 22 (0, 0)) := fun q => hkeep q.2 f1
          have hq2 : ∀ q : Gar Wr, (q.1).heap[b]? = some (.cells (hcells t s) 141 (0, 0)) := fun q => hkeep q.2 fb
          refine rr_gar (by kernel_rfl) (by kernel_rfl) (by kernel_rfl) (by rintro ⟨a, w, h⟩; exact h) ?_
          repeat (go_big_quiet_step (fail))
          refine wpQuiet_nil ?_
          rintro W9 ⟨g9, hw9⟩
          have hc9 : Ch [] Wr W9 := by rw [hw9]; exact g9.2
          have i2 := hkeep hc9 f2
          have i3 := hkeep hc9 f3
          have im := hkeep hc9 fm
          have fc9 := fc.pure hc9
          clear hw9 g9 hq0 hq1 hq2 e0 e1 eb e2 e3 hmr hrr f0 f1 fb fm f2 f3 fc hc9
          gi_wp2
          refine rr_held (fun W' => W'.heap[B + 1 + 1 + 1 + 1]? = some (.cells #[.int .i64 ((cn : Int) + (m : Int) + 1)] 3 (0, 0))) (by kernel_rfl) (by kernel_rfl) (by rintro ⟨a, w, h⟩; exact h) im ?_
          intro hSI
          simp only [List.size_toArray, List.length_cons, List.length_nil, Nat.reduceAdd]
          refine tn 0 ?_ rfl hSI ?_ ?_; rotate_left
          · intro _ _; go_simp; try with_reducible rfl
          try go_frame
          refine tn 1 ?_ rfl hSI ?_ ?_; rotate_left
          · intro _ _; go_simp; try with_reducible rfl
          try go_frame
          refine rd 2 rfl (fun K hK => ?_); go_simp
          refine hK.out _ _ (by rw [zaw, zaa, if_neg (by omega)]; exact im) (fun _ => ?_)
          refine wpAnyH_ready (rs := [3]) (by kernel_rfl) (by simp) ?_
          refine AllReadyH.cons (o := ⟨none, .store 3 (.tmp 5) (.tmp 51), 0, _, _, none⟩) rfl (fun K2 hK2 => ?_) AllReadyH.nil
          go_simp
          refine hK2.out _ _ (by rw [zaw, zaa, if_neg (by omega), zaa, if_neg (by omega)]; exact im) (fun _ => ?_)
          refine wpAnyH_done (by kernel_rfl) ?_ _
          gi_wp2
          have hBe := HBe.out
          have hCf : Ch [B + 1 + 1 + 1 + 1, B + 1 + 1, B + 1 + 1 + 1] W (((W9.setCell ⟨B + 1 + 1, 0, none⟩ (.int .i64 (8 * (g : Int) + (x : Int)))).setCell ⟨B + 1 + 1 + 1, 0, none⟩ (.int .i64 ((cn : Int) + (m : Int) + 1))).drew) :=
            ((((hC2.of_nil).trans (fc9.mono (by simp))).setCell (p := ⟨B + 1 + 1, 0, none⟩) (.inl (by simp)) _).setCell (p := ⟨B + 1 + 1 + 1, 0, none⟩) (.inl (by simp)) _).drew
          refine ⟨⟨rfl, (8 * g + x, cn + m + 1), by rw [HX.out]; exact scan_at _ cd ls pre post g m x cn HLS.out h.not hcn.symm HND.out hlt HXM.out HE.out, h.ch.trans2 hCf (by simp; omega), ?_, ?_⟩, fun y hy hn => hCf.block y hy (fun hs => hn ((h.o y).2 ?_))⟩
          · rw [zaw, zaa, if_neg (by omega), zaa, if_pos rfl, i2]; simp [zad]
          · rw [zaw, zaa, if_pos rfl, zaa, if_neg (by omega), i3]; simp [zad]
          · simp at hs; omega
      · have hme : m = ls.length := Nat.le_antisymm hml hge
        have hdec : decide (m < ls.length) = false := by simpa using hge
        have HM := Lib.hid hme
        have HND := Lib.hid hnot
        clear hme hge hnot
        gi_wp2
        have hBe := HBe.out
        have hCf : Ch [B + 1 + 1 + 1 + 1] W wr := (hC2.of_nil).trans hcr
        have hml' := HM.out
        have hnd := HND.out
        rw [hml', List.take_length] at hnd
        have hflat : (pre ++ [g]).flatMap cd = pre.flatMap cd ++ ls.map fun x => 8 * g + x := by rw [List.flatMap_append, ← HLS.out]; simp
        refine ⟨⟨O, ⟨h.o, ?_, h.ch.trans2 hCf (by simp; omega), e0, e1, e2, e3, ?_⟩, fun _ hh => .inl hh⟩, hCf.size, fun y hy hn => hCf.block y hy (fun hs => hn ((h.o y).2 ?_))⟩
        · intro y hy
          rw [hflat] at hy
          rcases List.mem_append.1 hy with hy | hy
          · exact h.not y hy
          · obtain ⟨z, hz, rfl⟩ := List.mem_map.1 hy
            exact hnd z hz
        · rw [hflat, List.length_append, List.length_map, hcn, hmr, hml']
          simp
        · simp at hs; omega
  case done =>
    rintro O W h hdd
    have HR : Hid (r = .error 4) := HN.out (scan_none _ _ h.not)
    have hBe := HBe.out
    have hch := h.ch
    rw [hs0] at hdd
    have HBe2 := Lib.hid hBe
    clear hBe
    gi_wp2_with (refine ⟨trivial, ?_⟩; gi_at_call 83; refine (inW (tneed_no _ _)).mono ?_; rintro e w3 ⟨rfl, rfl⟩)
    exact marks_panic hdd ⟨by rw [HR.out]; rfl, hch.trans2 (zcc _ _ _) (by have := HBe2.out; simp; omega)⟩
  case stop =>
    rintro c W ⟨rfl, y, hy, hc, h1, h2⟩ hdd
    have HR : Hid (r = .ok y) := HS.out y hy
    clear hy
    gi_wp2
    refine marks_ret (v := .tuple #[I y.1, I y.2]) hdd (results_cell2 Tryz.results132 _ _ _ _ rfl rfl (zde Tryz.underlying3 rfl _ _ (fr := (0, 0)) (t := 3) ?_) (zde Tryz.underlying3 rfl _ _ (fr := (0, 0)) (t := 3) ?_)) ⟨by rw [HR.out]; rfl, hc.trans2 (zcc _ _ _) (by have := HBe.out; simp; omega)⟩
    · rw [heap_putObj, if_neg (by omega)]; exact h1
    · rw [heap_putObj, if_neg (by omega)]; exact h2
end
end Go.Proofs.Hc
