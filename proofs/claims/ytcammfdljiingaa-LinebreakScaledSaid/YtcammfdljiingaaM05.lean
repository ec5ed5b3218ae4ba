/-
  Merged from LbE LbF LbLives LbG LbJ LbV LbN LbW LbZ LbL: The makers of inputs: Items, Spoilt.
-/
import Derived.Test.YtcammfdljiingaaM04
import Derived.Test.YtcammfdljiingaaM02
/-
  The makers of inputs: Items, Spoilt.
-/
set_option linter.unusedSimpArgs false
set_option linter.unusedVariables false
set_option maxHeartbeats 4000000
namespace Go.Proofs.Ytcammfdljiingaa
open Go Go.Abs

/-- The number at a place of a list, brought into a range. -/
def atS (l : List Int) (i m : Int) : Int := if i < 0 ∨ (l.length : Int) ≤ i then 0 else aroundS (nth l i.toNat) m

theorem nth_i64 {l : List Int} (hl : ∀ x ∈ l, i64 x) (i : Nat) : i64 (nth l i) := by
  by_cases h : i < l.length
  · exact hl _ (nth_mem h)
  · simp [nth, List.getD_eq_getElem?_getD, List.getElem?_eq_none (by omega : l.length ≤ i), i64]

theorem at_v {l : List Int} {t : Tok} {i m : Int} (hl : ∀ x ∈ l, i64 x) (hm : 0 < m) : PV F 30 [.sl (l.map (.int .i64)) t, .int .i64 i, .int .i64 m] = some (.int .i64 (atS l i m)) := by
  refine PV_wp (fn := c30) rfl ?_
  dsimp only [c30]
  have ha := around_v (nth_i64 hl i.toNat) hm
  try simp (maxSteps := 4000000) (disch := first | assumption | omega | (simp only [push_next, put_next, empty_next, List.length_cons, List.length_nil] <;> omega) | exact _root_.id rfl | exact _root_.id (fun _ => rfl) | fail) only [↓pre, post, Int.reduceEq, Int.reduceLT, Int.reduceLE, Int.reduceAdd, Int.reduceSub, Int.reduceMul, Int.reduceNeg, Nat.reduceLT, Nat.reduceSub, Nat.reduceMul, Nat.reduceAdd, Nat.reduceLeDiff, reduceIte, reduceCtorEq, Nat.reduceEqDiff, ha]
  repeat' (first
    | (refine ifP_pos (by first | assumption | omega) ?_ <;> try simp (maxSteps := 4000000) (disch := first | assumption | omega | (simp only [push_next, put_next, empty_next, List.length_cons, List.length_nil] <;> omega) | exact _root_.id rfl | exact _root_.id (fun _ => rfl) | fail) only [↓pre, post, Int.reduceEq, Int.reduceLT, Int.reduceLE, Int.reduceAdd, Int.reduceSub, Int.reduceMul, Int.reduceNeg, Nat.reduceLT, Nat.reduceSub, Nat.reduceMul, Nat.reduceAdd, Nat.reduceLeDiff, reduceIte, reduceCtorEq, Nat.reduceEqDiff, ha])
    | (refine ifP_neg (by first | assumption | omega) ?_ <;> try simp (maxSteps := 4000000) (disch := first | assumption | omega | (simp only [push_next, put_next, empty_next, List.length_cons, List.length_nil] <;> omega) | exact _root_.id rfl | exact _root_.id (fun _ => rfl) | fail) only [↓pre, post, Int.reduceEq, Int.reduceLT, Int.reduceLE, Int.reduceAdd, Int.reduceSub, Int.reduceMul, Int.reduceNeg, Nat.reduceLT, Nat.reduceSub, Nat.reduceMul, Nat.reduceAdd, Nat.reduceLeDiff, reduceIte, reduceCtorEq, Nat.reduceEqDiff, ha])
    | (refine ifP_intro (fun hyp => ?_) (fun hyp => ?_) <;> first | simp (maxSteps := 4000000) (disch := first | assumption | omega | (simp only [push_next, put_next, empty_next, List.length_cons, List.length_nil] <;> omega) | exact _root_.id rfl | exact _root_.id (fun _ => rfl) | fail) only [↓pre, post, Int.reduceEq, Int.reduceLT, Int.reduceLE, Int.reduceAdd, Int.reduceSub, Int.reduceMul, Int.reduceNeg, Nat.reduceLT, Nat.reduceSub, Nat.reduceMul, Nat.reduceAdd, Nat.reduceLeDiff, reduceIte, reduceCtorEq, Nat.reduceEqDiff, ha, eq_false hyp] | simp (maxSteps := 4000000) (disch := first | assumption | omega | (simp only [push_next, put_next, empty_next, List.length_cons, List.length_nil] <;> omega) | exact _root_.id rfl | exact _root_.id (fun _ => rfl) | fail) only [↓pre, post, Int.reduceEq, Int.reduceLT, Int.reduceLE, Int.reduceAdd, Int.reduceSub, Int.reduceMul, Int.reduceNeg, Nat.reduceLT, Nat.reduceSub, Nat.reduceMul, Nat.reduceAdd, Nat.reduceLeDiff, reduceIte, reduceCtorEq, Nat.reduceEqDiff, ha, eq_true hyp] | skip))
  · simp [atS, hyp]
  · simp [atS, *]
  · simp [atS, *]

theorem around_bound (n : Int) {m : Int} (hm : 0 < m) : 0 ≤ aroundS n m ∧ aroundS n m < m := by
  unfold aroundS
  have : 0 ≤ (if n < 0 then -(n + 1) else n) := by split <;> omega
  rw [Int.tmod_eq_emod_of_nonneg this]
  exact ⟨Int.emod_nonneg _ (by omega), Int.emod_lt_of_pos _ hm⟩
theorem at_bound (l : List Int) (i : Int) {m : Int} (hm : 0 < m) : 0 ≤ atS l i m ∧ atS l i m < m := by
  unfold atS
  split
  · omega
  · exact around_bound _ hm

/-- What an item of a generated list bears: plain letters, and small numbers. -/
def plainI (x : Item) : Prop := x.text.length ≤ 100 ∧ (x.kind = 0 → ∀ c ∈ x.text, c ≠ 32 ∧ c ≠ 45) ∧ (x.kind = 2 → x.text = [45]) ∧ x.width ≤ 1000 ∧ x.cost ≤ 1000
theorem plain_cut {i j : Nat} : ∀ c ∈ List.take i (List.drop j ([97, 98, 99, 100, 101, 102, 103, 104] : List UInt8)), c ≠ 32 ∧ c ≠ 45 := by
  intro c hc
  have := List.mem_of_mem_drop (List.mem_of_mem_take hc)
  simp only [List.mem_cons, List.not_mem_nil, or_false] at this
  rcases this with rfl | rfl | rfl | rfl | rfl | rfl | rfl | rfl <;> decide

/-- The list of items that is made. -/
def GI (h : Heap) (tk : Tok) (li : List Item) (n : Nat) : Prop := Grow h 47 8 tk ∧ (tk = .nil ↔ li = []) ∧ (∀ x ∈ li, okItem x ∧ plainI x) ∧ li.length ≤ n

theorem app1 {K : AVal → Heap → Prop} {h : Heap} {tk : Tok} {li : List Item} {n : Nat} (x : Item) (g : GI h tk li n) (hx : okItem x) (ht : plainI x) (hn : n ≤ 10000)
    (q : ∀ h' tk', GI h' tk' (li ++ [x]) (n + 1) → K (.sl (items (li ++ [x])) tk') h') : bindH (appendA false 47 72 8 true (.sl (items li) tk) (.sl [x.toA] .none) h) K := by
  obtain ⟨g1, g2, g3, g4⟩ := g
  refine append_K li [x] (f := Item.toA) (fun _ => rfl) (fun _ => rfl) (fun _ => rfl) rfl rfl g1 g2 (by simp; omega) (by omega) (by omega) (by omega) ?_
  intro h' tk' a1 a2 a3 a4 a5 a6
  refine q h' tk' ⟨a1, a2, fun y hy => ?_, by simp; omega⟩
  rw [List.mem_append] at hy
  rcases hy with hy | hy
  · exact g3 y hy
  · simp only [List.mem_singleton] at hy; subst hy; exact ⟨hx, ht⟩

theorem items_w {l : List Int} {t : Tok} (hl : ∀ x ∈ l, i64 x) (ht : Pt t) : ∃ li, PV F 10 [.sl (l.map (.int .i64)) t] = some (.sl (items li) .none) ∧ valid li ∧ (∀ x ∈ li, plainI x) ∧ li.length ≤ 100 := by
  suffices hs : CV F 10 [.sl (l.map (.int .i64)) t] Heap.empty (fun r h' => ∃ li tk, r = .sl (items li) tk ∧ (Grow h' 47 8 tk ∧ tk ≠ .nil) ∧ valid li ∧ (∀ x ∈ li, plainI x) ∧ li.length ≤ 100) by
    obtain ⟨r, h', c, li, tk, rfl, hg, h1, h2, h3⟩ := hs
    refine ⟨li, PV_of c ?_, h1, h2, h3⟩
    rcases hg with ⟨rfl | ⟨id, rfl, _⟩, hg⟩
    · exact absurd rfl hg
    · rfl
  refine CV_wp (fn := c10) rfl ?_
  have hat := fun i m hm => at_v (l := l) (t := t) (i := i) (m := m) hl hm
  dsimp only [c10]
  try simp (maxSteps := 4000000) (disch := first | assumption | omega | (simp only [push_next, put_next, empty_next, List.length_cons, List.length_nil] <;> omega) | exact _root_.id rfl | exact _root_.id (fun _ => rfl) | fail) only [↓pre, post, Int.reduceEq, Int.reduceLT, Int.reduceLE, Int.reduceAdd, Int.reduceSub, Int.reduceMul, Int.reduceNeg, Nat.reduceLT, Nat.reduceSub, Nat.reduceMul, Nat.reduceAdd, Nat.reduceLeDiff, reduceIte, reduceCtorEq, Nat.reduceEqDiff]
  repeat' (first
    | (refine ifP_pos (by first | assumption | omega) ?_ <;> try simp (maxSteps := 4000000) (disch := first | assumption | omega | (simp only [push_next, put_next, empty_next, List.length_cons, List.length_nil] <;> omega) | exact _root_.id rfl | exact _root_.id (fun _ => rfl) | fail) only [↓pre, post, Int.reduceEq, Int.reduceLT, Int.reduceLE, Int.reduceAdd, Int.reduceSub, Int.reduceMul, Int.reduceNeg, Nat.reduceLT, Nat.reduceSub, Nat.reduceMul, Nat.reduceAdd, Nat.reduceLeDiff, reduceIte, reduceCtorEq, Nat.reduceEqDiff])
    | (refine ifP_neg (by first | assumption | omega) ?_ <;> try simp (maxSteps := 4000000) (disch := first | assumption | omega | (simp only [push_next, put_next, empty_next, List.length_cons, List.length_nil] <;> omega) | exact _root_.id rfl | exact _root_.id (fun _ => rfl) | fail) only [↓pre, post, Int.reduceEq, Int.reduceLT, Int.reduceLE, Int.reduceAdd, Int.reduceSub, Int.reduceMul, Int.reduceNeg, Nat.reduceLT, Nat.reduceSub, Nat.reduceMul, Nat.reduceAdd, Nat.reduceLeDiff, reduceIte, reduceCtorEq, Nat.reduceEqDiff])
    | (refine ifP_intro (fun hyp => ?_) (fun hyp => ?_) <;> first | simp (maxSteps := 4000000) (disch := first | assumption | omega | (simp only [push_next, put_next, empty_next, List.length_cons, List.length_nil] <;> omega) | exact _root_.id rfl | exact _root_.id (fun _ => rfl) | fail) only [↓pre, post, Int.reduceEq, Int.reduceLT, Int.reduceLE, Int.reduceAdd, Int.reduceSub, Int.reduceMul, Int.reduceNeg, Nat.reduceLT, Nat.reduceSub, Nat.reduceMul, Nat.reduceAdd, Nat.reduceLeDiff, reduceIte, reduceCtorEq, Nat.reduceEqDiff, eq_false hyp] | simp (maxSteps := 4000000) (disch := first | assumption | omega | (simp only [push_next, put_next, empty_next, List.length_cons, List.length_nil] <;> omega) | exact _root_.id rfl | exact _root_.id (fun _ => rfl) | fail) only [↓pre, post, Int.reduceEq, Int.reduceLT, Int.reduceLE, Int.reduceAdd, Int.reduceSub, Int.reduceMul, Int.reduceNeg, Nat.reduceLT, Nat.reduceSub, Nat.reduceMul, Nat.reduceAdd, Nat.reduceLeDiff, reduceIte, reduceCtorEq, Nat.reduceEqDiff, eq_true hyp] | skip))
  refine w_loop (fun m vs h0 => ∃ (i : Nat) (tk : Tok) (li : List Item) (x4 x5 x6 x7 x8 x9 x10 x11 x12 x13 : AVal), m = 10 - i ∧ i ≤ 9 ∧ GI h0 tk li (9 * i) ∧
    vs = [.sl (l.map (.int .i64)) t, .sl [] .nil, .sl (items li) tk, .int .i64 i, x4, x5, x6, x7, x8, x9, x10, x11, x12, x13]) 10
    ⟨0, .nil, [], _, _, _, _, _, _, _, _, _, _, rfl, by omega, ⟨.inl rfl, by simp, by simp, by simp⟩, rfl⟩ ?_
  rintro m vs h0 ⟨i, tk, li, x4, x5, x6, x7, x8, x9, x10, x11, x12, x13, rfl, hi, hG, rfl⟩
  have b0 := at_bound l 0 (m := 9) (by omega)
  have b1 := at_bound l (1 + 3 * (i : Int)) (m := 64) (by omega)
  try simp (maxSteps := 4000000) (disch := first | assumption | omega | (simp only [push_next, put_next, empty_next, List.length_cons, List.length_nil] <;> omega) | exact _root_.id rfl | exact _root_.id (fun _ => rfl) | fail) only [↓pre, post, Int.reduceEq, Int.reduceLT, Int.reduceLE, Int.reduceAdd, Int.reduceSub, Int.reduceMul, Int.reduceNeg, Nat.reduceLT, Nat.reduceSub, Nat.reduceMul, Nat.reduceAdd, Nat.reduceLeDiff, reduceIte, reduceCtorEq, Nat.reduceEqDiff, hat, Int.tdiv_eq_ediv_of_nonneg, Int.tmod_eq_emod_of_nonneg]
  repeat' (first
    | (refine ifP_pos (by first | assumption | omega) ?_ <;> try simp (maxSteps := 4000000) (disch := first | assumption | omega | (simp only [push_next, put_next, empty_next, List.length_cons, List.length_nil] <;> omega) | exact _root_.id rfl | exact _root_.id (fun _ => rfl) | fail) only [↓pre, post, Int.reduceEq, Int.reduceLT, Int.reduceLE, Int.reduceAdd, Int.reduceSub, Int.reduceMul, Int.reduceNeg, Nat.reduceLT, Nat.reduceSub, Nat.reduceMul, Nat.reduceAdd, Nat.reduceLeDiff, reduceIte, reduceCtorEq, Nat.reduceEqDiff, hat, Int.tdiv_eq_ediv_of_nonneg, Int.tmod_eq_emod_of_nonneg])
    | (refine ifP_neg (by first | assumption | omega) ?_ <;> try simp (maxSteps := 4000000) (disch := first | assumption | omega | (simp only [push_next, put_next, empty_next, List.length_cons, List.length_nil] <;> omega) | exact _root_.id rfl | exact _root_.id (fun _ => rfl) | fail) only [↓pre, post, Int.reduceEq, Int.reduceLT, Int.reduceLE, Int.reduceAdd, Int.reduceSub, Int.reduceMul, Int.reduceNeg, Nat.reduceLT, Nat.reduceSub, Nat.reduceMul, Nat.reduceAdd, Nat.reduceLeDiff, reduceIte, reduceCtorEq, Nat.reduceEqDiff, hat, Int.tdiv_eq_ediv_of_nonneg, Int.tmod_eq_emod_of_nonneg])
    | (refine ifP_intro (fun hyp => ?_) (fun hyp => ?_) <;> first | simp (maxSteps := 4000000) (disch := first | assumption | omega | (simp only [push_next, put_next, empty_next, List.length_cons, List.length_nil] <;> omega) | exact _root_.id rfl | exact _root_.id (fun _ => rfl) | fail) only [↓pre, post, Int.reduceEq, Int.reduceLT, Int.reduceLE, Int.reduceAdd, Int.reduceSub, Int.reduceMul, Int.reduceNeg, Nat.reduceLT, Nat.reduceSub, Nat.reduceMul, Nat.reduceAdd, Nat.reduceLeDiff, reduceIte, reduceCtorEq, Nat.reduceEqDiff, hat, Int.tdiv_eq_ediv_of_nonneg, Int.tmod_eq_emod_of_nonneg, eq_false hyp] | simp (maxSteps := 4000000) (disch := first | assumption | omega | (simp only [push_next, put_next, empty_next, List.length_cons, List.length_nil] <;> omega) | exact _root_.id rfl | exact _root_.id (fun _ => rfl) | fail) only [↓pre, post, Int.reduceEq, Int.reduceLT, Int.reduceLE, Int.reduceAdd, Int.reduceSub, Int.reduceMul, Int.reduceNeg, Nat.reduceLT, Nat.reduceSub, Nat.reduceMul, Nat.reduceAdd, Nat.reduceLeDiff, reduceIte, reduceCtorEq, Nat.reduceEqDiff, hat, Int.tdiv_eq_ediv_of_nonneg, Int.tmod_eq_emod_of_nonneg, eq_true hyp] | skip))
  · refine w_loop (fun m vs h0 => ∃ (k : Nat) (tk : Tok) (li : List Item) (x10 : AVal), m = 3 - k ∧ k ≤ 2 ∧ GI h0 tk li (9 * i + k) ∧
      vs = [.sl (l.map (.int .i64)) t, .sl [] .nil, .sl (items li) tk, .int .i64 i, .int .i64 (atS l (1 + 3 * i) 64), .int .i64 k, x6, x7, .bool true, .bool true, x10, x11, x12, x13]) 3
      ⟨0, _, _, _, rfl, by omega, hG, rfl⟩ ?_
    rintro m vs h0 ⟨k, tk, li, x10, rfl, hk, hG, rfl⟩
    try simp (maxSteps := 4000000) (disch := first | assumption | omega | (simp only [push_next, put_next, empty_next, List.length_cons, List.length_nil] <;> omega) | exact _root_.id rfl | exact _root_.id (fun _ => rfl) | fail) only [↓pre, post, Int.reduceEq, Int.reduceLT, Int.reduceLE, Int.reduceAdd, Int.reduceSub, Int.reduceMul, Int.reduceNeg, Nat.reduceLT, Nat.reduceSub, Nat.reduceMul, Nat.reduceAdd, Nat.reduceLeDiff, reduceIte, reduceCtorEq, Nat.reduceEqDiff, hat, Int.tdiv_eq_ediv_of_nonneg, Int.tmod_eq_emod_of_nonneg]
    repeat' (first
      | (refine ifP_pos (by first | assumption | omega) ?_ <;> try simp (maxSteps := 4000000) (disch := first | assumption | omega | (simp only [push_next, put_next, empty_next, List.length_cons, List.length_nil] <;> omega) | exact _root_.id rfl | exact _root_.id (fun _ => rfl) | fail) only [↓pre, post, Int.reduceEq, Int.reduceLT, Int.reduceLE, Int.reduceAdd, Int.reduceSub, Int.reduceMul, Int.reduceNeg, Nat.reduceLT, Nat.reduceSub, Nat.reduceMul, Nat.reduceAdd, Nat.reduceLeDiff, reduceIte, reduceCtorEq, Nat.reduceEqDiff, hat, Int.tdiv_eq_ediv_of_nonneg, Int.tmod_eq_emod_of_nonneg])
      | (refine ifP_neg (by first | assumption | omega) ?_ <;> try simp (maxSteps := 4000000) (disch := first | assumption | omega | (simp only [push_next, put_next, empty_next, List.length_cons, List.length_nil] <;> omega) | exact _root_.id rfl | exact _root_.id (fun _ => rfl) | fail) only [↓pre, post, Int.reduceEq, Int.reduceLT, Int.reduceLE, Int.reduceAdd, Int.reduceSub, Int.reduceMul, Int.reduceNeg, Nat.reduceLT, Nat.reduceSub, Nat.reduceMul, Nat.reduceAdd, Nat.reduceLeDiff, reduceIte, reduceCtorEq, Nat.reduceEqDiff, hat, Int.tdiv_eq_ediv_of_nonneg, Int.tmod_eq_emod_of_nonneg])
      | (refine ifP_intro (fun hyp => ?_) (fun hyp => ?_) <;> first | simp (maxSteps := 4000000) (disch := first | assumption | omega | (simp only [push_next, put_next, empty_next, List.length_cons, List.length_nil] <;> omega) | exact _root_.id rfl | exact _root_.id (fun _ => rfl) | fail) only [↓pre, post, Int.reduceEq, Int.reduceLT, Int.reduceLE, Int.reduceAdd, Int.reduceSub, Int.reduceMul, Int.reduceNeg, Nat.reduceLT, Nat.reduceSub, Nat.reduceMul, Nat.reduceAdd, Nat.reduceLeDiff, reduceIte, reduceCtorEq, Nat.reduceEqDiff, hat, Int.tdiv_eq_ediv_of_nonneg, Int.tmod_eq_emod_of_nonneg, eq_false hyp] | simp (maxSteps := 4000000) (disch := first | assumption | omega | (simp only [push_next, put_next, empty_next, List.length_cons, List.length_nil] <;> omega) | exact _root_.id rfl | exact _root_.id (fun _ => rfl) | fail) only [↓pre, post, Int.reduceEq, Int.reduceLT, Int.reduceLE, Int.reduceAdd, Int.reduceSub, Int.reduceMul, Int.reduceNeg, Nat.reduceLT, Nat.reduceSub, Nat.reduceMul, Nat.reduceAdd, Nat.reduceLeDiff, reduceIte, reduceCtorEq, Nat.reduceEqDiff, hat, Int.tdiv_eq_ediv_of_nonneg, Int.tmod_eq_emod_of_nonneg, eq_true hyp] | skip))
    · refine app1 ⟨1, [], 1 + atS l (1 + 3 * (i : Int)) 64 / 32, 0⟩ hG (by unfold okItem; simp; omega) (by unfold plainI; simp; omega) (by omega) (fun h1 tk1 hG => ?_)
      try simp (maxSteps := 4000000) (disch := first | assumption | omega | (simp only [push_next, put_next, empty_next, List.length_cons, List.length_nil] <;> omega) | exact _root_.id rfl | exact _root_.id (fun _ => rfl) | fail) only [↓pre, post, Int.reduceEq, Int.reduceLT, Int.reduceLE, Int.reduceAdd, Int.reduceSub, Int.reduceMul, Int.reduceNeg, Nat.reduceLT, Nat.reduceSub, Nat.reduceMul, Nat.reduceAdd, Nat.reduceLeDiff, reduceIte, reduceCtorEq, Nat.reduceEqDiff]
      repeat' (first
        | (refine ifP_pos (by first | assumption | omega) ?_ <;> try simp (maxSteps := 4000000) (disch := first | assumption | omega | (simp only [push_next, put_next, empty_next, List.length_cons, List.length_nil] <;> omega) | exact _root_.id rfl | exact _root_.id (fun _ => rfl) | fail) only [↓pre, post, Int.reduceEq, Int.reduceLT, Int.reduceLE, Int.reduceAdd, Int.reduceSub, Int.reduceMul, Int.reduceNeg, Nat.reduceLT, Nat.reduceSub, Nat.reduceMul, Nat.reduceAdd, Nat.reduceLeDiff, reduceIte, reduceCtorEq, Nat.reduceEqDiff])
        | (refine ifP_neg (by first | assumption | omega) ?_ <;> try simp (maxSteps := 4000000) (disch := first | assumption | omega | (simp only [push_next, put_next, empty_next, List.length_cons, List.length_nil] <;> omega) | exact _root_.id rfl | exact _root_.id (fun _ => rfl) | fail) only [↓pre, post, Int.reduceEq, Int.reduceLT, Int.reduceLE, Int.reduceAdd, Int.reduceSub, Int.reduceMul, Int.reduceNeg, Nat.reduceLT, Nat.reduceSub, Nat.reduceMul, Nat.reduceAdd, Nat.reduceLeDiff, reduceIte, reduceCtorEq, Nat.reduceEqDiff])
        | (refine ifP_intro (fun hyp => ?_) (fun hyp => ?_) <;> first | simp (maxSteps := 4000000) (disch := first | assumption | omega | (simp only [push_next, put_next, empty_next, List.length_cons, List.length_nil] <;> omega) | exact _root_.id rfl | exact _root_.id (fun _ => rfl) | fail) only [↓pre, post, Int.reduceEq, Int.reduceLT, Int.reduceLE, Int.reduceAdd, Int.reduceSub, Int.reduceMul, Int.reduceNeg, Nat.reduceLT, Nat.reduceSub, Nat.reduceMul, Nat.reduceAdd, Nat.reduceLeDiff, reduceIte, reduceCtorEq, Nat.reduceEqDiff, eq_false hyp] | simp (maxSteps := 4000000) (disch := first | assumption | omega | (simp only [push_next, put_next, empty_next, List.length_cons, List.length_nil] <;> omega) | exact _root_.id rfl | exact _root_.id (fun _ => rfl) | fail) only [↓pre, post, Int.reduceEq, Int.reduceLT, Int.reduceLE, Int.reduceAdd, Int.reduceSub, Int.reduceMul, Int.reduceNeg, Nat.reduceLT, Nat.reduceSub, Nat.reduceMul, Nat.reduceAdd, Nat.reduceLeDiff, reduceIte, reduceCtorEq, Nat.reduceEqDiff, eq_true hyp] | skip))
      exact lp_n ⟨3 - (k + 1), by omega, k + 1, _, _, _, rfl, by omega, hG, rfl⟩
    · refine app1 ⟨3, [], 0, 0⟩ hG (by unfold okItem; simp) (by unfold plainI; simp) (by omega) (fun h1 tk1 hG => ?_)
      try simp (maxSteps := 4000000) (disch := first | assumption | omega | (simp only [push_next, put_next, empty_next, List.length_cons, List.length_nil] <;> omega) | exact _root_.id rfl | exact _root_.id (fun _ => rfl) | fail) only [↓pre, post, Int.reduceEq, Int.reduceLT, Int.reduceLE, Int.reduceAdd, Int.reduceSub, Int.reduceMul, Int.reduceNeg, Nat.reduceLT, Nat.reduceSub, Nat.reduceMul, Nat.reduceAdd, Nat.reduceLeDiff, reduceIte, reduceCtorEq, Nat.reduceEqDiff, hat]
      repeat' (first
        | (refine ifP_pos (by first | assumption | omega) ?_ <;> try simp (maxSteps := 4000000) (disch := first | assumption | omega | (simp only [push_next, put_next, empty_next, List.length_cons, List.length_nil] <;> omega) | exact _root_.id rfl | exact _root_.id (fun _ => rfl) | fail) only [↓pre, post, Int.reduceEq, Int.reduceLT, Int.reduceLE, Int.reduceAdd, Int.reduceSub, Int.reduceMul, Int.reduceNeg, Nat.reduceLT, Nat.reduceSub, Nat.reduceMul, Nat.reduceAdd, Nat.reduceLeDiff, reduceIte, reduceCtorEq, Nat.reduceEqDiff, hat])
        | (refine ifP_neg (by first | assumption | omega) ?_ <;> try simp (maxSteps := 4000000) (disch := first | assumption | omega | (simp only [push_next, put_next, empty_next, List.length_cons, List.length_nil] <;> omega) | exact _root_.id rfl | exact _root_.id (fun _ => rfl) | fail) only [↓pre, post, Int.reduceEq, Int.reduceLT, Int.reduceLE, Int.reduceAdd, Int.reduceSub, Int.reduceMul, Int.reduceNeg, Nat.reduceLT, Nat.reduceSub, Nat.reduceMul, Nat.reduceAdd, Nat.reduceLeDiff, reduceIte, reduceCtorEq, Nat.reduceEqDiff, hat])
        | (refine ifP_intro (fun hyp => ?_) (fun hyp => ?_) <;> first | simp (maxSteps := 4000000) (disch := first | assumption | omega | (simp only [push_next, put_next, empty_next, List.length_cons, List.length_nil] <;> omega) | exact _root_.id rfl | exact _root_.id (fun _ => rfl) | fail) only [↓pre, post, Int.reduceEq, Int.reduceLT, Int.reduceLE, Int.reduceAdd, Int.reduceSub, Int.reduceMul, Int.reduceNeg, Nat.reduceLT, Nat.reduceSub, Nat.reduceMul, Nat.reduceAdd, Nat.reduceLeDiff, reduceIte, reduceCtorEq, Nat.reduceEqDiff, hat, eq_false hyp] | simp (maxSteps := 4000000) (disch := first | assumption | omega | (simp only [push_next, put_next, empty_next, List.length_cons, List.length_nil] <;> omega) | exact _root_.id rfl | exact _root_.id (fun _ => rfl) | fail) only [↓pre, post, Int.reduceEq, Int.reduceLT, Int.reduceLE, Int.reduceAdd, Int.reduceSub, Int.reduceMul, Int.reduceNeg, Nat.reduceLT, Nat.reduceSub, Nat.reduceMul, Nat.reduceAdd, Nat.reduceLeDiff, reduceIte, reduceCtorEq, Nat.reduceEqDiff, hat, eq_true hyp] | skip))
      refine w_loop (fun m vs h0 => ∃ (k : Nat) (tk : Tok) (li : List Item) (x5 : AVal) (x7 x8 x9 x10 x11 x12 x13 : AVal), m = 4 - k ∧ k ≤ 3 ∧ GI h0 tk li (9 * i + 3 + 2 * k) ∧
        vs = [.sl (l.map (.int .i64)) t, .sl [] .nil, .sl (items li) tk, .int .i64 i, .int .i64 (atS l (1 + 3 * i) 64), x5, .int .i64 k, x7, x8, x9, x10, x11, x12, x13]) 4
        ⟨0, _, _, _, _, _, _, _, _, _, _, rfl, by omega, ⟨hG.1, hG.2.1, hG.2.2.1, by have := hG.2.2.2; omega⟩, rfl⟩ ?_
      rintro m vs h0 ⟨k, tk, li, x5, x7, x8, x9, x10, x11, x12, x13, rfl, hk, hG, rfl⟩
      have b2 := at_bound l (3 + 3 * (i : Int)) (m := 30) (by omega)
      have b3 := at_bound l (2 + 3 * (i : Int) + (k : Int)) (m := 5) (by omega)
      try simp (maxSteps := 4000000) (disch := first | assumption | omega | (simp only [push_next, put_next, empty_next, List.length_cons, List.length_nil] <;> omega) | exact _root_.id rfl | exact _root_.id (fun _ => rfl) | fail) only [↓pre, post, Int.reduceEq, Int.reduceLT, Int.reduceLE, Int.reduceAdd, Int.reduceSub, Int.reduceMul, Int.reduceNeg, Nat.reduceLT, Nat.reduceSub, Nat.reduceMul, Nat.reduceAdd, Nat.reduceLeDiff, reduceIte, reduceCtorEq, Nat.reduceEqDiff, hat, Int.tdiv_eq_ediv_of_nonneg, Int.tmod_eq_emod_of_nonneg]
      repeat' (first
        | (refine ifP_pos (by first | assumption | omega) ?_ <;> try simp (maxSteps := 4000000) (disch := first | assumption | omega | (simp only [push_next, put_next, empty_next, List.length_cons, List.length_nil] <;> omega) | exact _root_.id rfl | exact _root_.id (fun _ => rfl) | fail) only [↓pre, post, Int.reduceEq, Int.reduceLT, Int.reduceLE, Int.reduceAdd, Int.reduceSub, Int.reduceMul, Int.reduceNeg, Nat.reduceLT, Nat.reduceSub, Nat.reduceMul, Nat.reduceAdd, Nat.reduceLeDiff, reduceIte, reduceCtorEq, Nat.reduceEqDiff, hat, Int.tdiv_eq_ediv_of_nonneg, Int.tmod_eq_emod_of_nonneg])
        | (refine ifP_neg (by first | assumption | omega) ?_ <;> try simp (maxSteps := 4000000) (disch := first | assumption | omega | (simp only [push_next, put_next, empty_next, List.length_cons, List.length_nil] <;> omega) | exact _root_.id rfl | exact _root_.id (fun _ => rfl) | fail) only [↓pre, post, Int.reduceEq, Int.reduceLT, Int.reduceLE, Int.reduceAdd, Int.reduceSub, Int.reduceMul, Int.reduceNeg, Nat.reduceLT, Nat.reduceSub, Nat.reduceMul, Nat.reduceAdd, Nat.reduceLeDiff, reduceIte, reduceCtorEq, Nat.reduceEqDiff, hat, Int.tdiv_eq_ediv_of_nonneg, Int.tmod_eq_emod_of_nonneg])
        | (refine ifP_intro (fun hyp => ?_) (fun hyp => ?_) <;> first | simp (maxSteps := 4000000) (disch := first | assumption | omega | (simp only [push_next, put_next, empty_next, List.length_cons, List.length_nil] <;> omega) | exact _root_.id rfl | exact _root_.id (fun _ => rfl) | fail) only [↓pre, post, Int.reduceEq, Int.reduceLT, Int.reduceLE, Int.reduceAdd, Int.reduceSub, Int.reduceMul, Int.reduceNeg, Nat.reduceLT, Nat.reduceSub, Nat.reduceMul, Nat.reduceAdd, Nat.reduceLeDiff, reduceIte, reduceCtorEq, Nat.reduceEqDiff, hat, Int.tdiv_eq_ediv_of_nonneg, Int.tmod_eq_emod_of_nonneg, eq_false hyp] | simp (maxSteps := 4000000) (disch := first | assumption | omega | (simp only [push_next, put_next, empty_next, List.length_cons, List.length_nil] <;> omega) | exact _root_.id rfl | exact _root_.id (fun _ => rfl) | fail) only [↓pre, post, Int.reduceEq, Int.reduceLT, Int.reduceLE, Int.reduceAdd, Int.reduceSub, Int.reduceMul, Int.reduceNeg, Nat.reduceLT, Nat.reduceSub, Nat.reduceMul, Nat.reduceAdd, Nat.reduceLeDiff, reduceIte, reduceCtorEq, Nat.reduceEqDiff, hat, Int.tdiv_eq_ediv_of_nonneg, Int.tmod_eq_emod_of_nonneg, eq_true hyp] | skip))
      all_goals first
        | (refine app1 ⟨2, [45], 1, atS l (3 + 3 * (i : Int)) 30⟩ hG (by unfold okItem; simp; omega) (by unfold plainI; simp; omega) (by omega) (fun h1 tk1 hG => ?_)
           try simp (maxSteps := 4000000) (disch := first | assumption | omega | (simp only [push_next, put_next, empty_next, List.length_cons, List.length_nil] <;> omega) | exact _root_.id rfl | exact _root_.id (fun _ => rfl) | fail) only [↓pre, post, Int.reduceEq, Int.reduceLT, Int.reduceLE, Int.reduceAdd, Int.reduceSub, Int.reduceMul, Int.reduceNeg, Nat.reduceLT, Nat.reduceSub, Nat.reduceMul, Nat.reduceAdd, Nat.reduceLeDiff, reduceIte, reduceCtorEq, Nat.reduceEqDiff, hat]
           repeat' (first
             | (refine ifP_pos (by first | assumption | omega) ?_ <;> try simp (maxSteps := 4000000) (disch := first | assumption | omega | (simp only [push_next, put_next, empty_next, List.length_cons, List.length_nil] <;> omega) | exact _root_.id rfl | exact _root_.id (fun _ => rfl) | fail) only [↓pre, post, Int.reduceEq, Int.reduceLT, Int.reduceLE, Int.reduceAdd, Int.reduceSub, Int.reduceMul, Int.reduceNeg, Nat.reduceLT, Nat.reduceSub, Nat.reduceMul, Nat.reduceAdd, Nat.reduceLeDiff, reduceIte, reduceCtorEq, Nat.reduceEqDiff, hat])
             | (refine ifP_neg (by first | assumption | omega) ?_ <;> try simp (maxSteps := 4000000) (disch := first | assumption | omega | (simp only [push_next, put_next, empty_next, List.length_cons, List.length_nil] <;> omega) | exact _root_.id rfl | exact _root_.id (fun _ => rfl) | fail) only [↓pre, post, Int.reduceEq, Int.reduceLT, Int.reduceLE, Int.reduceAdd, Int.reduceSub, Int.reduceMul, Int.reduceNeg, Nat.reduceLT, Nat.reduceSub, Nat.reduceMul, Nat.reduceAdd, Nat.reduceLeDiff, reduceIte, reduceCtorEq, Nat.reduceEqDiff, hat])
             | (refine ifP_intro (fun hyp => ?_) (fun hyp => ?_) <;> first | simp (maxSteps := 4000000) (disch := first | assumption | omega | (simp only [push_next, put_next, empty_next, List.length_cons, List.length_nil] <;> omega) | exact _root_.id rfl | exact _root_.id (fun _ => rfl) | fail) only [↓pre, post, Int.reduceEq, Int.reduceLT, Int.reduceLE, Int.reduceAdd, Int.reduceSub, Int.reduceMul, Int.reduceNeg, Nat.reduceLT, Nat.reduceSub, Nat.reduceMul, Nat.reduceAdd, Nat.reduceLeDiff, reduceIte, reduceCtorEq, Nat.reduceEqDiff, hat, eq_false hyp] | simp (maxSteps := 4000000) (disch := first | assumption | omega | (simp only [push_next, put_next, empty_next, List.length_cons, List.length_nil] <;> omega) | exact _root_.id rfl | exact _root_.id (fun _ => rfl) | fail) only [↓pre, post, Int.reduceEq, Int.reduceLT, Int.reduceLE, Int.reduceAdd, Int.reduceSub, Int.reduceMul, Int.reduceNeg, Nat.reduceLT, Nat.reduceSub, Nat.reduceMul, Nat.reduceAdd, Nat.reduceLeDiff, reduceIte, reduceCtorEq, Nat.reduceEqDiff, hat, eq_true hyp] | skip))
           refine app1 ⟨0, _, 1 + atS l (2 + 3 * (i : Int) + (k : Int)) 5, 0⟩ hG ?_ ?_ (by omega) (fun h1 tk1 hG => ?_)
           · unfold okItem; simp; omega
           · exact ⟨by simp; omega, fun _ => plain_cut, by simp, by simp only; omega, by simp⟩
           try simp (maxSteps := 4000000) (disch := first | assumption | omega | (simp only [push_next, put_next, empty_next, List.length_cons, List.length_nil] <;> omega) | exact _root_.id rfl | exact _root_.id (fun _ => rfl) | fail) only [↓pre, post, Int.reduceEq, Int.reduceLT, Int.reduceLE, Int.reduceAdd, Int.reduceSub, Int.reduceMul, Int.reduceNeg, Nat.reduceLT, Nat.reduceSub, Nat.reduceMul, Nat.reduceAdd, Nat.reduceLeDiff, reduceIte, reduceCtorEq, Nat.reduceEqDiff]
           repeat' (first
             | (refine ifP_pos (by first | assumption | omega) ?_ <;> try simp (maxSteps := 4000000) (disch := first | assumption | omega | (simp only [push_next, put_next, empty_next, List.length_cons, List.length_nil] <;> omega) | exact _root_.id rfl | exact _root_.id (fun _ => rfl) | fail) only [↓pre, post, Int.reduceEq, Int.reduceLT, Int.reduceLE, Int.reduceAdd, Int.reduceSub, Int.reduceMul, Int.reduceNeg, Nat.reduceLT, Nat.reduceSub, Nat.reduceMul, Nat.reduceAdd, Nat.reduceLeDiff, reduceIte, reduceCtorEq, Nat.reduceEqDiff])
             | (refine ifP_neg (by first | assumption | omega) ?_ <;> try simp (maxSteps := 4000000) (disch := first | assumption | omega | (simp only [push_next, put_next, empty_next, List.length_cons, List.length_nil] <;> omega) | exact _root_.id rfl | exact _root_.id (fun _ => rfl) | fail) only [↓pre, post, Int.reduceEq, Int.reduceLT, Int.reduceLE, Int.reduceAdd, Int.reduceSub, Int.reduceMul, Int.reduceNeg, Nat.reduceLT, Nat.reduceSub, Nat.reduceMul, Nat.reduceAdd, Nat.reduceLeDiff, reduceIte, reduceCtorEq, Nat.reduceEqDiff])
             | (refine ifP_intro (fun hyp => ?_) (fun hyp => ?_) <;> first | simp (maxSteps := 4000000) (disch := first | assumption | omega | (simp only [push_next, put_next, empty_next, List.length_cons, List.length_nil] <;> omega) | exact _root_.id rfl | exact _root_.id (fun _ => rfl) | fail) only [↓pre, post, Int.reduceEq, Int.reduceLT, Int.reduceLE, Int.reduceAdd, Int.reduceSub, Int.reduceMul, Int.reduceNeg, Nat.reduceLT, Nat.reduceSub, Nat.reduceMul, Nat.reduceAdd, Nat.reduceLeDiff, reduceIte, reduceCtorEq, Nat.reduceEqDiff, eq_false hyp] | simp (maxSteps := 4000000) (disch := first | assumption | omega | (simp only [push_next, put_next, empty_next, List.length_cons, List.length_nil] <;> omega) | exact _root_.id rfl | exact _root_.id (fun _ => rfl) | fail) only [↓pre, post, Int.reduceEq, Int.reduceLT, Int.reduceLE, Int.reduceAdd, Int.reduceSub, Int.reduceMul, Int.reduceNeg, Nat.reduceLT, Nat.reduceSub, Nat.reduceMul, Nat.reduceAdd, Nat.reduceLeDiff, reduceIte, reduceCtorEq, Nat.reduceEqDiff, eq_true hyp] | skip))
           exact lp_n ⟨4 - (k + 1), by omega, k + 1, _, _, _, _, _, _, _, _, _, _, rfl, by omega, ⟨hG.1, hG.2.1, hG.2.2.1, by have := hG.2.2.2; omega⟩, rfl⟩)
        | (refine app1 ⟨0, _, 1 + atS l (2 + 3 * (i : Int) + (k : Int)) 5, 0⟩ hG ?_ ?_ (by omega) (fun h1 tk1 hG => ?_)
           · unfold okItem; simp; omega
           · exact ⟨by simp; omega, fun _ => plain_cut, by simp, by simp only; omega, by simp⟩
           try simp (maxSteps := 4000000) (disch := first | assumption | omega | (simp only [push_next, put_next, empty_next, List.length_cons, List.length_nil] <;> omega) | exact _root_.id rfl | exact _root_.id (fun _ => rfl) | fail) only [↓pre, post, Int.reduceEq, Int.reduceLT, Int.reduceLE, Int.reduceAdd, Int.reduceSub, Int.reduceMul, Int.reduceNeg, Nat.reduceLT, Nat.reduceSub, Nat.reduceMul, Nat.reduceAdd, Nat.reduceLeDiff, reduceIte, reduceCtorEq, Nat.reduceEqDiff]
           repeat' (first
             | (refine ifP_pos (by first | assumption | omega) ?_ <;> try simp (maxSteps := 4000000) (disch := first | assumption | omega | (simp only [push_next, put_next, empty_next, List.length_cons, List.length_nil] <;> omega) | exact _root_.id rfl | exact _root_.id (fun _ => rfl) | fail) only [↓pre, post, Int.reduceEq, Int.reduceLT, Int.reduceLE, Int.reduceAdd, Int.reduceSub, Int.reduceMul, Int.reduceNeg, Nat.reduceLT, Nat.reduceSub, Nat.reduceMul, Nat.reduceAdd, Nat.reduceLeDiff, reduceIte, reduceCtorEq, Nat.reduceEqDiff])
             | (refine ifP_neg (by first | assumption | omega) ?_ <;> try simp (maxSteps := 4000000) (disch := first | assumption | omega | (simp only [push_next, put_next, empty_next, List.length_cons, List.length_nil] <;> omega) | exact _root_.id rfl | exact _root_.id (fun _ => rfl) | fail) only [↓pre, post, Int.reduceEq, Int.reduceLT, Int.reduceLE, Int.reduceAdd, Int.reduceSub, Int.reduceMul, Int.reduceNeg, Nat.reduceLT, Nat.reduceSub, Nat.reduceMul, Nat.reduceAdd, Nat.reduceLeDiff, reduceIte, reduceCtorEq, Nat.reduceEqDiff])
             | (refine ifP_intro (fun hyp => ?_) (fun hyp => ?_) <;> first | simp (maxSteps := 4000000) (disch := first | assumption | omega | (simp only [push_next, put_next, empty_next, List.length_cons, List.length_nil] <;> omega) | exact _root_.id rfl | exact _root_.id (fun _ => rfl) | fail) only [↓pre, post, Int.reduceEq, Int.reduceLT, Int.reduceLE, Int.reduceAdd, Int.reduceSub, Int.reduceMul, Int.reduceNeg, Nat.reduceLT, Nat.reduceSub, Nat.reduceMul, Nat.reduceAdd, Nat.reduceLeDiff, reduceIte, reduceCtorEq, Nat.reduceEqDiff, eq_false hyp] | simp (maxSteps := 4000000) (disch := first | assumption | omega | (simp only [push_next, put_next, empty_next, List.length_cons, List.length_nil] <;> omega) | exact _root_.id rfl | exact _root_.id (fun _ => rfl) | fail) only [↓pre, post, Int.reduceEq, Int.reduceLT, Int.reduceLE, Int.reduceAdd, Int.reduceSub, Int.reduceMul, Int.reduceNeg, Nat.reduceLT, Nat.reduceSub, Nat.reduceMul, Nat.reduceAdd, Nat.reduceLeDiff, reduceIte, reduceCtorEq, Nat.reduceEqDiff, eq_true hyp] | skip))
           exact lp_n ⟨4 - (k + 1), by omega, k + 1, _, _, _, _, _, _, _, _, _, _, rfl, by omega, ⟨hG.1, hG.2.1, hG.2.2.1, by have := hG.2.2.2; omega⟩, rfl⟩)
        | exact lp_n ⟨10 - (i + 1), by omega, i + 1, _, _, _, _, _, _, _, _, _, _, _, _, rfl, by omega, ⟨hG.1, hG.2.1, hG.2.2.1, by have := hG.2.2.2; omega⟩, rfl⟩
    · refine w_loop (fun m vs h0 => ∃ (k : Nat) (tk : Tok) (li : List Item) (x5 : AVal) (x7 x8 x9 x10 x11 x12 x13 : AVal), m = 4 - k ∧ k ≤ 3 ∧ GI h0 tk li (9 * i + 3 + 2 * k) ∧
        vs = [.sl (l.map (.int .i64)) t, .sl [] .nil, .sl (items li) tk, .int .i64 i, .int .i64 (atS l (1 + 3 * i) 64), x5, .int .i64 k, x7, x8, x9, x10, x11, x12, x13]) 4
        ⟨0, _, _, _, _, _, _, _, _, _, _, rfl, by omega, ⟨hG.1, hG.2.1, hG.2.2.1, by have := hG.2.2.2; omega⟩, rfl⟩ ?_
      rintro m vs h0 ⟨k, tk, li, x5, x7, x8, x9, x10, x11, x12, x13, rfl, hk, hG, rfl⟩
      have b2 := at_bound l (3 + 3 * (i : Int)) (m := 30) (by omega)
      have b3 := at_bound l (2 + 3 * (i : Int) + (k : Int)) (m := 5) (by omega)
      try simp (maxSteps := 4000000) (disch := first | assumption | omega | (simp only [push_next, put_next, empty_next, List.length_cons, List.length_nil] <;> omega) | exact _root_.id rfl | exact _root_.id (fun _ => rfl) | fail) only [↓pre, post, Int.reduceEq, Int.reduceLT, Int.reduceLE, Int.reduceAdd, Int.reduceSub, Int.reduceMul, Int.reduceNeg, Nat.reduceLT, Nat.reduceSub, Nat.reduceMul, Nat.reduceAdd, Nat.reduceLeDiff, reduceIte, reduceCtorEq, Nat.reduceEqDiff, hat, Int.tdiv_eq_ediv_of_nonneg, Int.tmod_eq_emod_of_nonneg]
      repeat' (first
        | (refine ifP_pos (by first | assumption | omega) ?_ <;> try simp (maxSteps := 4000000) (disch := first | assumption | omega | (simp only [push_next, put_next, empty_next, List.length_cons, List.length_nil] <;> omega) | exact _root_.id rfl | exact _root_.id (fun _ => rfl) | fail) only [↓pre, post, Int.reduceEq, Int.reduceLT, Int.reduceLE, Int.reduceAdd, Int.reduceSub, Int.reduceMul, Int.reduceNeg, Nat.reduceLT, Nat.reduceSub, Nat.reduceMul, Nat.reduceAdd, Nat.reduceLeDiff, reduceIte, reduceCtorEq, Nat.reduceEqDiff, hat, Int.tdiv_eq_ediv_of_nonneg, Int.tmod_eq_emod_of_nonneg])
        | (refine ifP_neg (by first | assumption | omega) ?_ <;> try simp (maxSteps := 4000000) (disch := first | assumption | omega | (simp only [push_next, put_next, empty_next, List.length_cons, List.length_nil] <;> omega) | exact _root_.id rfl | exact _root_.id (fun _ => rfl) | fail) only [↓pre, post, Int.reduceEq, Int.reduceLT, Int.reduceLE, Int.reduceAdd, Int.reduceSub, Int.reduceMul, Int.reduceNeg, Nat.reduceLT, Nat.reduceSub, Nat.reduceMul, Nat.reduceAdd, Nat.reduceLeDiff, reduceIte, reduceCtorEq, Nat.reduceEqDiff, hat, Int.tdiv_eq_ediv_of_nonneg, Int.tmod_eq_emod_of_nonneg])
        | (refine ifP_intro (fun hyp => ?_) (fun hyp => ?_) <;> first | simp (maxSteps := 4000000) (disch := first | assumption | omega | (simp only [push_next, put_next, empty_next, List.length_cons, List.length_nil] <;> omega) | exact _root_.id rfl | exact _root_.id (fun _ => rfl) | fail) only [↓pre, post, Int.reduceEq, Int.reduceLT, Int.reduceLE, Int.reduceAdd, Int.reduceSub, Int.reduceMul, Int.reduceNeg, Nat.reduceLT, Nat.reduceSub, Nat.reduceMul, Nat.reduceAdd, Nat.reduceLeDiff, reduceIte, reduceCtorEq, Nat.reduceEqDiff, hat, Int.tdiv_eq_ediv_of_nonneg, Int.tmod_eq_emod_of_nonneg, eq_false hyp] | simp (maxSteps := 4000000) (disch := first | assumption | omega | (simp only [push_next, put_next, empty_next, List.length_cons, List.length_nil] <;> omega) | exact _root_.id rfl | exact _root_.id (fun _ => rfl) | fail) only [↓pre, post, Int.reduceEq, Int.reduceLT, Int.reduceLE, Int.reduceAdd, Int.reduceSub, Int.reduceMul, Int.reduceNeg, Nat.reduceLT, Nat.reduceSub, Nat.reduceMul, Nat.reduceAdd, Nat.reduceLeDiff, reduceIte, reduceCtorEq, Nat.reduceEqDiff, hat, Int.tdiv_eq_ediv_of_nonneg, Int.tmod_eq_emod_of_nonneg, eq_true hyp] | skip))
      all_goals first
        | (refine app1 ⟨2, [45], 1, atS l (3 + 3 * (i : Int)) 30⟩ hG (by unfold okItem; simp; omega) (by unfold plainI; simp; omega) (by omega) (fun h1 tk1 hG => ?_)
           try simp (maxSteps := 4000000) (disch := first | assumption | omega | (simp only [push_next, put_next, empty_next, List.length_cons, List.length_nil] <;> omega) | exact _root_.id rfl | exact _root_.id (fun _ => rfl) | fail) only [↓pre, post, Int.reduceEq, Int.reduceLT, Int.reduceLE, Int.reduceAdd, Int.reduceSub, Int.reduceMul, Int.reduceNeg, Nat.reduceLT, Nat.reduceSub, Nat.reduceMul, Nat.reduceAdd, Nat.reduceLeDiff, reduceIte, reduceCtorEq, Nat.reduceEqDiff, hat]
           repeat' (first
             | (refine ifP_pos (by first | assumption | omega) ?_ <;> try simp (maxSteps := 4000000) (disch := first | assumption | omega | (simp only [push_next, put_next, empty_next, List.length_cons, List.length_nil] <;> omega) | exact _root_.id rfl | exact _root_.id (fun _ => rfl) | fail) only [↓pre, post, Int.reduceEq, Int.reduceLT, Int.reduceLE, Int.reduceAdd, Int.reduceSub, Int.reduceMul, Int.reduceNeg, Nat.reduceLT, Nat.reduceSub, Nat.reduceMul, Nat.reduceAdd, Nat.reduceLeDiff, reduceIte, reduceCtorEq, Nat.reduceEqDiff, hat])
             | (refine ifP_neg (by first | assumption | omega) ?_ <;> try simp (maxSteps := 4000000) (disch := first | assumption | omega | (simp only [push_next, put_next, empty_next, List.length_cons, List.length_nil] <;> omega) | exact _root_.id rfl | exact _root_.id (fun _ => rfl) | fail) only [↓pre, post, Int.reduceEq, Int.reduceLT, Int.reduceLE, Int.reduceAdd, Int.reduceSub, Int.reduceMul, Int.reduceNeg, Nat.reduceLT, Nat.reduceSub, Nat.reduceMul, Nat.reduceAdd, Nat.reduceLeDiff, reduceIte, reduceCtorEq, Nat.reduceEqDiff, hat])
             | (refine ifP_intro (fun hyp => ?_) (fun hyp => ?_) <;> first | simp (maxSteps := 4000000) (disch := first | assumption | omega | (simp only [push_next, put_next, empty_next, List.length_cons, List.length_nil] <;> omega) | exact _root_.id rfl | exact _root_.id (fun _ => rfl) | fail) only [↓pre, post, Int.reduceEq, Int.reduceLT, Int.reduceLE, Int.reduceAdd, Int.reduceSub, Int.reduceMul, Int.reduceNeg, Nat.reduceLT, Nat.reduceSub, Nat.reduceMul, Nat.reduceAdd, Nat.reduceLeDiff, reduceIte, reduceCtorEq, Nat.reduceEqDiff, hat, eq_false hyp] | simp (maxSteps := 4000000) (disch := first | assumption | omega | (simp only [push_next, put_next, empty_next, List.length_cons, List.length_nil] <;> omega) | exact _root_.id rfl | exact _root_.id (fun _ => rfl) | fail) only [↓pre, post, Int.reduceEq, Int.reduceLT, Int.reduceLE, Int.reduceAdd, Int.reduceSub, Int.reduceMul, Int.reduceNeg, Nat.reduceLT, Nat.reduceSub, Nat.reduceMul, Nat.reduceAdd, Nat.reduceLeDiff, reduceIte, reduceCtorEq, Nat.reduceEqDiff, hat, eq_true hyp] | skip))
           refine app1 ⟨0, _, 1 + atS l (2 + 3 * (i : Int) + (k : Int)) 5, 0⟩ hG ?_ ?_ (by omega) (fun h1 tk1 hG => ?_)
           · unfold okItem; simp; omega
           · exact ⟨by simp; omega, fun _ => plain_cut, by simp, by simp only; omega, by simp⟩
           try simp (maxSteps := 4000000) (disch := first | assumption | omega | (simp only [push_next, put_next, empty_next, List.length_cons, List.length_nil] <;> omega) | exact _root_.id rfl | exact _root_.id (fun _ => rfl) | fail) only [↓pre, post, Int.reduceEq, Int.reduceLT, Int.reduceLE, Int.reduceAdd, Int.reduceSub, Int.reduceMul, Int.reduceNeg, Nat.reduceLT, Nat.reduceSub, Nat.reduceMul, Nat.reduceAdd, Nat.reduceLeDiff, reduceIte, reduceCtorEq, Nat.reduceEqDiff]
           repeat' (first
             | (refine ifP_pos (by first | assumption | omega) ?_ <;> try simp (maxSteps := 4000000) (disch := first | assumption | omega | (simp only [push_next, put_next, empty_next, List.length_cons, List.length_nil] <;> omega) | exact _root_.id rfl | exact _root_.id (fun _ => rfl) | fail) only [↓pre, post, Int.reduceEq, Int.reduceLT, Int.reduceLE, Int.reduceAdd, Int.reduceSub, Int.reduceMul, Int.reduceNeg, Nat.reduceLT, Nat.reduceSub, Nat.reduceMul, Nat.reduceAdd, Nat.reduceLeDiff, reduceIte, reduceCtorEq, Nat.reduceEqDiff])
             | (refine ifP_neg (by first | assumption | omega) ?_ <;> try simp (maxSteps := 4000000) (disch := first | assumption | omega | (simp only [push_next, put_next, empty_next, List.length_cons, List.length_nil] <;> omega) | exact _root_.id rfl | exact _root_.id (fun _ => rfl) | fail) only [↓pre, post, Int.reduceEq, Int.reduceLT, Int.reduceLE, Int.reduceAdd, Int.reduceSub, Int.reduceMul, Int.reduceNeg, Nat.reduceLT, Nat.reduceSub, Nat.reduceMul, Nat.reduceAdd, Nat.reduceLeDiff, reduceIte, reduceCtorEq, Nat.reduceEqDiff])
             | (refine ifP_intro (fun hyp => ?_) (fun hyp => ?_) <;> first | simp (maxSteps := 4000000) (disch := first | assumption | omega | (simp only [push_next, put_next, empty_next, List.length_cons, List.length_nil] <;> omega) | exact _root_.id rfl | exact _root_.id (fun _ => rfl) | fail) only [↓pre, post, Int.reduceEq, Int.reduceLT, Int.reduceLE, Int.reduceAdd, Int.reduceSub, Int.reduceMul, Int.reduceNeg, Nat.reduceLT, Nat.reduceSub, Nat.reduceMul, Nat.reduceAdd, Nat.reduceLeDiff, reduceIte, reduceCtorEq, Nat.reduceEqDiff, eq_false hyp] | simp (maxSteps := 4000000) (disch := first | assumption | omega | (simp only [push_next, put_next, empty_next, List.length_cons, List.length_nil] <;> omega) | exact _root_.id rfl | exact _root_.id (fun _ => rfl) | fail) only [↓pre, post, Int.reduceEq, Int.reduceLT, Int.reduceLE, Int.reduceAdd, Int.reduceSub, Int.reduceMul, Int.reduceNeg, Nat.reduceLT, Nat.reduceSub, Nat.reduceMul, Nat.reduceAdd, Nat.reduceLeDiff, reduceIte, reduceCtorEq, Nat.reduceEqDiff, eq_true hyp] | skip))
           exact lp_n ⟨4 - (k + 1), by omega, k + 1, _, _, _, _, _, _, _, _, _, _, rfl, by omega, ⟨hG.1, hG.2.1, hG.2.2.1, by have := hG.2.2.2; omega⟩, rfl⟩)
        | (refine app1 ⟨0, _, 1 + atS l (2 + 3 * (i : Int) + (k : Int)) 5, 0⟩ hG ?_ ?_ (by omega) (fun h1 tk1 hG => ?_)
           · unfold okItem; simp; omega
           · exact ⟨by simp; omega, fun _ => plain_cut, by simp, by simp only; omega, by simp⟩
           try simp (maxSteps := 4000000) (disch := first | assumption | omega | (simp only [push_next, put_next, empty_next, List.length_cons, List.length_nil] <;> omega) | exact _root_.id rfl | exact _root_.id (fun _ => rfl) | fail) only [↓pre, post, Int.reduceEq, Int.reduceLT, Int.reduceLE, Int.reduceAdd, Int.reduceSub, Int.reduceMul, Int.reduceNeg, Nat.reduceLT, Nat.reduceSub, Nat.reduceMul, Nat.reduceAdd, Nat.reduceLeDiff, reduceIte, reduceCtorEq, Nat.reduceEqDiff]
           repeat' (first
             | (refine ifP_pos (by first | assumption | omega) ?_ <;> try simp (maxSteps := 4000000) (disch := first | assumption | omega | (simp only [push_next, put_next, empty_next, List.length_cons, List.length_nil] <;> omega) | exact _root_.id rfl | exact _root_.id (fun _ => rfl) | fail) only [↓pre, post, Int.reduceEq, Int.reduceLT, Int.reduceLE, Int.reduceAdd, Int.reduceSub, Int.reduceMul, Int.reduceNeg, Nat.reduceLT, Nat.reduceSub, Nat.reduceMul, Nat.reduceAdd, Nat.reduceLeDiff, reduceIte, reduceCtorEq, Nat.reduceEqDiff])
             | (refine ifP_neg (by first | assumption | omega) ?_ <;> try simp (maxSteps := 4000000) (disch := first | assumption | omega | (simp only [push_next, put_next, empty_next, List.length_cons, List.length_nil] <;> omega) | exact _root_.id rfl | exact _root_.id (fun _ => rfl) | fail) only [↓pre, post, Int.reduceEq, Int.reduceLT, Int.reduceLE, Int.reduceAdd, Int.reduceSub, Int.reduceMul, Int.reduceNeg, Nat.reduceLT, Nat.reduceSub, Nat.reduceMul, Nat.reduceAdd, Nat.reduceLeDiff, reduceIte, reduceCtorEq, Nat.reduceEqDiff])
             | (refine ifP_intro (fun hyp => ?_) (fun hyp => ?_) <;> first | simp (maxSteps := 4000000) (disch := first | assumption | omega | (simp only [push_next, put_next, empty_next, List.length_cons, List.length_nil] <;> omega) | exact _root_.id rfl | exact _root_.id (fun _ => rfl) | fail) only [↓pre, post, Int.reduceEq, Int.reduceLT, Int.reduceLE, Int.reduceAdd, Int.reduceSub, Int.reduceMul, Int.reduceNeg, Nat.reduceLT, Nat.reduceSub, Nat.reduceMul, Nat.reduceAdd, Nat.reduceLeDiff, reduceIte, reduceCtorEq, Nat.reduceEqDiff, eq_false hyp] | simp (maxSteps := 4000000) (disch := first | assumption | omega | (simp only [push_next, put_next, empty_next, List.length_cons, List.length_nil] <;> omega) | exact _root_.id rfl | exact _root_.id (fun _ => rfl) | fail) only [↓pre, post, Int.reduceEq, Int.reduceLT, Int.reduceLE, Int.reduceAdd, Int.reduceSub, Int.reduceMul, Int.reduceNeg, Nat.reduceLT, Nat.reduceSub, Nat.reduceMul, Nat.reduceAdd, Nat.reduceLeDiff, reduceIte, reduceCtorEq, Nat.reduceEqDiff, eq_true hyp] | skip))
           exact lp_n ⟨4 - (k + 1), by omega, k + 1, _, _, _, _, _, _, _, _, _, _, rfl, by omega, ⟨hG.1, hG.2.1, hG.2.2.1, by have := hG.2.2.2; omega⟩, rfl⟩)
        | exact lp_n ⟨10 - (i + 1), by omega, i + 1, _, _, _, _, _, _, _, _, _, _, _, _, rfl, by omega, ⟨hG.1, hG.2.1, hG.2.2.1, by have := hG.2.2.2; omega⟩, rfl⟩
  · refine app1 ⟨3, [], 0, 0⟩ hG (by unfold okItem; simp) (by unfold plainI; simp) (by omega) (fun h1 tk1 hG => ?_)
    try simp (maxSteps := 4000000) (disch := first | assumption | omega | (simp only [push_next, put_next, empty_next, List.length_cons, List.length_nil] <;> omega) | exact _root_.id rfl | exact _root_.id (fun _ => rfl) | fail) only [↓pre, post, Int.reduceEq, Int.reduceLT, Int.reduceLE, Int.reduceAdd, Int.reduceSub, Int.reduceMul, Int.reduceNeg, Nat.reduceLT, Nat.reduceSub, Nat.reduceMul, Nat.reduceAdd, Nat.reduceLeDiff, reduceIte, reduceCtorEq, Nat.reduceEqDiff, hat]
    repeat' (first
      | (refine ifP_pos (by first | assumption | omega) ?_ <;> try simp (maxSteps := 4000000) (disch := first | assumption | omega | (simp only [push_next, put_next, empty_next, List.length_cons, List.length_nil] <;> omega) | exact _root_.id rfl | exact _root_.id (fun _ => rfl) | fail) only [↓pre, post, Int.reduceEq, Int.reduceLT, Int.reduceLE, Int.reduceAdd, Int.reduceSub, Int.reduceMul, Int.reduceNeg, Nat.reduceLT, Nat.reduceSub, Nat.reduceMul, Nat.reduceAdd, Nat.reduceLeDiff, reduceIte, reduceCtorEq, Nat.reduceEqDiff, hat])
      | (refine ifP_neg (by first | assumption | omega) ?_ <;> try simp (maxSteps := 4000000) (disch := first | assumption | omega | (simp only [push_next, put_next, empty_next, List.length_cons, List.length_nil] <;> omega) | exact _root_.id rfl | exact _root_.id (fun _ => rfl) | fail) only [↓pre, post, Int.reduceEq, Int.reduceLT, Int.reduceLE, Int.reduceAdd, Int.reduceSub, Int.reduceMul, Int.reduceNeg, Nat.reduceLT, Nat.reduceSub, Nat.reduceMul, Nat.reduceAdd, Nat.reduceLeDiff, reduceIte, reduceCtorEq, Nat.reduceEqDiff, hat])
      | (refine ifP_intro (fun hyp => ?_) (fun hyp => ?_) <;> first | simp (maxSteps := 4000000) (disch := first | assumption | omega | (simp only [push_next, put_next, empty_next, List.length_cons, List.length_nil] <;> omega) | exact _root_.id rfl | exact _root_.id (fun _ => rfl) | fail) only [↓pre, post, Int.reduceEq, Int.reduceLT, Int.reduceLE, Int.reduceAdd, Int.reduceSub, Int.reduceMul, Int.reduceNeg, Nat.reduceLT, Nat.reduceSub, Nat.reduceMul, Nat.reduceAdd, Nat.reduceLeDiff, reduceIte, reduceCtorEq, Nat.reduceEqDiff, hat, eq_false hyp] | simp (maxSteps := 4000000) (disch := first | assumption | omega | (simp only [push_next, put_next, empty_next, List.length_cons, List.length_nil] <;> omega) | exact _root_.id rfl | exact _root_.id (fun _ => rfl) | fail) only [↓pre, post, Int.reduceEq, Int.reduceLT, Int.reduceLE, Int.reduceAdd, Int.reduceSub, Int.reduceMul, Int.reduceNeg, Nat.reduceLT, Nat.reduceSub, Nat.reduceMul, Nat.reduceAdd, Nat.reduceLeDiff, reduceIte, reduceCtorEq, Nat.reduceEqDiff, hat, eq_true hyp] | skip))
    refine w_loop (fun m vs h0 => ∃ (k : Nat) (tk : Tok) (li : List Item) (x5 : AVal) (x7 x8 x9 x10 x11 x12 x13 : AVal), m = 4 - k ∧ k ≤ 3 ∧ GI h0 tk li (9 * i + 3 + 2 * k) ∧
      vs = [.sl (l.map (.int .i64)) t, .sl [] .nil, .sl (items li) tk, .int .i64 i, .int .i64 (atS l (1 + 3 * i) 64), x5, .int .i64 k, x7, x8, x9, x10, x11, x12, x13]) 4
      ⟨0, _, _, _, _, _, _, _, _, _, _, rfl, by omega, ⟨hG.1, hG.2.1, hG.2.2.1, by have := hG.2.2.2; omega⟩, rfl⟩ ?_
    rintro m vs h0 ⟨k, tk, li, x5, x7, x8, x9, x10, x11, x12, x13, rfl, hk, hG, rfl⟩
    have b2 := at_bound l (3 + 3 * (i : Int)) (m := 30) (by omega)
    have b3 := at_bound l (2 + 3 * (i : Int) + (k : Int)) (m := 5) (by omega)
    try simp (maxSteps := 4000000) (disch := first | assumption | omega | (simp only [push_next, put_next, empty_next, List.length_cons, List.length_nil] <;> omega) | exact _root_.id rfl | exact _root_.id (fun _ => rfl) | fail) only [↓pre, post, Int.reduceEq, Int.reduceLT, Int.reduceLE, Int.reduceAdd, Int.reduceSub, Int.reduceMul, Int.reduceNeg, Nat.reduceLT, Nat.reduceSub, Nat.reduceMul, Nat.reduceAdd, Nat.reduceLeDiff, reduceIte, reduceCtorEq, Nat.reduceEqDiff, hat, Int.tdiv_eq_ediv_of_nonneg, Int.tmod_eq_emod_of_nonneg]
    repeat' (first
      | (refine ifP_pos (by first | assumption | omega) ?_ <;> try simp (maxSteps := 4000000) (disch := first | assumption | omega | (simp only [push_next, put_next, empty_next, List.length_cons, List.length_nil] <;> omega) | exact _root_.id rfl | exact _root_.id (fun _ => rfl) | fail) only [↓pre, post, Int.reduceEq, Int.reduceLT, Int.reduceLE, Int.reduceAdd, Int.reduceSub, Int.reduceMul, Int.reduceNeg, Nat.reduceLT, Nat.reduceSub, Nat.reduceMul, Nat.reduceAdd, Nat.reduceLeDiff, reduceIte, reduceCtorEq, Nat.reduceEqDiff, hat, Int.tdiv_eq_ediv_of_nonneg, Int.tmod_eq_emod_of_nonneg])
      | (refine ifP_neg (by first | assumption | omega) ?_ <;> try simp (maxSteps := 4000000) (disch := first | assumption | omega | (simp only [push_next, put_next, empty_next, List.length_cons, List.length_nil] <;> omega) | exact _root_.id rfl | exact _root_.id (fun _ => rfl) | fail) only [↓pre, post, Int.reduceEq, Int.reduceLT, Int.reduceLE, Int.reduceAdd, Int.reduceSub, Int.reduceMul, Int.reduceNeg, Nat.reduceLT, Nat.reduceSub, Nat.reduceMul, Nat.reduceAdd, Nat.reduceLeDiff, reduceIte, reduceCtorEq, Nat.reduceEqDiff, hat, Int.tdiv_eq_ediv_of_nonneg, Int.tmod_eq_emod_of_nonneg])
      | (refine ifP_intro (fun hyp => ?_) (fun hyp => ?_) <;> first | simp (maxSteps := 4000000) (disch := first | assumption | omega | (simp only [push_next, put_next, empty_next, List.length_cons, List.length_nil] <;> omega) | exact _root_.id rfl | exact _root_.id (fun _ => rfl) | fail) only [↓pre, post, Int.reduceEq, Int.reduceLT, Int.reduceLE, Int.reduceAdd, Int.reduceSub, Int.reduceMul, Int.reduceNeg, Nat.reduceLT, Nat.reduceSub, Nat.reduceMul, Nat.reduceAdd, Nat.reduceLeDiff, reduceIte, reduceCtorEq, Nat.reduceEqDiff, hat, Int.tdiv_eq_ediv_of_nonneg, Int.tmod_eq_emod_of_nonneg, eq_false hyp] | simp (maxSteps := 4000000) (disch := first | assumption | omega | (simp only [push_next, put_next, empty_next, List.length_cons, List.length_nil] <;> omega) | exact _root_.id rfl | exact _root_.id (fun _ => rfl) | fail) only [↓pre, post, Int.reduceEq, Int.reduceLT, Int.reduceLE, Int.reduceAdd, Int.reduceSub, Int.reduceMul, Int.reduceNeg, Nat.reduceLT, Nat.reduceSub, Nat.reduceMul, Nat.reduceAdd, Nat.reduceLeDiff, reduceIte, reduceCtorEq, Nat.reduceEqDiff, hat, Int.tdiv_eq_ediv_of_nonneg, Int.tmod_eq_emod_of_nonneg, eq_true hyp] | skip))
    all_goals first
      | (refine app1 ⟨2, [45], 1, atS l (3 + 3 * (i : Int)) 30⟩ hG (by unfold okItem; simp; omega) (by unfold plainI; simp; omega) (by omega) (fun h1 tk1 hG => ?_)
         try simp (maxSteps := 4000000) (disch := first | assumption | omega | (simp only [push_next, put_next, empty_next, List.length_cons, List.length_nil] <;> omega) | exact _root_.id rfl | exact _root_.id (fun _ => rfl) | fail) only [↓pre, post, Int.reduceEq, Int.reduceLT, Int.reduceLE, Int.reduceAdd, Int.reduceSub, Int.reduceMul, Int.reduceNeg, Nat.reduceLT, Nat.reduceSub, Nat.reduceMul, Nat.reduceAdd, Nat.reduceLeDiff, reduceIte, reduceCtorEq, Nat.reduceEqDiff, hat]
         repeat' (first
           | (refine ifP_pos (by first | assumption | omega) ?_ <;> try simp (maxSteps := 4000000) (disch := first | assumption | omega | (simp only [push_next, put_next, empty_next, List.length_cons, List.length_nil] <;> omega) | exact _root_.id rfl | exact _root_.id (fun _ => rfl) | fail) only [↓pre, post, Int.reduceEq, Int.reduceLT, Int.reduceLE, Int.reduceAdd, Int.reduceSub, Int.reduceMul, Int.reduceNeg, Nat.reduceLT, Nat.reduceSub, Nat.reduceMul, Nat.reduceAdd, Nat.reduceLeDiff, reduceIte, reduceCtorEq, Nat.reduceEqDiff, hat])
           | (refine ifP_neg (by first | assumption | omega) ?_ <;> try simp (maxSteps := 4000000) (disch := first | assumption | omega | (simp only [push_next, put_next, empty_next, List.length_cons, List.length_nil] <;> omega) | exact _root_.id rfl | exact _root_.id (fun _ => rfl) | fail) only [↓pre, post, Int.reduceEq, Int.reduceLT, Int.reduceLE, Int.reduceAdd, Int.reduceSub, Int.reduceMul, Int.reduceNeg, Nat.reduceLT, Nat.reduceSub, Nat.reduceMul, Nat.reduceAdd, Nat.reduceLeDiff, reduceIte, reduceCtorEq, Nat.reduceEqDiff, hat])
           | (refine ifP_intro (fun hyp => ?_) (fun hyp => ?_) <;> first | simp (maxSteps := 4000000) (disch := first | assumption | omega | (simp only [push_next, put_next, empty_next, List.length_cons, List.length_nil] <;> omega) | exact _root_.id rfl | exact _root_.id (fun _ => rfl) | fail) only [↓pre, post, Int.reduceEq, Int.reduceLT, Int.reduceLE, Int.reduceAdd, Int.reduceSub, Int.reduceMul, Int.reduceNeg, Nat.reduceLT, Nat.reduceSub, Nat.reduceMul, Nat.reduceAdd, Nat.reduceLeDiff, reduceIte, reduceCtorEq, Nat.reduceEqDiff, hat, eq_false hyp] | simp (maxSteps := 4000000) (disch := first | assumption | omega | (simp only [push_next, put_next, empty_next, List.length_cons, List.length_nil] <;> omega) | exact _root_.id rfl | exact _root_.id (fun _ => rfl) | fail) only [↓pre, post, Int.reduceEq, Int.reduceLT, Int.reduceLE, Int.reduceAdd, Int.reduceSub, Int.reduceMul, Int.reduceNeg, Nat.reduceLT, Nat.reduceSub, Nat.reduceMul, Nat.reduceAdd, Nat.reduceLeDiff, reduceIte, reduceCtorEq, Nat.reduceEqDiff, hat, eq_true hyp] | skip))
         refine app1 ⟨0, _, 1 + atS l (2 + 3 * (i : Int) + (k : Int)) 5, 0⟩ hG ?_ ?_ (by omega) (fun h1 tk1 hG => ?_)
         · unfold okItem; simp; omega
         · exact ⟨by simp; omega, fun _ => plain_cut, by simp, by simp only; omega, by simp⟩
         try simp (maxSteps := 4000000) (disch := first | assumption | omega | (simp only [push_next, put_next, empty_next, List.length_cons, List.length_nil] <;> omega) | exact _root_.id rfl | exact _root_.id (fun _ => rfl) | fail) only [↓pre, post, Int.reduceEq, Int.reduceLT, Int.reduceLE, Int.reduceAdd, Int.reduceSub, Int.reduceMul, Int.reduceNeg, Nat.reduceLT, Nat.reduceSub, Nat.reduceMul, Nat.reduceAdd, Nat.reduceLeDiff, reduceIte, reduceCtorEq, Nat.reduceEqDiff]
         repeat' (first
           | (refine ifP_pos (by first | assumption | omega) ?_ <;> try simp (maxSteps := 4000000) (disch := first | assumption | omega | (simp only [push_next, put_next, empty_next, List.length_cons, List.length_nil] <;> omega) | exact _root_.id rfl | exact _root_.id (fun _ => rfl) | fail) only [↓pre, post, Int.reduceEq, Int.reduceLT, Int.reduceLE, Int.reduceAdd, Int.reduceSub, Int.reduceMul, Int.reduceNeg, Nat.reduceLT, Nat.reduceSub, Nat.reduceMul, Nat.reduceAdd, Nat.reduceLeDiff, reduceIte, reduceCtorEq, Nat.reduceEqDiff])
           | (refine ifP_neg (by first | assumption | omega) ?_ <;> try simp (maxSteps := 4000000) (disch := first | assumption | omega | (simp only [push_next, put_next, empty_next, List.length_cons, List.length_nil] <;> omega) | exact _root_.id rfl | exact _root_.id (fun _ => rfl) | fail) only [↓pre, post, Int.reduceEq, Int.reduceLT, Int.reduceLE, Int.reduceAdd, Int.reduceSub, Int.reduceMul, Int.reduceNeg, Nat.reduceLT, Nat.reduceSub, Nat.reduceMul, Nat.reduceAdd, Nat.reduceLeDiff, reduceIte, reduceCtorEq, Nat.reduceEqDiff])
           | (refine ifP_intro (fun hyp => ?_) (fun hyp => ?_) <;> first | simp (maxSteps := 4000000) (disch := first | assumption | omega | (simp only [push_next, put_next, empty_next, List.length_cons, List.length_nil] <;> omega) | exact _root_.id rfl | exact _root_.id (fun _ => rfl) | fail) only [↓pre, post, Int.reduceEq, Int.reduceLT, Int.reduceLE, Int.reduceAdd, Int.reduceSub, Int.reduceMul, Int.reduceNeg, Nat.reduceLT, Nat.reduceSub, Nat.reduceMul, Nat.reduceAdd, Nat.reduceLeDiff, reduceIte, reduceCtorEq, Nat.reduceEqDiff, eq_false hyp] | simp (maxSteps := 4000000) (disch := first | assumption | omega | (simp only [push_next, put_next, empty_next, List.length_cons, List.length_nil] <;> omega) | exact _root_.id rfl | exact _root_.id (fun _ => rfl) | fail) only [↓pre, post, Int.reduceEq, Int.reduceLT, Int.reduceLE, Int.reduceAdd, Int.reduceSub, Int.reduceMul, Int.reduceNeg, Nat.reduceLT, Nat.reduceSub, Nat.reduceMul, Nat.reduceAdd, Nat.reduceLeDiff, reduceIte, reduceCtorEq, Nat.reduceEqDiff, eq_true hyp] | skip))
         exact lp_n ⟨4 - (k + 1), by omega, k + 1, _, _, _, _, _, _, _, _, _, _, rfl, by omega, ⟨hG.1, hG.2.1, hG.2.2.1, by have := hG.2.2.2; omega⟩, rfl⟩)
      | (refine app1 ⟨0, _, 1 + atS l (2 + 3 * (i : Int) + (k : Int)) 5, 0⟩ hG ?_ ?_ (by omega) (fun h1 tk1 hG => ?_)
         · unfold okItem; simp; omega
         · exact ⟨by simp; omega, fun _ => plain_cut, by simp, by simp only; omega, by simp⟩
         try simp (maxSteps := 4000000) (disch := first | assumption | omega | (simp only [push_next, put_next, empty_next, List.length_cons, List.length_nil] <;> omega) | exact _root_.id rfl | exact _root_.id (fun _ => rfl) | fail) only [↓pre, post, Int.reduceEq, Int.reduceLT, Int.reduceLE, Int.reduceAdd, Int.reduceSub, Int.reduceMul, Int.reduceNeg, Nat.reduceLT, Nat.reduceSub, Nat.reduceMul, Nat.reduceAdd, Nat.reduceLeDiff, reduceIte, reduceCtorEq, Nat.reduceEqDiff]
         repeat' (first
           | (refine ifP_pos (by first | assumption | omega) ?_ <;> try simp (maxSteps := 4000000) (disch := first | assumption | omega | (simp only [push_next, put_next, empty_next, List.length_cons, List.length_nil] <;> omega) | exact _root_.id rfl | exact _root_.id (fun _ => rfl) | fail) only [↓pre, post, Int.reduceEq, Int.reduceLT, Int.reduceLE, Int.reduceAdd, Int.reduceSub, Int.reduceMul, Int.reduceNeg, Nat.reduceLT, Nat.reduceSub, Nat.reduceMul, Nat.reduceAdd, Nat.reduceLeDiff, reduceIte, reduceCtorEq, Nat.reduceEqDiff])
           | (refine ifP_neg (by first | assumption | omega) ?_ <;> try simp (maxSteps := 4000000) (disch := first | assumption | omega | (simp only [push_next, put_next, empty_next, List.length_cons, List.length_nil] <;> omega) | exact _root_.id rfl | exact _root_.id (fun _ => rfl) | fail) only [↓pre, post, Int.reduceEq, Int.reduceLT, Int.reduceLE, Int.reduceAdd, Int.reduceSub, Int.reduceMul, Int.reduceNeg, Nat.reduceLT, Nat.reduceSub, Nat.reduceMul, Nat.reduceAdd, Nat.reduceLeDiff, reduceIte, reduceCtorEq, Nat.reduceEqDiff])
           | (refine ifP_intro (fun hyp => ?_) (fun hyp => ?_) <;> first | simp (maxSteps := 4000000) (disch := first | assumption | omega | (simp only [push_next, put_next, empty_next, List.length_cons, List.length_nil] <;> omega) | exact _root_.id rfl | exact _root_.id (fun _ => rfl) | fail) only [↓pre, post, Int.reduceEq, Int.reduceLT, Int.reduceLE, Int.reduceAdd, Int.reduceSub, Int.reduceMul, Int.reduceNeg, Nat.reduceLT, Nat.reduceSub, Nat.reduceMul, Nat.reduceAdd, Nat.reduceLeDiff, reduceIte, reduceCtorEq, Nat.reduceEqDiff, eq_false hyp] | simp (maxSteps := 4000000) (disch := first | assumption | omega | (simp only [push_next, put_next, empty_next, List.length_cons, List.length_nil] <;> omega) | exact _root_.id rfl | exact _root_.id (fun _ => rfl) | fail) only [↓pre, post, Int.reduceEq, Int.reduceLT, Int.reduceLE, Int.reduceAdd, Int.reduceSub, Int.reduceMul, Int.reduceNeg, Nat.reduceLT, Nat.reduceSub, Nat.reduceMul, Nat.reduceAdd, Nat.reduceLeDiff, reduceIte, reduceCtorEq, Nat.reduceEqDiff, eq_true hyp] | skip))
         exact lp_n ⟨4 - (k + 1), by omega, k + 1, _, _, _, _, _, _, _, _, _, _, rfl, by omega, ⟨hG.1, hG.2.1, hG.2.2.1, by have := hG.2.2.2; omega⟩, rfl⟩)
      | exact lp_n ⟨10 - (i + 1), by omega, i + 1, _, _, _, _, _, _, _, _, _, _, _, _, rfl, by omega, ⟨hG.1, hG.2.1, hG.2.2.1, by have := hG.2.2.2; omega⟩, rfl⟩
  · refine w_loop (fun m vs h0 => ∃ (k : Nat) (tk : Tok) (li : List Item) (x5 : AVal) (x7 x8 x9 x10 x11 x12 x13 : AVal), m = 4 - k ∧ k ≤ 3 ∧ GI h0 tk li (9 * i + 3 + 2 * k) ∧
      vs = [.sl (l.map (.int .i64)) t, .sl [] .nil, .sl (items li) tk, .int .i64 i, .int .i64 (atS l (1 + 3 * i) 64), x5, .int .i64 k, x7, x8, x9, x10, x11, x12, x13]) 4
      ⟨0, _, _, _, _, _, _, _, _, _, _, rfl, by omega, ⟨hG.1, hG.2.1, hG.2.2.1, by have := hG.2.2.2; omega⟩, rfl⟩ ?_
    rintro m vs h0 ⟨k, tk, li, x5, x7, x8, x9, x10, x11, x12, x13, rfl, hk, hG, rfl⟩
    have b2 := at_bound l (3 + 3 * (i : Int)) (m := 30) (by omega)
    have b3 := at_bound l (2 + 3 * (i : Int) + (k : Int)) (m := 5) (by omega)
    try simp (maxSteps := 4000000) (disch := first | assumption | omega | (simp only [push_next, put_next, empty_next, List.length_cons, List.length_nil] <;> omega) | exact _root_.id rfl | exact _root_.id (fun _ => rfl) | fail) only [↓pre, post, Int.reduceEq, Int.reduceLT, Int.reduceLE, Int.reduceAdd, Int.reduceSub, Int.reduceMul, Int.reduceNeg, Nat.reduceLT, Nat.reduceSub, Nat.reduceMul, Nat.reduceAdd, Nat.reduceLeDiff, reduceIte, reduceCtorEq, Nat.reduceEqDiff, hat, Int.tdiv_eq_ediv_of_nonneg, Int.tmod_eq_emod_of_nonneg]
    repeat' (first
      | (refine ifP_pos (by first | assumption | omega) ?_ <;> try simp (maxSteps := 4000000) (disch := first | assumption | omega | (simp only [push_next, put_next, empty_next, List.length_cons, List.length_nil] <;> omega) | exact _root_.id rfl | exact _root_.id (fun _ => rfl) | fail) only [↓pre, post, Int.reduceEq, Int.reduceLT, Int.reduceLE, Int.reduceAdd, Int.reduceSub, Int.reduceMul, Int.reduceNeg, Nat.reduceLT, Nat.reduceSub, Nat.reduceMul, Nat.reduceAdd, Nat.reduceLeDiff, reduceIte, reduceCtorEq, Nat.reduceEqDiff, hat, Int.tdiv_eq_ediv_of_nonneg, Int.tmod_eq_emod_of_nonneg])
      | (refine ifP_neg (by first | assumption | omega) ?_ <;> try simp (maxSteps := 4000000) (disch := first | assumption | omega | (simp only [push_next, put_next, empty_next, List.length_cons, List.length_nil] <;> omega) | exact _root_.id rfl | exact _root_.id (fun _ => rfl) | fail) only [↓pre, post, Int.reduceEq, Int.reduceLT, Int.reduceLE, Int.reduceAdd, Int.reduceSub, Int.reduceMul, Int.reduceNeg, Nat.reduceLT, Nat.reduceSub, Nat.reduceMul, Nat.reduceAdd, Nat.reduceLeDiff, reduceIte, reduceCtorEq, Nat.reduceEqDiff, hat, Int.tdiv_eq_ediv_of_nonneg, Int.tmod_eq_emod_of_nonneg])
      | (refine ifP_intro (fun hyp => ?_) (fun hyp => ?_) <;> first | simp (maxSteps := 4000000) (disch := first | assumption | omega | (simp only [push_next, put_next, empty_next, List.length_cons, List.length_nil] <;> omega) | exact _root_.id rfl | exact _root_.id (fun _ => rfl) | fail) only [↓pre, post, Int.reduceEq, Int.reduceLT, Int.reduceLE, Int.reduceAdd, Int.reduceSub, Int.reduceMul, Int.reduceNeg, Nat.reduceLT, Nat.reduceSub, Nat.reduceMul, Nat.reduceAdd, Nat.reduceLeDiff, reduceIte, reduceCtorEq, Nat.reduceEqDiff, hat, Int.tdiv_eq_ediv_of_nonneg, Int.tmod_eq_emod_of_nonneg, eq_false hyp] | simp (maxSteps := 4000000) (disch := first | assumption | omega | (simp only [push_next, put_next, empty_next, List.length_cons, List.length_nil] <;> omega) | exact _root_.id rfl | exact _root_.id (fun _ => rfl) | fail) only [↓pre, post, Int.reduceEq, Int.reduceLT, Int.reduceLE, Int.reduceAdd, Int.reduceSub, Int.reduceMul, Int.reduceNeg, Nat.reduceLT, Nat.reduceSub, Nat.reduceMul, Nat.reduceAdd, Nat.reduceLeDiff, reduceIte, reduceCtorEq, Nat.reduceEqDiff, hat, Int.tdiv_eq_ediv_of_nonneg, Int.tmod_eq_emod_of_nonneg, eq_true hyp] | skip))
    all_goals first
      | (refine app1 ⟨2, [45], 1, atS l (3 + 3 * (i : Int)) 30⟩ hG (by unfold okItem; simp; omega) (by unfold plainI; simp; omega) (by omega) (fun h1 tk1 hG => ?_)
         try simp (maxSteps := 4000000) (disch := first | assumption | omega | (simp only [push_next, put_next, empty_next, List.length_cons, List.length_nil] <;> omega) | exact _root_.id rfl | exact _root_.id (fun _ => rfl) | fail) only [↓pre, post, Int.reduceEq, Int.reduceLT, Int.reduceLE, Int.reduceAdd, Int.reduceSub, Int.reduceMul, Int.reduceNeg, Nat.reduceLT, Nat.reduceSub, Nat.reduceMul, Nat.reduceAdd, Nat.reduceLeDiff, reduceIte, reduceCtorEq, Nat.reduceEqDiff, hat]
         repeat' (first
           | (refine ifP_pos (by first | assumption | omega) ?_ <;> try simp (maxSteps := 4000000) (disch := first | assumption | omega | (simp only [push_next, put_next, empty_next, List.length_cons, List.length_nil] <;> omega) | exact _root_.id rfl | exact _root_.id (fun _ => rfl) | fail) only [↓pre, post, Int.reduceEq, Int.reduceLT, Int.reduceLE, Int.reduceAdd, Int.reduceSub, Int.reduceMul, Int.reduceNeg, Nat.reduceLT, Nat.reduceSub, Nat.reduceMul, Nat.reduceAdd, Nat.reduceLeDiff, reduceIte, reduceCtorEq, Nat.reduceEqDiff, hat])
           | (refine ifP_neg (by first | assumption | omega) ?_ <;> try simp (maxSteps := 4000000) (disch := first | assumption | omega | (simp only [push_next, put_next, empty_next, List.length_cons, List.length_nil] <;> omega) | exact _root_.id rfl | exact _root_.id (fun _ => rfl) | fail) only [↓pre, post, Int.reduceEq, Int.reduceLT, Int.reduceLE, Int.reduceAdd, Int.reduceSub, Int.reduceMul, Int.reduceNeg, Nat.reduceLT, Nat.reduceSub, Nat.reduceMul, Nat.reduceAdd, Nat.reduceLeDiff, reduceIte, reduceCtorEq, Nat.reduceEqDiff, hat])
           | (refine ifP_intro (fun hyp => ?_) (fun hyp => ?_) <;> first | simp (maxSteps := 4000000) (disch := first | assumption | omega | (simp only [push_next, put_next, empty_next, List.length_cons, List.length_nil] <;> omega) | exact _root_.id rfl | exact _root_.id (fun _ => rfl) | fail) only [↓pre, post, Int.reduceEq, Int.reduceLT, Int.reduceLE, Int.reduceAdd, Int.reduceSub, Int.reduceMul, Int.reduceNeg, Nat.reduceLT, Nat.reduceSub, Nat.reduceMul, Nat.reduceAdd, Nat.reduceLeDiff, reduceIte, reduceCtorEq, Nat.reduceEqDiff, hat, eq_false hyp] | simp (maxSteps := 4000000) (disch := first | assumption | omega | (simp only [push_next, put_next, empty_next, List.length_cons, List.length_nil] <;> omega) | exact _root_.id rfl | exact _root_.id (fun _ => rfl) | fail) only [↓pre, post, Int.reduceEq, Int.reduceLT, Int.reduceLE, Int.reduceAdd, Int.reduceSub, Int.reduceMul, Int.reduceNeg, Nat.reduceLT, Nat.reduceSub, Nat.reduceMul, Nat.reduceAdd, Nat.reduceLeDiff, reduceIte, reduceCtorEq, Nat.reduceEqDiff, hat, eq_true hyp] | skip))
         refine app1 ⟨0, _, 1 + atS l (2 + 3 * (i : Int) + (k : Int)) 5, 0⟩ hG ?_ ?_ (by omega) (fun h1 tk1 hG => ?_)
         · unfold okItem; simp; omega
         · exact ⟨by simp; omega, fun _ => plain_cut, by simp, by simp only; omega, by simp⟩
         try simp (maxSteps := 4000000) (disch := first | assumption | omega | (simp only [push_next, put_next, empty_next, List.length_cons, List.length_nil] <;> omega) | exact _root_.id rfl | exact _root_.id (fun _ => rfl) | fail) only [↓pre, post, Int.reduceEq, Int.reduceLT, Int.reduceLE, Int.reduceAdd, Int.reduceSub, Int.reduceMul, Int.reduceNeg, Nat.reduceLT, Nat.reduceSub, Nat.reduceMul, Nat.reduceAdd, Nat.reduceLeDiff, reduceIte, reduceCtorEq, Nat.reduceEqDiff]
         repeat' (first
           | (refine ifP_pos (by first | assumption | omega) ?_ <;> try simp (maxSteps := 4000000) (disch := first | assumption | omega | (simp only [push_next, put_next, empty_next, List.length_cons, List.length_nil] <;> omega) | exact _root_.id rfl | exact _root_.id (fun _ => rfl) | fail) only [↓pre, post, Int.reduceEq, Int.reduceLT, Int.reduceLE, Int.reduceAdd, Int.reduceSub, Int.reduceMul, Int.reduceNeg, Nat.reduceLT, Nat.reduceSub, Nat.reduceMul, Nat.reduceAdd, Nat.reduceLeDiff, reduceIte, reduceCtorEq, Nat.reduceEqDiff])
           | (refine ifP_neg (by first | assumption | omega) ?_ <;> try simp (maxSteps := 4000000) (disch := first | assumption | omega | (simp only [push_next, put_next, empty_next, List.length_cons, List.length_nil] <;> omega) | exact _root_.id rfl | exact _root_.id (fun _ => rfl) | fail) only [↓pre, post, Int.reduceEq, Int.reduceLT, Int.reduceLE, Int.reduceAdd, Int.reduceSub, Int.reduceMul, Int.reduceNeg, Nat.reduceLT, Nat.reduceSub, Nat.reduceMul, Nat.reduceAdd, Nat.reduceLeDiff, reduceIte, reduceCtorEq, Nat.reduceEqDiff])
           | (refine ifP_intro (fun hyp => ?_) (fun hyp => ?_) <;> first | simp (maxSteps := 4000000) (disch := first | assumption | omega | (simp only [push_next, put_next, empty_next, List.length_cons, List.length_nil] <;> omega) | exact _root_.id rfl | exact _root_.id (fun _ => rfl) | fail) only [↓pre, post, Int.reduceEq, Int.reduceLT, Int.reduceLE, Int.reduceAdd, Int.reduceSub, Int.reduceMul, Int.reduceNeg, Nat.reduceLT, Nat.reduceSub, Nat.reduceMul, Nat.reduceAdd, Nat.reduceLeDiff, reduceIte, reduceCtorEq, Nat.reduceEqDiff, eq_false hyp] | simp (maxSteps := 4000000) (disch := first | assumption | omega | (simp only [push_next, put_next, empty_next, List.length_cons, List.length_nil] <;> omega) | exact _root_.id rfl | exact _root_.id (fun _ => rfl) | fail) only [↓pre, post, Int.reduceEq, Int.reduceLT, Int.reduceLE, Int.reduceAdd, Int.reduceSub, Int.reduceMul, Int.reduceNeg, Nat.reduceLT, Nat.reduceSub, Nat.reduceMul, Nat.reduceAdd, Nat.reduceLeDiff, reduceIte, reduceCtorEq, Nat.reduceEqDiff, eq_true hyp] | skip))
         exact lp_n ⟨4 - (k + 1), by omega, k + 1, _, _, _, _, _, _, _, _, _, _, rfl, by omega, ⟨hG.1, hG.2.1, hG.2.2.1, by have := hG.2.2.2; omega⟩, rfl⟩)
      | (refine app1 ⟨0, _, 1 + atS l (2 + 3 * (i : Int) + (k : Int)) 5, 0⟩ hG ?_ ?_ (by omega) (fun h1 tk1 hG => ?_)
         · unfold okItem; simp; omega
         · exact ⟨by simp; omega, fun _ => plain_cut, by simp, by simp only; omega, by simp⟩
         try simp (maxSteps := 4000000) (disch := first | assumption | omega | (simp only [push_next, put_next, empty_next, List.length_cons, List.length_nil] <;> omega) | exact _root_.id rfl | exact _root_.id (fun _ => rfl) | fail) only [↓pre, post, Int.reduceEq, Int.reduceLT, Int.reduceLE, Int.reduceAdd, Int.reduceSub, Int.reduceMul, Int.reduceNeg, Nat.reduceLT, Nat.reduceSub, Nat.reduceMul, Nat.reduceAdd, Nat.reduceLeDiff, reduceIte, reduceCtorEq, Nat.reduceEqDiff]
         repeat' (first
           | (refine ifP_pos (by first | assumption | omega) ?_ <;> try simp (maxSteps := 4000000) (disch := first | assumption | omega | (simp only [push_next, put_next, empty_next, List.length_cons, List.length_nil] <;> omega) | exact _root_.id rfl | exact _root_.id (fun _ => rfl) | fail) only [↓pre, post, Int.reduceEq, Int.reduceLT, Int.reduceLE, Int.reduceAdd, Int.reduceSub, Int.reduceMul, Int.reduceNeg, Nat.reduceLT, Nat.reduceSub, Nat.reduceMul, Nat.reduceAdd, Nat.reduceLeDiff, reduceIte, reduceCtorEq, Nat.reduceEqDiff])
           | (refine ifP_neg (by first | assumption | omega) ?_ <;> try simp (maxSteps := 4000000) (disch := first | assumption | omega | (simp only [push_next, put_next, empty_next, List.length_cons, List.length_nil] <;> omega) | exact _root_.id rfl | exact _root_.id (fun _ => rfl) | fail) only [↓pre, post, Int.reduceEq, Int.reduceLT, Int.reduceLE, Int.reduceAdd, Int.reduceSub, Int.reduceMul, Int.reduceNeg, Nat.reduceLT, Nat.reduceSub, Nat.reduceMul, Nat.reduceAdd, Nat.reduceLeDiff, reduceIte, reduceCtorEq, Nat.reduceEqDiff])
           | (refine ifP_intro (fun hyp => ?_) (fun hyp => ?_) <;> first | simp (maxSteps := 4000000) (disch := first | assumption | omega | (simp only [push_next, put_next, empty_next, List.length_cons, List.length_nil] <;> omega) | exact _root_.id rfl | exact _root_.id (fun _ => rfl) | fail) only [↓pre, post, Int.reduceEq, Int.reduceLT, Int.reduceLE, Int.reduceAdd, Int.reduceSub, Int.reduceMul, Int.reduceNeg, Nat.reduceLT, Nat.reduceSub, Nat.reduceMul, Nat.reduceAdd, Nat.reduceLeDiff, reduceIte, reduceCtorEq, Nat.reduceEqDiff, eq_false hyp] | simp (maxSteps := 4000000) (disch := first | assumption | omega | (simp only [push_next, put_next, empty_next, List.length_cons, List.length_nil] <;> omega) | exact _root_.id rfl | exact _root_.id (fun _ => rfl) | fail) only [↓pre, post, Int.reduceEq, Int.reduceLT, Int.reduceLE, Int.reduceAdd, Int.reduceSub, Int.reduceMul, Int.reduceNeg, Nat.reduceLT, Nat.reduceSub, Nat.reduceMul, Nat.reduceAdd, Nat.reduceLeDiff, reduceIte, reduceCtorEq, Nat.reduceEqDiff, eq_true hyp] | skip))
         exact lp_n ⟨4 - (k + 1), by omega, k + 1, _, _, _, _, _, _, _, _, _, _, rfl, by omega, ⟨hG.1, hG.2.1, hG.2.2.1, by have := hG.2.2.2; omega⟩, rfl⟩)
      | exact lp_n ⟨10 - (i + 1), by omega, i + 1, _, _, _, _, _, _, _, _, _, _, _, _, rfl, by omega, ⟨hG.1, hG.2.1, hG.2.2.1, by have := hG.2.2.2; omega⟩, rfl⟩
  · refine app1 ⟨3, [], 0, 0⟩ hG (by unfold okItem; simp) (by unfold plainI; simp) (by omega) (fun h1 tk1 hG => ?_)
    try simp (maxSteps := 4000000) (disch := first | assumption | omega | (simp only [push_next, put_next, empty_next, List.length_cons, List.length_nil] <;> omega) | exact _root_.id rfl | exact _root_.id (fun _ => rfl) | fail) only [↓pre, post, Int.reduceEq, Int.reduceLT, Int.reduceLE, Int.reduceAdd, Int.reduceSub, Int.reduceMul, Int.reduceNeg, Nat.reduceLT, Nat.reduceSub, Nat.reduceMul, Nat.reduceAdd, Nat.reduceLeDiff, reduceIte, reduceCtorEq, Nat.reduceEqDiff]
    repeat' (first
      | (refine ifP_pos (by first | assumption | omega) ?_ <;> try simp (maxSteps := 4000000) (disch := first | assumption | omega | (simp only [push_next, put_next, empty_next, List.length_cons, List.length_nil] <;> omega) | exact _root_.id rfl | exact _root_.id (fun _ => rfl) | fail) only [↓pre, post, Int.reduceEq, Int.reduceLT, Int.reduceLE, Int.reduceAdd, Int.reduceSub, Int.reduceMul, Int.reduceNeg, Nat.reduceLT, Nat.reduceSub, Nat.reduceMul, Nat.reduceAdd, Nat.reduceLeDiff, reduceIte, reduceCtorEq, Nat.reduceEqDiff])
      | (refine ifP_neg (by first | assumption | omega) ?_ <;> try simp (maxSteps := 4000000) (disch := first | assumption | omega | (simp only [push_next, put_next, empty_next, List.length_cons, List.length_nil] <;> omega) | exact _root_.id rfl | exact _root_.id (fun _ => rfl) | fail) only [↓pre, post, Int.reduceEq, Int.reduceLT, Int.reduceLE, Int.reduceAdd, Int.reduceSub, Int.reduceMul, Int.reduceNeg, Nat.reduceLT, Nat.reduceSub, Nat.reduceMul, Nat.reduceAdd, Nat.reduceLeDiff, reduceIte, reduceCtorEq, Nat.reduceEqDiff])
      | (refine ifP_intro (fun hyp => ?_) (fun hyp => ?_) <;> first | simp (maxSteps := 4000000) (disch := first | assumption | omega | (simp only [push_next, put_next, empty_next, List.length_cons, List.length_nil] <;> omega) | exact _root_.id rfl | exact _root_.id (fun _ => rfl) | fail) only [↓pre, post, Int.reduceEq, Int.reduceLT, Int.reduceLE, Int.reduceAdd, Int.reduceSub, Int.reduceMul, Int.reduceNeg, Nat.reduceLT, Nat.reduceSub, Nat.reduceMul, Nat.reduceAdd, Nat.reduceLeDiff, reduceIte, reduceCtorEq, Nat.reduceEqDiff, eq_false hyp] | simp (maxSteps := 4000000) (disch := first | assumption | omega | (simp only [push_next, put_next, empty_next, List.length_cons, List.length_nil] <;> omega) | exact _root_.id rfl | exact _root_.id (fun _ => rfl) | fail) only [↓pre, post, Int.reduceEq, Int.reduceLT, Int.reduceLE, Int.reduceAdd, Int.reduceSub, Int.reduceMul, Int.reduceNeg, Nat.reduceLT, Nat.reduceSub, Nat.reduceMul, Nat.reduceAdd, Nat.reduceLeDiff, reduceIte, reduceCtorEq, Nat.reduceEqDiff, eq_true hyp] | skip))
    have h4 := hG.2.2.2
    have hne : (li ++ [(⟨3, [], 0, 0⟩ : Item)]) ≠ [] := by simp
    refine ⟨_, _, rfl, ⟨hG.1, fun e => hne (hG.2.1.1 e)⟩, ⟨by simp, by omega, ?_, fun j hj => (hG.2.2.1 _ (nth_mem hj)).1⟩, fun x hx => (hG.2.2.1 x hx).2, by omega⟩
    rw [nth_append_right (by simp)]; simp [nth]

theorem items_v {l : List Int} {t : Tok} (hl : ∀ x ∈ l, i64 x) (ht : Pt t) : ∃ li, PV F 10 [.sl (l.map (.int .i64)) t] = some (.sl (items li) .none) ∧ valid li ∧ short li ∧ li.length ≤ 100 := by
  obtain ⟨li, e, v, p, n⟩ := items_w hl ht
  refine ⟨li, e, v, fun j => ?_, n⟩
  by_cases hj : j < li.length
  · exact (p _ (nth_mem hj)).1
  · rw [nth, List.getD_eq_getElem?_getD, List.getElem?_eq_none (by omega)]; simp [default, instInhabitedItem.default]

end Go.Proofs.Ytcammfdljiingaa

/-
  Spoilt.
-/
set_option linter.unusedSimpArgs false
set_option linter.unusedVariables false
set_option maxHeartbeats 4000000
namespace Go.Abs
theorem append_arr_nil {α : Type} [Inhabited α] {f : α → AVal} {sz ty bytes : Nat} {ag : Bool} {h : Heap} {t : Tok} (l : List α) (hf : ∀ x, (f x).cells.length = sz) (hne : 1 ≤ l.length) (hlen : l.length ≤ 1000000) (hb : bytes ≤ 10000) (h0 : 0 < sz) (h1 : sz < 1000000) :
    appendA true ty bytes sz ag (.sl [] .nil) (.sl (l.map f) t) h = some (.ref h.next 0 l.length sz, h.push (.row true sz ag (flat (l.map f)))) := by
  have hel := elems_sl (h := h) (l := l) (t := t) hf
  have hroom := roomOk_of (n := 0 + l.length) (bytes := bytes) (by omega) hb
  have hz : ¬ l.length = 0 := by omega
  have hsm : small sz = true := by simp [small, h1]
  simp only [appendA, lenA_sl, hel, hz, if_false, List.length_nil, hroom, h0, hsm, decide_true, Bool.and_self, Bool.not_true, Bool.false_eq_true, if_true]

/-- One more element behind the row. -/
theorem append_arr_ref {α : Type} [Inhabited α] {f : α → AVal} {sz ty bytes : Nat} {ag ag' : Bool} {h : Heap} {id j n : Nat} {mu : Bool} {s2 : Nat} {a2 : Bool} (l : List α) (x : α) (hf : ∀ x, (f x).cells.length = sz) (hr : h.get id = some (.row true sz ag' (flat (l.map f)))) (hj : h.get j = some (.row mu s2 a2 (f x).cells))
    (hlen : l.length + 1 ≤ 1000000) (hb : bytes ≤ 10000) (h0 : 0 < sz) (h1 : sz < 1000000) (hn : n = l.length) :
    appendA true ty bytes sz ag (.ref id 0 n sz) (.ref j 0 1 sz) h = some (.ref h.next 0 (n + 1) sz, (h.put id none).push (.row true sz ag' (flat ((l ++ [x]).map f)))) := by
  subst hn
  have hroom := roomOk_of (n := l.length + 1) (bytes := bytes) hlen hb
  have hsm : small sz = true := by simp [small, h1]
  have hfl := flatm_len hf l
  have hx := hf x
  have e1 : elemsA h sz (.ref j 0 1 sz) = some (f x).cells := by
    simp only [elemsA, hj, if_true, Nat.zero_add, Nat.one_mul, hx, Nat.le_refl, List.drop_zero]
    rw [List.take_of_length_le (by omega)]
  have e2 : flat ((l ++ [x]).map f) = flat (l.map f) ++ (f x).cells := by rw [List.map_append, flat_appendF]; simp [flat]
  simp only [appendA, lenA, e1, hr, hfl, hroom, h0, hsm, e2, and_self, if_true]
  simp
end Go.Abs
namespace Go.Proofs.Ytcammfdljiingaa
open Go Go.Abs

theorem spoilt_v {li : List Item} {t : Tok} {a h b : Int} (ht : Pt t) (hs : short li) (h1 : 1 ≤ li.length) (h2 : li.length ≤ 100) (ha : i64 a) (hh : i64 h) (hb : i64 b) :
    ∃ lb, PV F 11 [.sl (items li) t, .int .i64 a, .int .i64 h, .int .i64 b] = some (.sl (items lb) .none) ∧ short lb ∧ lb.length < 1000 := by
  suffices hsf : CV F 11 [.sl (items li) t, .int .i64 a, .int .i64 h, .int .i64 b] Heap.empty (fun r h' => ∃ lb id n, r = .ref id 0 n 8 ∧ h'.get id = some (.row true 8 true (flat (items lb))) ∧ n ≤ lb.length ∧ short lb ∧ lb.length < 1000) by
    obtain ⟨r, h', c, lb, id, n, rfl, e1, e2, e3, e4⟩ := hsf
    refine ⟨lb.take n, PV_of c ?_, fun j => ?_, by simp; omega⟩
    · rw [pu_ref, readRef_flat (sz := 8) (f := Item.toA) (g := Item.toA) (fun _ => rfl) (fun _ => rfl) true (fun _ => rfl) (fun _ => rfl) lb e1 e2]; rfl
    · by_cases hj : j < n
      · rw [nth_take hj]; exact e3 j
      · rw [nth, List.getD_eq_getElem?_getD, List.getElem?_eq_none (by simp; omega)]; simp [default, instInhabitedItem.default]
  refine CV_wp (fn := c11) rfl ?_
  have A1 := append_arr_nil (f := Item.toA) (ty := 47) (bytes := 72) (ag := true) (h := Heap.empty) (t := t) li (sz := 8) (fun _ => rfl) h1 (by omega) (by omega) (by omega) (by omega)
  have B1 := around_bound a (m := li.length) (by omega)
  have B2 := around_bound h (m := 8) (by omega)
  have B3 := around_bound b (m := 6) (by omega)
  have B4 := around_bound b (m := 4) (by omega)
  have hfl := flatm_len (f := Item.toA) (sz := 8) (fun _ => rfl) li
  obtain ⟨p1, _, P1⟩ := ints_pick [-1, 0, 1, 65536, 65537, b] (aroundS b 6).toNat (by simp; omega)
  obtain ⟨p2, _, P2⟩ := ints_pick [-1, 0, 1, 1048576, 1048577, b] (aroundS b 6).toNat (by simp; omega)
  simp only [List.map_cons, List.map_nil] at P1 P2
  have fin : ∀ (k off : Nat) (c : AVal) (x' : Item), k < li.length → off < 8 → x'.toA.cells = (nth li k).toA.cells.set off c → x'.text.length ≤ 100 →
      ∃ lb, (flat (items li)).set (k * 8 + off) c = flat (items lb) ∧ short lb ∧ lb.length = li.length := fun k off c x' hk ho hx ht => by
    refine ⟨li.set k x', set_flat (f := Item.toA) (sz := 8) (fun _ => rfl) li x' hk ho hx, fun j => ?_, by simp⟩
    by_cases hj : k = j
    · subst hj; rw [nth_set_self hk]; exact ht
    · rw [nth_set_ne hj]; exact hs j
  have fin2 : ∀ (k off : Nat) (c : AVal) (x' : Item) (h' : Heap), k < li.length → off < 8 → x'.toA.cells = (nth li k).toA.cells.set off c → x'.text.length ≤ 100 → h'.get 0 = some (.row true 8 true ((flat (items li)).set (k * 8 + off) c)) →
      ∃ lb id n, AVal.ref 0 0 li.length 8 = .ref id 0 n 8 ∧ h'.get id = some (.row true 8 true (flat (items lb))) ∧ n ≤ lb.length ∧ short lb ∧ lb.length < 1000 := fun k off c x' h' hk ho hx ht hr => by
    obtain ⟨lb, e1, e2, e3⟩ := fin k off c x' hk ho hx ht
    exact ⟨lb, 0, li.length, rfl, by rw [hr, e1], by omega, e2, by omega⟩
  dsimp only [c11]
  try simp (maxSteps := 4000000) (disch := first | assumption | omega | (simp only [push_next, put_next, empty_next, List.length_cons, List.length_nil] <;> omega) | exact _root_.id rfl | exact _root_.id (fun _ => rfl) | fail) only [↓pre, post, Int.reduceEq, Int.reduceLT, Int.reduceLE, Int.reduceAdd, Int.reduceSub, Int.reduceMul, Int.reduceNeg, Nat.reduceLT, Nat.reduceSub, Nat.reduceMul, Nat.reduceAdd, Nat.reduceLeDiff, reduceIte, reduceCtorEq, Nat.reduceEqDiff, A1, around_v, hfl, P1, P2]
  repeat' (first
    | (refine ifP_pos (by first | assumption | omega) ?_ <;> try simp (maxSteps := 4000000) (disch := first | assumption | omega | (simp only [push_next, put_next, empty_next, List.length_cons, List.length_nil] <;> omega) | exact _root_.id rfl | exact _root_.id (fun _ => rfl) | fail) only [↓pre, post, Int.reduceEq, Int.reduceLT, Int.reduceLE, Int.reduceAdd, Int.reduceSub, Int.reduceMul, Int.reduceNeg, Nat.reduceLT, Nat.reduceSub, Nat.reduceMul, Nat.reduceAdd, Nat.reduceLeDiff, reduceIte, reduceCtorEq, Nat.reduceEqDiff, A1, around_v, hfl, P1, P2])
    | (refine ifP_neg (by first | assumption | omega) ?_ <;> try simp (maxSteps := 4000000) (disch := first | assumption | omega | (simp only [push_next, put_next, empty_next, List.length_cons, List.length_nil] <;> omega) | exact _root_.id rfl | exact _root_.id (fun _ => rfl) | fail) only [↓pre, post, Int.reduceEq, Int.reduceLT, Int.reduceLE, Int.reduceAdd, Int.reduceSub, Int.reduceMul, Int.reduceNeg, Nat.reduceLT, Nat.reduceSub, Nat.reduceMul, Nat.reduceAdd, Nat.reduceLeDiff, reduceIte, reduceCtorEq, Nat.reduceEqDiff, A1, around_v, hfl, P1, P2])
    | (refine ifP_intro (fun hyp => ?_) (fun hyp => ?_) <;> first | simp (maxSteps := 4000000) (disch := first | assumption | omega | (simp only [push_next, put_next, empty_next, List.length_cons, List.length_nil] <;> omega) | exact _root_.id rfl | exact _root_.id (fun _ => rfl) | fail) only [↓pre, post, Int.reduceEq, Int.reduceLT, Int.reduceLE, Int.reduceAdd, Int.reduceSub, Int.reduceMul, Int.reduceNeg, Nat.reduceLT, Nat.reduceSub, Nat.reduceMul, Nat.reduceAdd, Nat.reduceLeDiff, reduceIte, reduceCtorEq, Nat.reduceEqDiff, A1, around_v, hfl, P1, P2, eq_false hyp] | simp (maxSteps := 4000000) (disch := first | assumption | omega | (simp only [push_next, put_next, empty_next, List.length_cons, List.length_nil] <;> omega) | exact _root_.id rfl | exact _root_.id (fun _ => rfl) | fail) only [↓pre, post, Int.reduceEq, Int.reduceLT, Int.reduceLE, Int.reduceAdd, Int.reduceSub, Int.reduceMul, Int.reduceNeg, Nat.reduceLT, Nat.reduceSub, Nat.reduceMul, Nat.reduceAdd, Nat.reduceLeDiff, reduceIte, reduceCtorEq, Nat.reduceEqDiff, A1, around_v, hfl, P1, P2, eq_true hyp] | skip))
  · exact fin2 (aroundS a li.length).toNat 0 _ { nth li (aroundS a li.length).toNat with kind := aroundS b 6 - 1 } _ (by omega) (by omega) rfl (hs _) rfl
  · exact fin2 (aroundS a li.length).toNat 2 _ { nth li (aroundS a li.length).toNat with width := p1 } _ (by omega) (by omega) rfl (hs _) rfl
  · exact fin2 (aroundS a li.length).toNat 3 _ { nth li (aroundS a li.length).toNat with cost := p2 } _ (by omega) (by omega) rfl (hs _) rfl
  · exact ⟨li, 0, _, rfl, rfl, by omega, hs, by omega⟩
  · exact fin2 (aroundS a li.length).toNat 0 _ { nth li (aroundS a li.length).toNat with kind := 3 } _ (by omega) (by omega) rfl (hs _) rfl
  · refine w_loop (fun m vs h0 => ∃ (id : Nat) (lb : List Item) (x14 x15 : AVal), m = 600 - lb.length ∧ h0.get id = some (.row true 8 true (flat (items lb))) ∧ short lb ∧ lb.length ≤ 513 ∧
      vs = [.sl (items li) t, .int .i64 a, .int .i64 h, .int .i64 b, .sl [] .nil, .ref id 0 lb.length 8, .int .i64 (aroundS a li.length), .int .i64 (aroundS h 8), .bool false, .bool false, .bool false, .bool false, .bool false, .bool true, x14, x15]) (600 - li.length)
      ⟨0, li, _, _, rfl, rfl, hs, by omega, rfl⟩ ?_
    rintro m vs h0 ⟨id, lb, x14, x15, rfl, hr, hsb, hlb, rfl⟩
    have hlt := get_lt hr
    have hr2 := get_push_old (o := .row true 8 true (Item.toA ⟨3, [], 0, 0⟩).cells) hr
    have A2 := append_arr_ref (f := Item.toA) (sz := 8) (ty := 47) (bytes := 72) (ag := true) (n := lb.length) lb ⟨3, [], 0, 0⟩ (fun _ => rfl) hr2 (get_push h0 _) (by omega) (by omega) (by omega) (by omega) rfl
    simp only [Item.toA, AVal.cells, push_next] at A2
    try simp (maxSteps := 4000000) (disch := first | assumption | omega | (simp only [push_next, put_next, empty_next, List.length_cons, List.length_nil] <;> omega) | exact _root_.id rfl | exact _root_.id (fun _ => rfl) | fail) only [↓pre, post, Int.reduceEq, Int.reduceLT, Int.reduceLE, Int.reduceAdd, Int.reduceSub, Int.reduceMul, Int.reduceNeg, Nat.reduceLT, Nat.reduceSub, Nat.reduceMul, Nat.reduceAdd, Nat.reduceLeDiff, reduceIte, reduceCtorEq, Nat.reduceEqDiff, around_v, A2]
    repeat' (first
      | (refine ifP_pos (by first | assumption | omega) ?_ <;> try simp (maxSteps := 4000000) (disch := first | assumption | omega | (simp only [push_next, put_next, empty_next, List.length_cons, List.length_nil] <;> omega) | exact _root_.id rfl | exact _root_.id (fun _ => rfl) | fail) only [↓pre, post, Int.reduceEq, Int.reduceLT, Int.reduceLE, Int.reduceAdd, Int.reduceSub, Int.reduceMul, Int.reduceNeg, Nat.reduceLT, Nat.reduceSub, Nat.reduceMul, Nat.reduceAdd, Nat.reduceLeDiff, reduceIte, reduceCtorEq, Nat.reduceEqDiff, around_v, A2])
      | (refine ifP_neg (by first | assumption | omega) ?_ <;> try simp (maxSteps := 4000000) (disch := first | assumption | omega | (simp only [push_next, put_next, empty_next, List.length_cons, List.length_nil] <;> omega) | exact _root_.id rfl | exact _root_.id (fun _ => rfl) | fail) only [↓pre, post, Int.reduceEq, Int.reduceLT, Int.reduceLE, Int.reduceAdd, Int.reduceSub, Int.reduceMul, Int.reduceNeg, Nat.reduceLT, Nat.reduceSub, Nat.reduceMul, Nat.reduceAdd, Nat.reduceLeDiff, reduceIte, reduceCtorEq, Nat.reduceEqDiff, around_v, A2])
      | (refine ifP_intro (fun hyp => ?_) (fun hyp => ?_) <;> first | simp (maxSteps := 4000000) (disch := first | assumption | omega | (simp only [push_next, put_next, empty_next, List.length_cons, List.length_nil] <;> omega) | exact _root_.id rfl | exact _root_.id (fun _ => rfl) | fail) only [↓pre, post, Int.reduceEq, Int.reduceLT, Int.reduceLE, Int.reduceAdd, Int.reduceSub, Int.reduceMul, Int.reduceNeg, Nat.reduceLT, Nat.reduceSub, Nat.reduceMul, Nat.reduceAdd, Nat.reduceLeDiff, reduceIte, reduceCtorEq, Nat.reduceEqDiff, around_v, A2, eq_false hyp] | simp (maxSteps := 4000000) (disch := first | assumption | omega | (simp only [push_next, put_next, empty_next, List.length_cons, List.length_nil] <;> omega) | exact _root_.id rfl | exact _root_.id (fun _ => rfl) | fail) only [↓pre, post, Int.reduceEq, Int.reduceLT, Int.reduceLE, Int.reduceAdd, Int.reduceSub, Int.reduceMul, Int.reduceNeg, Nat.reduceLT, Nat.reduceSub, Nat.reduceMul, Nat.reduceAdd, Nat.reduceLeDiff, reduceIte, reduceCtorEq, Nat.reduceEqDiff, around_v, A2, eq_true hyp] | skip))
    · refine lp_n ⟨600 - (lb.length + 1), by omega, h0.next + 1, lb ++ [⟨3, [], 0, 0⟩], _, _, by simp, get_push_eq (by rw [push_next, put_next]), fun j => ?_, by simp; omega, by rw [List.length_append]; rfl⟩
      by_cases hj : j < lb.length
      · rw [nth_append_left hj]; exact hsb j
      · rw [nth_append_right (by omega)]
        cases j - lb.length with
        | zero => simp [nth]
        | succ n => simp [nth, default, instInhabitedItem.default]
    · exact ⟨lb, id, lb.length, rfl, hr, by omega, hsb, by omega⟩
  · exact fin2 (li.length - 1) 0 _ { nth li (li.length - 1) with kind := 1 } _ (by omega) (by omega) rfl (hs _) rfl
  · exact fin2 (aroundS a li.length).toNat 1 _ { nth li (aroundS a li.length).toNat with text := [120, 121, 122] } _ (by omega) (by omega) rfl (by simp) rfl

end Go.Proofs.Ytcammfdljiingaa

/-
  The documented example, reckoned by the kernel on the abstract machine.
-/
namespace Go.Proofs.Ytcammfdljiingaa
open Go Go.Abs

def isTrue : Option Res → Bool
  | some (.val (.bool true) _) => true
  | _ => false

theorem isTrue_some {r : Option Res} (h : isTrue r = true) : ∃ h', r = some (.val (.bool true) h') := by
  unfold isTrue at h
  split at h
  · exact ⟨_, rfl⟩
  · simp at h

theorem lives_run : isTrue (run F 400 (.call 19 [] Heap.empty)) = true := by kernel_rfl

end Go.Proofs.Ytcammfdljiingaa

/-
  The law of texts, on the abstract machine.
-/
set_option linter.unusedSimpArgs false
set_option linter.unusedVariables false
set_option maxHeartbeats 4000000
namespace Go.Proofs.Ytcammfdljiingaa
open Go Go.Abs

theorem lives_v : PV F 19 [] = some (.bool true) := by
  obtain ⟨h', e⟩ := isTrue_some lives_run
  exact PV_of (gives_mk e) rfl

structure Ln where
  a : Int
  b : Int
  n : Int
  deriving Inhabited, DecidableEq
def Ln.toA (x : Ln) : AVal := .agg [.int .i64 x.a, .int .i64 x.b, .int .i64 x.n]

theorem texts_run {l : List Int} {tk : Tok} {a b c d e : Int} (htk : Pt tk) (hl : ∀ x ∈ l, i64 x) (ha : i64 a) (hb : i64 b) (hc : i64 c) (hd : i64 d) (he : i64 e) :
    ∃ h', Gives F 5 [.sl (l.map (.int .i64)) tk, .int .i64 a, .int .i64 b, .int .i64 c, .int .i64 d, .int .i64 e] Heap.empty (.bool true) h' := by
  suffices hs : CV F 5 [.sl (l.map (.int .i64)) tk, .int .i64 a, .int .i64 b, .int .i64 c, .int .i64 d, .int .i64 e] Heap.empty (fun r _ => r = .bool true) by
    obtain ⟨r, h', g, rfl⟩ := hs; exact ⟨h', g⟩
  obtain ⟨li, e1, v1, s1, n1⟩ := items_v (t := tk) hl htk
  obtain ⟨lb, e2, s2, n2⟩ := spoilt_v (t := .none) (a := a) (h := b) (b := c) (.inl rfl) s1 v1.1 n1 ha hb hc
  have B1 := around_bound d (m := (lb.length : Int) + 1) (by omega)
  have B2 := around_bound e (m := (lb.length : Int) + 2) (by omega)
  refine CV_wp (fn := c5) rfl ?_
  dsimp only [c5]
  try simp (maxSteps := 4000000) (disch := first | assumption | omega | (simp only [push_next, put_next, empty_next, List.length_cons, List.length_nil] <;> omega) | exact _root_.id rfl | exact _root_.id (fun _ => rfl) | fail) only [↓pre, post, Int.reduceEq, Int.reduceLT, Int.reduceLE, Int.reduceAdd, Int.reduceSub, Int.reduceMul, Int.reduceNeg, Nat.reduceLT, Nat.reduceSub, Nat.reduceMul, Nat.reduceAdd, Nat.reduceLeDiff, reduceIte, reduceCtorEq, Nat.reduceEqDiff, e1, e2, around_v]
  repeat' (first
    | (refine ifP_pos (by first | assumption | omega) ?_ <;> try simp (maxSteps := 4000000) (disch := first | assumption | omega | (simp only [push_next, put_next, empty_next, List.length_cons, List.length_nil] <;> omega) | exact _root_.id rfl | exact _root_.id (fun _ => rfl) | fail) only [↓pre, post, Int.reduceEq, Int.reduceLT, Int.reduceLE, Int.reduceAdd, Int.reduceSub, Int.reduceMul, Int.reduceNeg, Nat.reduceLT, Nat.reduceSub, Nat.reduceMul, Nat.reduceAdd, Nat.reduceLeDiff, reduceIte, reduceCtorEq, Nat.reduceEqDiff, e1, e2, around_v])
    | (refine ifP_neg (by first | assumption | omega) ?_ <;> try simp (maxSteps := 4000000) (disch := first | assumption | omega | (simp only [push_next, put_next, empty_next, List.length_cons, List.length_nil] <;> omega) | exact _root_.id rfl | exact _root_.id (fun _ => rfl) | fail) only [↓pre, post, Int.reduceEq, Int.reduceLT, Int.reduceLE, Int.reduceAdd, Int.reduceSub, Int.reduceMul, Int.reduceNeg, Nat.reduceLT, Nat.reduceSub, Nat.reduceMul, Nat.reduceAdd, Nat.reduceLeDiff, reduceIte, reduceCtorEq, Nat.reduceEqDiff, e1, e2, around_v])
    | (refine ifP_intro (fun hyp => ?_) (fun hyp => ?_) <;> first | simp (maxSteps := 4000000) (disch := first | assumption | omega | (simp only [push_next, put_next, empty_next, List.length_cons, List.length_nil] <;> omega) | exact _root_.id rfl | exact _root_.id (fun _ => rfl) | fail) only [↓pre, post, Int.reduceEq, Int.reduceLT, Int.reduceLE, Int.reduceAdd, Int.reduceSub, Int.reduceMul, Int.reduceNeg, Nat.reduceLT, Nat.reduceSub, Nat.reduceMul, Nat.reduceAdd, Nat.reduceLeDiff, reduceIte, reduceCtorEq, Nat.reduceEqDiff, e1, e2, around_v, eq_false hyp] | simp (maxSteps := 4000000) (disch := first | assumption | omega | (simp only [push_next, put_next, empty_next, List.length_cons, List.length_nil] <;> omega) | exact _root_.id rfl | exact _root_.id (fun _ => rfl) | fail) only [↓pre, post, Int.reduceEq, Int.reduceLT, Int.reduceLE, Int.reduceAdd, Int.reduceSub, Int.reduceMul, Int.reduceNeg, Nat.reduceLT, Nat.reduceSub, Nat.reduceMul, Nat.reduceAdd, Nat.reduceLeDiff, reduceIte, reduceCtorEq, Nat.reduceEqDiff, e1, e2, around_v, eq_true hyp] | skip))
  refine w_loop (fun m vs h0 => ∃ (i : Nat) (x10 x11 : AVal), m = 5 - i ∧ i ≤ 5 ∧
    vs = [.sl (l.map (.int .i64)) tk, .int .i64 a, .int .i64 b, .int .i64 c, .int .i64 d, .int .i64 e, .bool false, .sl (items lb) .none,
      .sl ([⟨aroundS d (lb.length + 1), aroundS e (lb.length + 2), 0⟩, ⟨0, lb.length, 0⟩, ⟨d, e, 0⟩, ⟨-1, 1, 0⟩, ⟨0, 0, 0⟩].map Ln.toA) .none, .int .i64 i, x10, x11]) 5
    ⟨0, _, _, rfl, by omega, rfl⟩ ?_
  rintro m vs h0 ⟨i, x10, x11, rfl, hi, rfl⟩
  generalize hL : ([⟨aroundS d (lb.length + 1), aroundS e (lb.length + 2), 0⟩, ⟨0, lb.length, 0⟩, ⟨d, e, 0⟩, ⟨-1, 1, 0⟩, ⟨0, 0, 0⟩] : List Ln) = L
  have hlen : L.length = 5 := by rw [← hL]; rfl
  have hi64 : i < L.length → i64 (nth L i).b := fun hlt => by
    have hall : ∀ x ∈ L, i64 x.b := by
      intro x hx
      unfold i64 at *
      rw [← hL] at hx
      simp only [List.mem_cons, List.not_mem_nil, or_false] at hx
      rcases hx with rfl | rfl | rfl | rfl | rfl <;> simp <;> omega
    exact hall _ (nth_mem hlt)
  have T1 : i < L.length → PV F 24 [.sl (items lb) .none, .agg [.int .i64 (nth L i).a, .int .i64 (nth L i).b, .int .i64 (nth L i).n]] = some (.str (textS lb (nth L i).a (nth L i).b)) := fun h => refText_v s2 n2 (hi64 h)
  have T2 : i < L.length → PV F 23 [.sl (items lb) .none, .agg [.int .i64 (nth L i).a, .int .i64 (nth L i).b, .int .i64 (nth L i).n]] = some (.str (textS lb (nth L i).a (nth L i).b)) := fun h => text_v s2 n2 (hi64 h)
  try simp (maxSteps := 4000000) (disch := first | assumption | omega | (simp only [push_next, put_next, empty_next, List.length_cons, List.length_nil] <;> omega) | exact _root_.id rfl | exact _root_.id (fun _ => rfl) | fail) only [↓pre, post, Int.reduceEq, Int.reduceLT, Int.reduceLE, Int.reduceAdd, Int.reduceSub, Int.reduceMul, Int.reduceNeg, Nat.reduceLT, Nat.reduceSub, Nat.reduceMul, Nat.reduceAdd, Nat.reduceLeDiff, reduceIte, reduceCtorEq, Nat.reduceEqDiff, Ln.toA, hlen, T1, T2, lives_v]
  repeat' (first
    | (refine ifP_pos (by first | assumption | omega) ?_ <;> try simp (maxSteps := 4000000) (disch := first | assumption | omega | (simp only [push_next, put_next, empty_next, List.length_cons, List.length_nil] <;> omega) | exact _root_.id rfl | exact _root_.id (fun _ => rfl) | fail) only [↓pre, post, Int.reduceEq, Int.reduceLT, Int.reduceLE, Int.reduceAdd, Int.reduceSub, Int.reduceMul, Int.reduceNeg, Nat.reduceLT, Nat.reduceSub, Nat.reduceMul, Nat.reduceAdd, Nat.reduceLeDiff, reduceIte, reduceCtorEq, Nat.reduceEqDiff, Ln.toA, hlen, T1, T2, lives_v])
    | (refine ifP_neg (by first | assumption | omega) ?_ <;> try simp (maxSteps := 4000000) (disch := first | assumption | omega | (simp only [push_next, put_next, empty_next, List.length_cons, List.length_nil] <;> omega) | exact _root_.id rfl | exact _root_.id (fun _ => rfl) | fail) only [↓pre, post, Int.reduceEq, Int.reduceLT, Int.reduceLE, Int.reduceAdd, Int.reduceSub, Int.reduceMul, Int.reduceNeg, Nat.reduceLT, Nat.reduceSub, Nat.reduceMul, Nat.reduceAdd, Nat.reduceLeDiff, reduceIte, reduceCtorEq, Nat.reduceEqDiff, Ln.toA, hlen, T1, T2, lives_v])
    | (refine ifP_intro (fun hyp => ?_) (fun hyp => ?_) <;> first | simp (maxSteps := 4000000) (disch := first | assumption | omega | (simp only [push_next, put_next, empty_next, List.length_cons, List.length_nil] <;> omega) | exact _root_.id rfl | exact _root_.id (fun _ => rfl) | fail) only [↓pre, post, Int.reduceEq, Int.reduceLT, Int.reduceLE, Int.reduceAdd, Int.reduceSub, Int.reduceMul, Int.reduceNeg, Nat.reduceLT, Nat.reduceSub, Nat.reduceMul, Nat.reduceAdd, Nat.reduceLeDiff, reduceIte, reduceCtorEq, Nat.reduceEqDiff, Ln.toA, hlen, T1, T2, lives_v, eq_false hyp] | simp (maxSteps := 4000000) (disch := first | assumption | omega | (simp only [push_next, put_next, empty_next, List.length_cons, List.length_nil] <;> omega) | exact _root_.id rfl | exact _root_.id (fun _ => rfl) | fail) only [↓pre, post, Int.reduceEq, Int.reduceLT, Int.reduceLE, Int.reduceAdd, Int.reduceSub, Int.reduceMul, Int.reduceNeg, Nat.reduceLT, Nat.reduceSub, Nat.reduceMul, Nat.reduceAdd, Nat.reduceLeDiff, reduceIte, reduceCtorEq, Nat.reduceEqDiff, Ln.toA, hlen, T1, T2, lives_v, eq_true hyp] | skip))
  exact lp_n ⟨5 - (i + 1), by omega, i + 1, _, _, rfl, by omega, rfl⟩

end Go.Proofs.Ytcammfdljiingaa

/-
  Comparisons of lists; the letters of a text.
-/
set_option linter.unusedSimpArgs false
set_option linter.unusedVariables false
set_option maxHeartbeats 8000000
namespace Go.Proofs.Ytcammfdljiingaa
open Go Go.Abs

theorem ext_nth {α : Type} [Inhabited α] {l m : List α} (hl : l.length = m.length) (h : ∀ i, i < l.length → nth l i = nth m i) : l = m := by
  apply List.ext_getElem hl
  intro i h1 h2
  have := h i h1
  rwa [nth_eq h1, nth_eq h2] at this

theorem cellsEq3 (a b c x y z : Int) : cellsEq [.int, .int, .int] [.int .i64 a, .int .i64 b, .int .i64 c] [.int .i64 x, .int .i64 y, .int .i64 z] = some (decide (a = x ∧ b = y ∧ c = z)) := by
  by_cases h1 : a = x
  · subst h1
    by_cases h2 : b = y
    · subst h2
      by_cases h3 : c = z
      · subst h3; simp [cellsEq, cellEq]
      · have : (c == z) = false := by simpa using h3
        simp [cellsEq, cellEq, h3, this]
    · have : (b == y) = false := by simpa using h2
      simp [cellsEq, cellEq, h2, this]
  · have : (a == x) = false := by simpa using h1
    simp [cellsEq, cellEq, h1, this]

theorem sameInts_v {la lb : List Int} {ta tb : Tok} (h1 : la.length < 1000000) : PV F 16 [.sl (la.map (.int .i64)) ta, .sl (lb.map (.int .i64)) tb] = some (.bool (decide (la = lb))) := by
  refine PV_wp (fn := c16) rfl ?_
  dsimp only [c16]
  try simp (maxSteps := 4000000) (disch := first | assumption | omega | (simp only [push_next, put_next, empty_next, List.length_cons, List.length_nil] <;> omega) | exact _root_.id rfl | exact _root_.id (fun _ => rfl) | fail) only [↓pre, post, Int.reduceEq, Int.reduceLT, Int.reduceLE, Int.reduceAdd, Int.reduceSub, Int.reduceMul, Int.reduceNeg, Nat.reduceLT, Nat.reduceSub, Nat.reduceMul, Nat.reduceAdd, Nat.reduceLeDiff, reduceIte, reduceCtorEq, Nat.reduceEqDiff]
  repeat' (first
    | (refine ifP_pos (by first | assumption | omega) ?_ <;> try simp (maxSteps := 4000000) (disch := first | assumption | omega | (simp only [push_next, put_next, empty_next, List.length_cons, List.length_nil] <;> omega) | exact _root_.id rfl | exact _root_.id (fun _ => rfl) | fail) only [↓pre, post, Int.reduceEq, Int.reduceLT, Int.reduceLE, Int.reduceAdd, Int.reduceSub, Int.reduceMul, Int.reduceNeg, Nat.reduceLT, Nat.reduceSub, Nat.reduceMul, Nat.reduceAdd, Nat.reduceLeDiff, reduceIte, reduceCtorEq, Nat.reduceEqDiff])
    | (refine ifP_neg (by first | assumption | omega) ?_ <;> try simp (maxSteps := 4000000) (disch := first | assumption | omega | (simp only [push_next, put_next, empty_next, List.length_cons, List.length_nil] <;> omega) | exact _root_.id rfl | exact _root_.id (fun _ => rfl) | fail) only [↓pre, post, Int.reduceEq, Int.reduceLT, Int.reduceLE, Int.reduceAdd, Int.reduceSub, Int.reduceMul, Int.reduceNeg, Nat.reduceLT, Nat.reduceSub, Nat.reduceMul, Nat.reduceAdd, Nat.reduceLeDiff, reduceIte, reduceCtorEq, Nat.reduceEqDiff])
    | (refine ifP_intro (fun hyp => ?_) (fun hyp => ?_) <;> first | simp (maxSteps := 4000000) (disch := first | assumption | omega | (simp only [push_next, put_next, empty_next, List.length_cons, List.length_nil] <;> omega) | exact _root_.id rfl | exact _root_.id (fun _ => rfl) | fail) only [↓pre, post, Int.reduceEq, Int.reduceLT, Int.reduceLE, Int.reduceAdd, Int.reduceSub, Int.reduceMul, Int.reduceNeg, Nat.reduceLT, Nat.reduceSub, Nat.reduceMul, Nat.reduceAdd, Nat.reduceLeDiff, reduceIte, reduceCtorEq, Nat.reduceEqDiff, eq_false hyp] | simp (maxSteps := 4000000) (disch := first | assumption | omega | (simp only [push_next, put_next, empty_next, List.length_cons, List.length_nil] <;> omega) | exact _root_.id rfl | exact _root_.id (fun _ => rfl) | fail) only [↓pre, post, Int.reduceEq, Int.reduceLT, Int.reduceLE, Int.reduceAdd, Int.reduceSub, Int.reduceMul, Int.reduceNeg, Nat.reduceLT, Nat.reduceSub, Nat.reduceMul, Nat.reduceAdd, Nat.reduceLeDiff, reduceIte, reduceCtorEq, Nat.reduceEqDiff, eq_true hyp] | skip))
  · refine w_loop (fun m vs h0 => ∃ (i : Nat) (x4 x5 x6 : AVal), m = la.length - i ∧ i ≤ la.length ∧ (∀ j, j < i → nth la j = nth lb j) ∧ vs = [.sl (la.map (.int .i64)) ta, .sl (lb.map (.int .i64)) tb, .bool false, .int .i64 i, x4, x5, x6]) la.length
      ⟨0, _, _, _, rfl, by omega, by omega, rfl⟩ ?_
    rintro m vs h0 ⟨i, x4, x5, x6, rfl, hi, hj, rfl⟩
    try simp (maxSteps := 4000000) (disch := first | assumption | omega | (simp only [push_next, put_next, empty_next, List.length_cons, List.length_nil] <;> omega) | exact _root_.id rfl | exact _root_.id (fun _ => rfl) | fail) only [↓pre, post, Int.reduceEq, Int.reduceLT, Int.reduceLE, Int.reduceAdd, Int.reduceSub, Int.reduceMul, Int.reduceNeg, Nat.reduceLT, Nat.reduceSub, Nat.reduceMul, Nat.reduceAdd, Nat.reduceLeDiff, reduceIte, reduceCtorEq, Nat.reduceEqDiff]
    repeat' (first
      | (refine ifP_pos (by first | assumption | omega) ?_ <;> try simp (maxSteps := 4000000) (disch := first | assumption | omega | (simp only [push_next, put_next, empty_next, List.length_cons, List.length_nil] <;> omega) | exact _root_.id rfl | exact _root_.id (fun _ => rfl) | fail) only [↓pre, post, Int.reduceEq, Int.reduceLT, Int.reduceLE, Int.reduceAdd, Int.reduceSub, Int.reduceMul, Int.reduceNeg, Nat.reduceLT, Nat.reduceSub, Nat.reduceMul, Nat.reduceAdd, Nat.reduceLeDiff, reduceIte, reduceCtorEq, Nat.reduceEqDiff])
      | (refine ifP_neg (by first | assumption | omega) ?_ <;> try simp (maxSteps := 4000000) (disch := first | assumption | omega | (simp only [push_next, put_next, empty_next, List.length_cons, List.length_nil] <;> omega) | exact _root_.id rfl | exact _root_.id (fun _ => rfl) | fail) only [↓pre, post, Int.reduceEq, Int.reduceLT, Int.reduceLE, Int.reduceAdd, Int.reduceSub, Int.reduceMul, Int.reduceNeg, Nat.reduceLT, Nat.reduceSub, Nat.reduceMul, Nat.reduceAdd, Nat.reduceLeDiff, reduceIte, reduceCtorEq, Nat.reduceEqDiff])
      | (refine ifP_intro (fun hyp => ?_) (fun hyp => ?_) <;> first | simp (maxSteps := 4000000) (disch := first | assumption | omega | (simp only [push_next, put_next, empty_next, List.length_cons, List.length_nil] <;> omega) | exact _root_.id rfl | exact _root_.id (fun _ => rfl) | fail) only [↓pre, post, Int.reduceEq, Int.reduceLT, Int.reduceLE, Int.reduceAdd, Int.reduceSub, Int.reduceMul, Int.reduceNeg, Nat.reduceLT, Nat.reduceSub, Nat.reduceMul, Nat.reduceAdd, Nat.reduceLeDiff, reduceIte, reduceCtorEq, Nat.reduceEqDiff, eq_false hyp] | simp (maxSteps := 4000000) (disch := first | assumption | omega | (simp only [push_next, put_next, empty_next, List.length_cons, List.length_nil] <;> omega) | exact _root_.id rfl | exact _root_.id (fun _ => rfl) | fail) only [↓pre, post, Int.reduceEq, Int.reduceLT, Int.reduceLE, Int.reduceAdd, Int.reduceSub, Int.reduceMul, Int.reduceNeg, Nat.reduceLT, Nat.reduceSub, Nat.reduceMul, Nat.reduceAdd, Nat.reduceLeDiff, reduceIte, reduceCtorEq, Nat.reduceEqDiff, eq_true hyp] | skip))
    · refine lp_n ⟨la.length - (i + 1), by omega, i + 1, _, _, _, rfl, by omega, fun j hj' => ?_, rfl⟩
      by_cases e : j = i
      · subst e; omega
      · exact hj j (by omega)
    · exact (decide_eq_false (fun h => hyp (by rw [h]))).symm
    · exact (decide_eq_true (ext_nth (by omega) fun j h => hj j (by omega))).symm
  · exact (decide_eq_false (fun h => hyp (by rw [h]))).symm

theorem sameLines_v {la lb : List Ln} {ta tb : Tok} (h1 : la.length < 1000000) : PV F 15 [.sl (la.map Ln.toA) ta, .sl (lb.map Ln.toA) tb] = some (.bool (decide (la = lb))) := by
  refine PV_wp (fn := c15) rfl ?_
  dsimp only [c15]
  try simp (maxSteps := 4000000) (disch := first | assumption | omega | (simp only [push_next, put_next, empty_next, List.length_cons, List.length_nil] <;> omega) | exact _root_.id rfl | exact _root_.id (fun _ => rfl) | fail) only [↓pre, post, Int.reduceEq, Int.reduceLT, Int.reduceLE, Int.reduceAdd, Int.reduceSub, Int.reduceMul, Int.reduceNeg, Nat.reduceLT, Nat.reduceSub, Nat.reduceMul, Nat.reduceAdd, Nat.reduceLeDiff, reduceIte, reduceCtorEq, Nat.reduceEqDiff]
  repeat' (first
    | (refine ifP_pos (by first | assumption | omega) ?_ <;> try simp (maxSteps := 4000000) (disch := first | assumption | omega | (simp only [push_next, put_next, empty_next, List.length_cons, List.length_nil] <;> omega) | exact _root_.id rfl | exact _root_.id (fun _ => rfl) | fail) only [↓pre, post, Int.reduceEq, Int.reduceLT, Int.reduceLE, Int.reduceAdd, Int.reduceSub, Int.reduceMul, Int.reduceNeg, Nat.reduceLT, Nat.reduceSub, Nat.reduceMul, Nat.reduceAdd, Nat.reduceLeDiff, reduceIte, reduceCtorEq, Nat.reduceEqDiff])
    | (refine ifP_neg (by first | assumption | omega) ?_ <;> try simp (maxSteps := 4000000) (disch := first | assumption | omega | (simp only [push_next, put_next, empty_next, List.length_cons, List.length_nil] <;> omega) | exact _root_.id rfl | exact _root_.id (fun _ => rfl) | fail) only [↓pre, post, Int.reduceEq, Int.reduceLT, Int.reduceLE, Int.reduceAdd, Int.reduceSub, Int.reduceMul, Int.reduceNeg, Nat.reduceLT, Nat.reduceSub, Nat.reduceMul, Nat.reduceAdd, Nat.reduceLeDiff, reduceIte, reduceCtorEq, Nat.reduceEqDiff])
    | (refine ifP_intro (fun hyp => ?_) (fun hyp => ?_) <;> first | simp (maxSteps := 4000000) (disch := first | assumption | omega | (simp only [push_next, put_next, empty_next, List.length_cons, List.length_nil] <;> omega) | exact _root_.id rfl | exact _root_.id (fun _ => rfl) | fail) only [↓pre, post, Int.reduceEq, Int.reduceLT, Int.reduceLE, Int.reduceAdd, Int.reduceSub, Int.reduceMul, Int.reduceNeg, Nat.reduceLT, Nat.reduceSub, Nat.reduceMul, Nat.reduceAdd, Nat.reduceLeDiff, reduceIte, reduceCtorEq, Nat.reduceEqDiff, eq_false hyp] | simp (maxSteps := 4000000) (disch := first | assumption | omega | (simp only [push_next, put_next, empty_next, List.length_cons, List.length_nil] <;> omega) | exact _root_.id rfl | exact _root_.id (fun _ => rfl) | fail) only [↓pre, post, Int.reduceEq, Int.reduceLT, Int.reduceLE, Int.reduceAdd, Int.reduceSub, Int.reduceMul, Int.reduceNeg, Nat.reduceLT, Nat.reduceSub, Nat.reduceMul, Nat.reduceAdd, Nat.reduceLeDiff, reduceIte, reduceCtorEq, Nat.reduceEqDiff, eq_true hyp] | skip))
  · refine w_loop (fun m vs h0 => ∃ (i : Nat) (x4 x5 x6 : AVal), m = la.length - i ∧ i ≤ la.length ∧ (∀ j, j < i → nth la j = nth lb j) ∧ vs = [.sl (la.map Ln.toA) ta, .sl (lb.map Ln.toA) tb, .bool false, .int .i64 i, x4, x5, x6]) la.length
      ⟨0, _, _, _, rfl, by omega, by omega, rfl⟩ ?_
    rintro m vs h0 ⟨i, x4, x5, x6, rfl, hi, hj, rfl⟩
    try simp (maxSteps := 4000000) (disch := first | assumption | omega | (simp only [push_next, put_next, empty_next, List.length_cons, List.length_nil] <;> omega) | exact _root_.id rfl | exact _root_.id (fun _ => rfl) | fail) only [↓pre, post, Int.reduceEq, Int.reduceLT, Int.reduceLE, Int.reduceAdd, Int.reduceSub, Int.reduceMul, Int.reduceNeg, Nat.reduceLT, Nat.reduceSub, Nat.reduceMul, Nat.reduceAdd, Nat.reduceLeDiff, reduceIte, reduceCtorEq, Nat.reduceEqDiff, Ln.toA, cellsEq3]
    repeat' (first
      | (refine ifP_pos (by first | assumption | omega) ?_ <;> try simp (maxSteps := 4000000) (disch := first | assumption | omega | (simp only [push_next, put_next, empty_next, List.length_cons, List.length_nil] <;> omega) | exact _root_.id rfl | exact _root_.id (fun _ => rfl) | fail) only [↓pre, post, Int.reduceEq, Int.reduceLT, Int.reduceLE, Int.reduceAdd, Int.reduceSub, Int.reduceMul, Int.reduceNeg, Nat.reduceLT, Nat.reduceSub, Nat.reduceMul, Nat.reduceAdd, Nat.reduceLeDiff, reduceIte, reduceCtorEq, Nat.reduceEqDiff, Ln.toA, cellsEq3])
      | (refine ifP_neg (by first | assumption | omega) ?_ <;> try simp (maxSteps := 4000000) (disch := first | assumption | omega | (simp only [push_next, put_next, empty_next, List.length_cons, List.length_nil] <;> omega) | exact _root_.id rfl | exact _root_.id (fun _ => rfl) | fail) only [↓pre, post, Int.reduceEq, Int.reduceLT, Int.reduceLE, Int.reduceAdd, Int.reduceSub, Int.reduceMul, Int.reduceNeg, Nat.reduceLT, Nat.reduceSub, Nat.reduceMul, Nat.reduceAdd, Nat.reduceLeDiff, reduceIte, reduceCtorEq, Nat.reduceEqDiff, Ln.toA, cellsEq3])
      | (refine ifP_intro (fun hyp => ?_) (fun hyp => ?_) <;> first | simp (maxSteps := 4000000) (disch := first | assumption | omega | (simp only [push_next, put_next, empty_next, List.length_cons, List.length_nil] <;> omega) | exact _root_.id rfl | exact _root_.id (fun _ => rfl) | fail) only [↓pre, post, Int.reduceEq, Int.reduceLT, Int.reduceLE, Int.reduceAdd, Int.reduceSub, Int.reduceMul, Int.reduceNeg, Nat.reduceLT, Nat.reduceSub, Nat.reduceMul, Nat.reduceAdd, Nat.reduceLeDiff, reduceIte, reduceCtorEq, Nat.reduceEqDiff, Ln.toA, cellsEq3, eq_false hyp] | simp (maxSteps := 4000000) (disch := first | assumption | omega | (simp only [push_next, put_next, empty_next, List.length_cons, List.length_nil] <;> omega) | exact _root_.id rfl | exact _root_.id (fun _ => rfl) | fail) only [↓pre, post, Int.reduceEq, Int.reduceLT, Int.reduceLE, Int.reduceAdd, Int.reduceSub, Int.reduceMul, Int.reduceNeg, Nat.reduceLT, Nat.reduceSub, Nat.reduceMul, Nat.reduceAdd, Nat.reduceLeDiff, reduceIte, reduceCtorEq, Nat.reduceEqDiff, Ln.toA, cellsEq3, eq_true hyp] | skip))
    · refine lp_n ⟨la.length - (i + 1), by omega, i + 1, _, _, _, rfl, by omega, fun j hj' => ?_, rfl⟩
      by_cases e : j = i
      · subst e
        obtain ⟨q1, q2, q3⟩ := hyp
        cases hx : nth la j; cases hy : nth lb j
        rw [hx, hy] at q1 q2 q3
        simp only at q1 q2 q3
        subst q1; subst q2; subst q3; rfl
      · exact hj j (by omega)
    · exact (decide_eq_false (fun h => hyp (by rw [h]; exact ⟨rfl, rfl, rfl⟩))).symm
    · exact (decide_eq_true (ext_nth (by omega) fun j h => hj j (by omega))).symm
  · exact (decide_eq_false (fun h => hyp (by rw [h]))).symm

/-- Without spaces and hyphens. -/
def bareS (s : List UInt8) : List UInt8 := s.filter fun c => c != 32 && c != 45

theorem bare_v {s : List UInt8} (h1 : s.length < 1000000) : PV F 32 [.str s] = some (.str (bareS s)) := by
  refine PV_wp (fn := c32) rfl ?_
  dsimp only [c32]
  try simp (maxSteps := 4000000) (disch := first | assumption | omega | (simp only [push_next, put_next, empty_next, List.length_cons, List.length_nil] <;> omega) | exact _root_.id rfl | exact _root_.id (fun _ => rfl) | fail) only [↓pre, post, Int.reduceEq, Int.reduceLT, Int.reduceLE, Int.reduceAdd, Int.reduceSub, Int.reduceMul, Int.reduceNeg, Nat.reduceLT, Nat.reduceSub, Nat.reduceMul, Nat.reduceAdd, Nat.reduceLeDiff, reduceIte, reduceCtorEq, Nat.reduceEqDiff]
  repeat' (first
    | (refine ifP_pos (by first | assumption | omega) ?_ <;> try simp (maxSteps := 4000000) (disch := first | assumption | omega | (simp only [push_next, put_next, empty_next, List.length_cons, List.length_nil] <;> omega) | exact _root_.id rfl | exact _root_.id (fun _ => rfl) | fail) only [↓pre, post, Int.reduceEq, Int.reduceLT, Int.reduceLE, Int.reduceAdd, Int.reduceSub, Int.reduceMul, Int.reduceNeg, Nat.reduceLT, Nat.reduceSub, Nat.reduceMul, Nat.reduceAdd, Nat.reduceLeDiff, reduceIte, reduceCtorEq, Nat.reduceEqDiff])
    | (refine ifP_neg (by first | assumption | omega) ?_ <;> try simp (maxSteps := 4000000) (disch := first | assumption | omega | (simp only [push_next, put_next, empty_next, List.length_cons, List.length_nil] <;> omega) | exact _root_.id rfl | exact _root_.id (fun _ => rfl) | fail) only [↓pre, post, Int.reduceEq, Int.reduceLT, Int.reduceLE, Int.reduceAdd, Int.reduceSub, Int.reduceMul, Int.reduceNeg, Nat.reduceLT, Nat.reduceSub, Nat.reduceMul, Nat.reduceAdd, Nat.reduceLeDiff, reduceIte, reduceCtorEq, Nat.reduceEqDiff])
    | (refine ifP_intro (fun hyp => ?_) (fun hyp => ?_) <;> first | simp (maxSteps := 4000000) (disch := first | assumption | omega | (simp only [push_next, put_next, empty_next, List.length_cons, List.length_nil] <;> omega) | exact _root_.id rfl | exact _root_.id (fun _ => rfl) | fail) only [↓pre, post, Int.reduceEq, Int.reduceLT, Int.reduceLE, Int.reduceAdd, Int.reduceSub, Int.reduceMul, Int.reduceNeg, Nat.reduceLT, Nat.reduceSub, Nat.reduceMul, Nat.reduceAdd, Nat.reduceLeDiff, reduceIte, reduceCtorEq, Nat.reduceEqDiff, eq_false hyp] | simp (maxSteps := 4000000) (disch := first | assumption | omega | (simp only [push_next, put_next, empty_next, List.length_cons, List.length_nil] <;> omega) | exact _root_.id rfl | exact _root_.id (fun _ => rfl) | fail) only [↓pre, post, Int.reduceEq, Int.reduceLT, Int.reduceLE, Int.reduceAdd, Int.reduceSub, Int.reduceMul, Int.reduceNeg, Nat.reduceLT, Nat.reduceSub, Nat.reduceMul, Nat.reduceAdd, Nat.reduceLeDiff, reduceIte, reduceCtorEq, Nat.reduceEqDiff, eq_true hyp] | skip))
  refine w_loop (fun m vs h0 => ∃ (i : Nat) (x4 x5 : AVal), m = s.length - i ∧ i ≤ s.length ∧ vs = [.str s, .str [], .str (bareS (s.take i)), .int .i64 i, x4, x5]) s.length
    ⟨0, _, _, rfl, by omega, rfl⟩ ?_
  rintro m vs h0 ⟨i, x4, x5, rfl, hi, rfl⟩
  have hlen : (bareS (s.take i)).length ≤ i := by
    have := List.length_filter_le (fun c : UInt8 => c != 32 && c != 45) (s.take i)
    simp only [List.length_take] at this
    unfold bareS; omega
  have h32 : (nth s i).toNat = 32 → nth s i = 32 := fun h => UInt8.toNat_inj.1 h
  have h45 : (nth s i).toNat = 45 → nth s i = 45 := fun h => UInt8.toNat_inj.1 h
  have n32 : nth s i = 32 → (nth s i).toNat = 32 := fun h => by rw [h]; rfl
  have n45 : nth s i = 45 → (nth s i).toNat = 45 := fun h => by rw [h]; rfl
  have hx : (i : Int) < s.length → List.take (i + 1 - i) (List.drop i s) = [nth s i] := fun h => by
    have hlt : i < s.length := by omega
    rw [show i + 1 - i = 1 by omega, List.drop_eq_getElem_cons hlt, nth_eq hlt]; rfl
  have hb : i < s.length → bareS (s.take (i + 1)) = bareS (s.take i) ++ (if nth s i = 32 ∨ nth s i = 45 then [] else [nth s i]) := fun h => by
    rw [List.take_succ_eq_append_getElem h, ← nth_eq h, bareS, List.filter_append]
    congr 1
    by_cases h1 : nth s i = 32
    · simp [h1]
    · by_cases h2 : nth s i = 45
      · simp [h2]
      · simp [h1, h2]
  try simp (maxSteps := 4000000) (disch := first | assumption | omega | (simp only [push_next, put_next, empty_next, List.length_cons, List.length_nil] <;> omega) | exact _root_.id rfl | exact _root_.id (fun _ => rfl) | fail) only [↓pre, post, Int.reduceEq, Int.reduceLT, Int.reduceLE, Int.reduceAdd, Int.reduceSub, Int.reduceMul, Int.reduceNeg, Nat.reduceLT, Nat.reduceSub, Nat.reduceMul, Nat.reduceAdd, Nat.reduceLeDiff, reduceIte, reduceCtorEq, Nat.reduceEqDiff, hx]
  repeat' (first
    | (refine ifP_pos (by first | assumption | omega) ?_ <;> try simp (maxSteps := 4000000) (disch := first | assumption | omega | (simp only [push_next, put_next, empty_next, List.length_cons, List.length_nil] <;> omega) | exact _root_.id rfl | exact _root_.id (fun _ => rfl) | fail) only [↓pre, post, Int.reduceEq, Int.reduceLT, Int.reduceLE, Int.reduceAdd, Int.reduceSub, Int.reduceMul, Int.reduceNeg, Nat.reduceLT, Nat.reduceSub, Nat.reduceMul, Nat.reduceAdd, Nat.reduceLeDiff, reduceIte, reduceCtorEq, Nat.reduceEqDiff, hx])
    | (refine ifP_neg (by first | assumption | omega) ?_ <;> try simp (maxSteps := 4000000) (disch := first | assumption | omega | (simp only [push_next, put_next, empty_next, List.length_cons, List.length_nil] <;> omega) | exact _root_.id rfl | exact _root_.id (fun _ => rfl) | fail) only [↓pre, post, Int.reduceEq, Int.reduceLT, Int.reduceLE, Int.reduceAdd, Int.reduceSub, Int.reduceMul, Int.reduceNeg, Nat.reduceLT, Nat.reduceSub, Nat.reduceMul, Nat.reduceAdd, Nat.reduceLeDiff, reduceIte, reduceCtorEq, Nat.reduceEqDiff, hx])
    | (refine ifP_intro (fun hyp => ?_) (fun hyp => ?_) <;> first | simp (maxSteps := 4000000) (disch := first | assumption | omega | (simp only [push_next, put_next, empty_next, List.length_cons, List.length_nil] <;> omega) | exact _root_.id rfl | exact _root_.id (fun _ => rfl) | fail) only [↓pre, post, Int.reduceEq, Int.reduceLT, Int.reduceLE, Int.reduceAdd, Int.reduceSub, Int.reduceMul, Int.reduceNeg, Nat.reduceLT, Nat.reduceSub, Nat.reduceMul, Nat.reduceAdd, Nat.reduceLeDiff, reduceIte, reduceCtorEq, Nat.reduceEqDiff, hx, eq_false hyp] | simp (maxSteps := 4000000) (disch := first | assumption | omega | (simp only [push_next, put_next, empty_next, List.length_cons, List.length_nil] <;> omega) | exact _root_.id rfl | exact _root_.id (fun _ => rfl) | fail) only [↓pre, post, Int.reduceEq, Int.reduceLT, Int.reduceLE, Int.reduceAdd, Int.reduceSub, Int.reduceMul, Int.reduceNeg, Nat.reduceLT, Nat.reduceSub, Nat.reduceMul, Nat.reduceAdd, Nat.reduceLeDiff, reduceIte, reduceCtorEq, Nat.reduceEqDiff, hx, eq_true hyp] | skip))
  · exact lp_n ⟨s.length - (i + 1), by omega, i + 1, _, _, rfl, by omega, by rw [hb (by omega), if_pos (.inl (h32 (by omega))), List.append_nil]; rfl⟩
  · exact lp_n ⟨s.length - (i + 1), by omega, i + 1, _, _, rfl, by omega, by rw [hb (by omega), if_pos (.inr (h45 (by omega))), List.append_nil]; rfl⟩
  · exact lp_n ⟨s.length - (i + 1), by omega, i + 1, _, _, rfl, by omega, by rw [hb (by omega), if_neg (fun h => h.elim (fun e => by have := n32 e; omega) (fun e => by have := n45 e; omega))]; rfl⟩
  · rw [List.take_of_length_le (by omega)]

end Go.Proofs.Ytcammfdljiingaa

/-
  Break of the program, walked.
-/
set_option linter.unusedSimpArgs false
set_option linter.unusedVariables false
set_option maxHeartbeats 8000000
namespace Go.Proofs.Ytcammfdljiingaa
open Go Go.Abs

structure Rs where
  ok : Bool
  cost : Int
  count : Int
  f : Ln
  deriving Inhabited
def Rs.toA (r : Rs) : AVal := .agg [.bool r.ok, .int .i64 r.cost, .int .i64 r.count, .int .i64 r.f.a, .int .i64 r.f.b, .int .i64 r.f.n]
def zeroRs : Rs := ⟨false, 0, 0, ⟨0, 0, 0⟩⟩

/-- One line is put in. -/
def newRs (l : List Item) (a : Nat) (R : List Rs) (x : Nat × Int × Int) : Rs := ⟨true, x.2.2 + (nth R (skip l x.1)).cost, 1 + (nth R (skip l x.1)).count, ⟨a, x.1, x.2.1⟩⟩
def bstep (l : List Item) (a : Nat) (R : List Rs) (x : Nat × Int × Int) : List Rs :=
  if (nth R (skip l x.1)).ok = true ∧ (¬ (nth R a).ok = true ∨ (newRs l a R x).cost < (nth R a).cost ∨ ((newRs l a R x).cost = (nth R a).cost ∧ (newRs l a R x).count < (nth R a).count)) then R.set a (newRs l a R x) else R
def brnd (l : List Item) (w : Int) (R : List Rs) (a : Nat) : List Rs := if starts l a then (linesOf l w a).foldl (bstep l a) R else R

def BI (l : List Item) (t : Tok) (R : List Rs) (h : Heap) : Prop := R.length = l.length + 1 ∧ h.get 0 = some (.row true 0 false [.sl (items l) t]) ∧ h.get 1 = some (.row true 6 true (flat (R.map Rs.toA))) ∧ h.get 2 = some (.row true (typed 58) false [.ref 1 0 (l.length + 1) 6])
def RB (l : List Item) (R : List Rs) : Prop := ∀ k, 0 ≤ (nth R k).cost ∧ (nth R k).cost ≤ (l.length - k) * 5000000000 ∧ 0 ≤ (nth R k).count ∧ (nth R k).count ≤ 1000

theorem BI.push {l : List Item} {t : Tok} {R : List Rs} {h : Heap} {o : Abs.Obj} (b : BI l t R h) : BI l t R (h.push o) :=
  ⟨b.1, get_push_old b.2.1, get_push_old b.2.2.1, get_push_old b.2.2.2⟩
theorem BI.set {l : List Item} {t : Tok} {R : List Rs} {h : Heap} {a : Nat} {r : Rs} (b : BI l t R h) : BI l t (R.set a r) (h.put 1 (some (.row true 6 true (flat ((R.set a r).map Rs.toA))))) :=
  ⟨by simp [b.1], by rw [get_put_ne (by omega)]; exact b.2.1, get_put_old b.2.2.1, by rw [get_put_ne (by omega)]; exact b.2.2.2⟩

theorem break1_c {l : List Item} {t : Tok} {a v : Nat} {x : Nat × Int × Int} {R : List Rs} {h : Heap} (ht : Pt t) (hl : l.length ≤ 512) (hI : BI l t R h) (hv : h.get v = some (.row true (typed 3) false [.int .i64 (a : Nat)])) (hv3 : 3 ≤ v) (ha : a ≤ l.length) (h1 : 1 ≤ x.1) (h2 : x.1 ≤ l.length) (hc : 0 ≤ x.2.2) (hc2 : x.2.2 ≤ 5000000000)
    (hb1 : 0 ≤ (nth R (skip l x.1)).cost ∧ (nth R (skip l x.1)).cost ≤ 100000000000000) (hb2 : 0 ≤ (nth R (skip l x.1)).count ∧ (nth R (skip l x.1)).count ≤ 100000) :
    CV F 36 ([lineA a x, .int .i64 x.2.2] ++ [.ptr 2 0, .ptr 0 0, .ptr v 0]) h (fun _ h2 => BI l t (bstep l a R x) h2 ∧ Fr (· = 1) h h2) := by
  have hI' := hI
  obtain ⟨i1, i2, i3, i4⟩ := hI
  have hn := get_lt hv
  have hsk := skip_le (l := l) (p := x.1) h2
  have hst : PV F 37 [.sl (items l) t, .int .i64 ((x.1 : Int) - 1)] = some (.int .i64 (skip l x.1)) := start_v x.1 rfl (by omega) (by omega)
  have Ln1 : loadG 6 true ((skip l x.1) * 6) (h.get 1) = some (Rs.toA (nth R (skip l x.1))) := by
    rw [i3, loadG_flat0 (f := Rs.toA) (sz := 6) (fun _ => rfl) R true true 6 true (by omega) (by omega)]; rfl
  have Ln2 : loadG 6 true (a * 6) (h.get 1) = some (Rs.toA (nth R a)) := by
    rw [i3, loadG_flat0 (f := Rs.toA) (sz := 6) (fun _ => rfl) R true true 6 true (by omega) (by omega)]; rfl
  have Sw : ∀ (r : Rs) (H : Heap), storeG 6 1 (a * 6) (Rs.toA r) H (h.get 1) = some (H.put 1 (some (.row true 6 true (flat ((R.set a r).map Rs.toA))))) := fun r H => by
    rw [i3]
    exact storeG_flatw (f := Rs.toA) (sz := 6) (fun _ => rfl) R 6 true r (by omega) rfl
  have Sn := Sw (newRs l a R x)
  simp only [Rs.toA] at Ln1 Ln2
  simp only [Rs.toA, newRs] at Sn
  refine CV_wp (fn := c36) rfl ?_
  dsimp only [c36, lineA]
  try simp (maxSteps := 4000000) (disch := first | assumption | omega | (simp only [push_next, put_next, empty_next, List.length_cons, List.length_nil] <;> omega) | exact _root_.id rfl | exact _root_.id (fun _ => rfl) | fail) only [↓pre, post, Int.reduceEq, Int.reduceLT, Int.reduceLE, Int.reduceAdd, Int.reduceSub, Int.reduceMul, Int.reduceNeg, Nat.reduceLT, Nat.reduceSub, Nat.reduceMul, Nat.reduceAdd, Nat.reduceLeDiff, reduceIte, reduceCtorEq, Nat.reduceEqDiff, i2, i4, hv, hst, Ln1, Ln2, Sn]
  repeat' (first
    | (refine ifP_pos (by first | assumption | omega) ?_ <;> try simp (maxSteps := 4000000) (disch := first | assumption | omega | (simp only [push_next, put_next, empty_next, List.length_cons, List.length_nil] <;> omega) | exact _root_.id rfl | exact _root_.id (fun _ => rfl) | fail) only [↓pre, post, Int.reduceEq, Int.reduceLT, Int.reduceLE, Int.reduceAdd, Int.reduceSub, Int.reduceMul, Int.reduceNeg, Nat.reduceLT, Nat.reduceSub, Nat.reduceMul, Nat.reduceAdd, Nat.reduceLeDiff, reduceIte, reduceCtorEq, Nat.reduceEqDiff, i2, i4, hv, hst, Ln1, Ln2, Sn])
    | (refine ifP_neg (by first | assumption | omega) ?_ <;> try simp (maxSteps := 4000000) (disch := first | assumption | omega | (simp only [push_next, put_next, empty_next, List.length_cons, List.length_nil] <;> omega) | exact _root_.id rfl | exact _root_.id (fun _ => rfl) | fail) only [↓pre, post, Int.reduceEq, Int.reduceLT, Int.reduceLE, Int.reduceAdd, Int.reduceSub, Int.reduceMul, Int.reduceNeg, Nat.reduceLT, Nat.reduceSub, Nat.reduceMul, Nat.reduceAdd, Nat.reduceLeDiff, reduceIte, reduceCtorEq, Nat.reduceEqDiff, i2, i4, hv, hst, Ln1, Ln2, Sn])
    | (refine ifP_intro (fun hyp => ?_) (fun hyp => ?_) <;> first | simp (maxSteps := 4000000) (disch := first | assumption | omega | (simp only [push_next, put_next, empty_next, List.length_cons, List.length_nil] <;> omega) | exact _root_.id rfl | exact _root_.id (fun _ => rfl) | fail) only [↓pre, post, Int.reduceEq, Int.reduceLT, Int.reduceLE, Int.reduceAdd, Int.reduceSub, Int.reduceMul, Int.reduceNeg, Nat.reduceLT, Nat.reduceSub, Nat.reduceMul, Nat.reduceAdd, Nat.reduceLeDiff, reduceIte, reduceCtorEq, Nat.reduceEqDiff, i2, i4, hv, hst, Ln1, Ln2, Sn, eq_false hyp] | simp (maxSteps := 4000000) (disch := first | assumption | omega | (simp only [push_next, put_next, empty_next, List.length_cons, List.length_nil] <;> omega) | exact _root_.id rfl | exact _root_.id (fun _ => rfl) | fail) only [↓pre, post, Int.reduceEq, Int.reduceLT, Int.reduceLE, Int.reduceAdd, Int.reduceSub, Int.reduceMul, Int.reduceNeg, Nat.reduceLT, Nat.reduceSub, Nat.reduceMul, Nat.reduceAdd, Nat.reduceLeDiff, reduceIte, reduceCtorEq, Nat.reduceEqDiff, i2, i4, hv, hst, Ln1, Ln2, Sn, eq_true hyp] | skip))
  · rw [bstep, if_pos ⟨by assumption, .inr (.inl hyp)⟩]
    exact ⟨hI'.set.push.push.push.push, (((((Fr.put (S := (· = 1)) (Fr.refl _ _) (.inl rfl) _).push _).push _).push _).push _)⟩
  · rw [bstep, if_pos ⟨by assumption, .inr (.inr ⟨by assumption, hyp⟩)⟩]
    exact ⟨hI'.set.push.push.push.push, (((((Fr.put (S := (· = 1)) (Fr.refl _ _) (.inl rfl) _).push _).push _).push _).push _)⟩
  · rw [bstep, if_neg (by
      rintro ⟨_, h2 | h2 | h2⟩
      · exact h2 (by assumption)
      · simp only [newRs] at h2; omega
      · simp only [newRs] at h2; omega)]
    exact ⟨hI'.push.push.push.push, (((((Fr.refl _ _).push _).push _).push _).push _)⟩
  · rw [bstep, if_neg (by
      rintro ⟨_, h2 | h2 | h2⟩
      · exact h2 (by assumption)
      · simp only [newRs] at h2; omega
      · simp only [newRs] at h2; omega)]
    exact ⟨hI'.push.push.push.push, (((((Fr.refl _ _).push _).push _).push _).push _)⟩
  · rw [bstep, if_pos ⟨by assumption, .inl hyp⟩]
    first
    | exact ⟨hI'.set.push.push.push.push, (((((Fr.put (S := (· = 1)) (Fr.refl _ _) (.inl rfl) _).push _).push _).push _).push _)⟩
    | exact ⟨hI'.set.push.push.push, ((((Fr.put (S := (· = 1)) (Fr.refl _ _) (.inl rfl) _).push _).push _).push _)⟩
  · rw [bstep, if_neg (fun h => hyp h.1)]
    first
    | exact ⟨hI'.push.push.push.push, (((((Fr.refl _ _).push _).push _).push _).push _)⟩
    | exact ⟨hI'.push.push.push, ((((Fr.refl _ _).push _).push _).push _)⟩
    | exact ⟨hI'.push.push, (((Fr.refl _ _).push _).push _)⟩
    | exact ⟨hI'.push, ((Fr.refl _ _).push _)⟩

end Go.Proofs.Ytcammfdljiingaa

/-
  The plain law of the best lines: two ways to reckon them give one answer.
-/
set_option linter.unusedSimpArgs false
set_option linter.unusedVariables false
set_option maxHeartbeats 8000000
namespace Go.Proofs.Ytcammfdljiingaa
open Go Go.Abs

/-- The cost of a step from a break to an end. -/
def edge (l : List Item) (w : Int) (p b : Nat) : Option Int := if lineOk l w (skip l p) b then some (costN l w (skip l p) b) else none

/-- The cost of lines that follow one another, by their ends. -/
def chain (l : List Item) (w : Int) : Nat → List Nat → Option Int
  | _, [] => some 0
  | p, b :: bs => match edge l w p b, chain l w b bs with
    | some c, some d => some (c + d)
    | _, _ => none
def endOf : Nat → List Nat → Nat
  | p, [] => p
  | _, b :: bs => endOf b bs

theorem edge_lt {l : List Item} {w : Int} {p b : Nat} {c : Int} (h : edge l w p b = some c) : p < b ∧ b ≤ l.length := by
  unfold edge at h
  split at h
  · rename_i hl
    have := skip_ge (l := l) (p := p)
    exact ⟨by have := hl.1; omega, hl.2.1⟩
  · simp at h

theorem costN_nonneg {l : List Item} {w : Int} (hv : valid l) {a b : Nat} (h : lineOk l w a b) : 0 ≤ costN l w a b := by
  have ho := hv.2.2.2 (b - 1) (by have := h.1; have := h.2.1; omega)
  unfold okItem at ho
  unfold costN
  split
  · omega
  · have : 0 ≤ (w - natS l a b) * (w - natS l a b) := by
      generalize w - natS l a b = d
      rcases Int.le_total 0 d with h | h
      · exact Int.mul_nonneg h h
      · have := Int.mul_nonneg (a := -d) (b := -d) (by omega) (by omega)
        rwa [Int.neg_mul_neg] at this
    omega

theorem edge_nonneg {l : List Item} {w : Int} (hv : valid l) {p b : Nat} {c : Int} (h : edge l w p b = some c) : 0 ≤ c := by
  unfold edge at h
  split at h
  · rename_i hl; simp at h; subst h; exact costN_nonneg hv hl
  · simp at h

/-- Lists of numbers of one length, by their letters. -/
def lexLt : List Nat → List Nat → Prop
  | a :: us, b :: bs => a < b ∨ (a = b ∧ lexLt us bs)
  | _, _ => False
instance lexDec : (us bs : List Nat) → Decidable (lexLt us bs)
  | [], _ => isFalse (by simp [lexLt])
  | _ :: _, [] => isFalse (by simp [lexLt])
  | a :: us, b :: bs => by
    have := lexDec us bs
    unfold lexLt; infer_instance

theorem lexLt_irrefl : ∀ us, ¬ lexLt us us
  | [] => by simp [lexLt]
  | a :: us => by
    rintro (h | ⟨_, h⟩)
    · omega
    · exact lexLt_irrefl us h
theorem lexLt_trans : ∀ {us bs cs : List Nat}, lexLt us bs → lexLt bs cs → lexLt us cs
  | [], _, _, h, _ => h.elim
  | _ :: _, [], _, h, _ => h.elim
  | _ :: _, _ :: _, [], _, h => h.elim
  | a :: us, b :: bs, c :: cs, h1, h2 => by
    rcases h1 with h1 | ⟨h1, h1'⟩ <;> rcases h2 with h2 | ⟨h2, h2'⟩
    · exact .inl (by omega)
    · exact .inl (by omega)
    · exact .inl (by omega)
    · exact .inr ⟨by omega, lexLt_trans h1' h2'⟩
theorem lexLt_total : ∀ {us bs : List Nat}, us.length = bs.length → ¬ lexLt us bs → ¬ lexLt bs us → us = bs
  | [], [], _, _, _ => rfl
  | [], _ :: _, h, _, _ => by simp at h
  | _ :: _, [], h, _, _ => by simp at h
  | a :: us, b :: bs, h, h1, h2 => by
    have e : a = b := by
      rcases Nat.lt_trichotomy a b with h' | h' | h'
      · exact (h1 (.inl h')).elim
      · exact h'
      · exact (h2 (.inl h')).elim
    subst e
    rw [lexLt_total (by simpa using h) (fun h' => h1 (.inr ⟨rfl, h'⟩)) (fun h' => h2 (.inr ⟨rfl, h'⟩))]
theorem lexLt_append : ∀ {us bs : List Nat} (cs ds : List Nat), lexLt us bs → lexLt (us ++ cs) (bs ++ ds)
  | [], _, _, _, h => h.elim
  | _ :: _, [], _, _, h => h.elim
  | a :: us, b :: bs, cs, ds, h => h.elim .inl fun ⟨h1, h2⟩ => .inr ⟨h1, lexLt_append cs ds h2⟩
theorem lexLt_append_left : ∀ (us : List Nat) {cs ds : List Nat}, lexLt cs ds → lexLt (us ++ cs) (us ++ ds)
  | [], _, _, h => h
  | a :: us, _, _, h => .inr ⟨rfl, lexLt_append_left us h⟩

/-- What is to be preferred: a lesser cost, fewer lines, earlier ends. -/
def pref (c : Int) (us : List Nat) (d : Int) (bs : List Nat) : Prop := c < d ∨ (c = d ∧ (us.length < bs.length ∨ (us.length = bs.length ∧ lexLt us bs)))
instance (c : Int) (us : List Nat) (d : Int) (bs : List Nat) : Decidable (pref c us d bs) := by unfold pref; infer_instance
theorem pref_total {c d : Int} {us bs : List Nat} (h1 : ¬ pref c us d bs) (h2 : ¬ pref d bs c us) : c = d ∧ us = bs := by
  unfold pref at h1 h2
  have hc : c = d := by omega
  subst hc
  have hl : us.length = bs.length := by omega
  exact ⟨rfl, lexLt_total hl (fun h => h1 (.inr ⟨rfl, .inr ⟨hl, h⟩⟩)) (fun h => h2 (.inr ⟨rfl, .inr ⟨hl.symm, h⟩⟩))⟩
theorem pref_trans_not {c d e : Int} {us bs cs : List Nat} (h1 : ¬ pref c us d bs) (h2 : pref e cs d bs) : pref e cs c us := by
  unfold pref at *
  rcases Int.lt_trichotomy e c with h | h | h
  · exact .inl h
  · subst h
    right
    refine ⟨rfl, ?_⟩
    rcases Nat.lt_trichotomy cs.length us.length with h' | h' | h'
    · exact .inl h'
    · right
      refine ⟨h', ?_⟩
      rcases h2 with h2 | ⟨h2, h3⟩
      · omega
      · subst h2
        rcases h3 with h3 | ⟨h3, h4⟩
        · omega
        · by_cases hq : lexLt cs us
          · exact hq
          · by_cases hq2 : lexLt us cs
            · exact (h1 (.inr ⟨rfl, .inr ⟨by omega, lexLt_trans hq2 h4⟩⟩)).elim
            · have := lexLt_total h' hq hq2
              subst this
              exact (h1 (.inr ⟨rfl, .inr ⟨h3, h4⟩⟩)).elim
    · omega
  · omega

/-- The best way from a break to a break. -/
def Best (l : List Item) (w : Int) (p q : Nat) (c : Int) (bs : List Nat) : Prop :=
  chain l w p bs = some c ∧ endOf p bs = q ∧ ∀ d cs, chain l w p cs = some d → endOf p cs = q → ¬ pref d cs c bs

theorem Best.unique {l : List Item} {w : Int} {p q : Nat} {c d : Int} {bs cs : List Nat} (h1 : Best l w p q c bs) (h2 : Best l w p q d cs) : c = d ∧ bs = cs :=
  pref_total (h2.2.2 _ _ h1.1 h1.2.1) (h1.2.2 _ _ h2.1 h2.2.1)

theorem chain_append {l : List Item} {w : Int} : ∀ {p : Nat} {bs cs : List Nat}, chain l w p (bs ++ cs) = match chain l w p bs, chain l w (endOf p bs) cs with
    | some c, some d => some (c + d)
    | _, _ => none
  | p, [], cs => by
    simp only [List.nil_append, chain, endOf]
    cases chain l w p cs <;> simp
  | p, b :: bs, cs => by
    simp only [List.cons_append, chain, endOf, chain_append (p := b) (bs := bs) (cs := cs)]
    cases edge l w p b <;> cases chain l w b bs <;> cases chain l w (endOf b bs) cs <;> simp [Int.add_assoc]
theorem endOf_append : ∀ (p : Nat) (bs cs : List Nat), endOf p (bs ++ cs) = endOf (endOf p bs) cs
  | p, [], cs => rfl
  | p, b :: bs, cs => endOf_append b bs cs

end Go.Proofs.Ytcammfdljiingaa

/-
  Break of the program: what its rows hold; the walk.
-/
set_option linter.unusedSimpArgs false
set_option linter.unusedVariables false
set_option maxHeartbeats 8000000
namespace Go.Proofs.Ytcammfdljiingaa
open Go Go.Abs

theorem mem_linesOf {l : List Item} {w : Int} {a : Nat} {x : Nat × Int × Int} (h : x ∈ linesOf l w a) : lineOk l w a x.1 ∧ x.2.1 = natS l a x.1 ∧ x.2.2 = costN l w a x.1 := by
  unfold linesOf at h
  rw [List.mem_filterMap] at h
  obtain ⟨b, _, h⟩ := h
  unfold lineAt at h
  split at h
  · rename_i hl
    simp only [Option.some.injEq] at h
    subst h
    exact ⟨hl, rfl, rfl⟩
  · simp at h

/-- What the rows hold once those from p on are done. -/
def RI (l : List Item) (w : Int) (p : Nat) (R : List Rs) : Prop := R.length = l.length + 1 ∧ (∀ k, k < p → nth R k = zeroRs) ∧ ∀ k, p ≤ k → k ≤ l.length →
  (0 ≤ (nth R k).cost ∧ (nth R k).cost ≤ ((l.length : Int) - k) * 5000000000 ∧ 0 ≤ (nth R k).count ∧ (nth R k).count ≤ (l.length : Int) - k) ∧
  ((nth R k).ok = true → (k = l.length ∧ (nth R k).cost = 0 ∧ (nth R k).count = 0) ∨ ∃ b, lineOk l w k b ∧ (nth R k).f = ⟨k, b, natS l k b⟩ ∧ (nth R (skip l b)).ok = true ∧ (nth R k).cost = costN l w k b + (nth R (skip l b)).cost ∧ (nth R k).count = 1 + (nth R (skip l b)).count)

theorem RI_down {l : List Item} {w : Int} {a : Nat} {R : List Rs} (h : RI l w (a + 1) R) (ha : a < l.length) : RI l w a R := by
  refine ⟨h.1, fun k hk => h.2.1 k (by omega), fun k h1 h2 => ?_⟩
  by_cases e : k = a
  · subst e
    rw [h.2.1 k (by omega)]
    refine ⟨⟨by simp [zeroRs], by simp only [zeroRs]; omega, by simp [zeroRs], by simp only [zeroRs]; omega⟩, fun h => by simp [zeroRs] at h⟩
  · exact h.2.2 k (by omega) h2
theorem RI_step {l : List Item} {w : Int} {a : Nat} {R : List Rs} {x : Nat × Int × Int} (hv : valid l) (hw : widthOk w) (h : RI l w a R) (hx : x ∈ linesOf l w a) : RI l w a (bstep l a R x) := by
  obtain ⟨m1, m2, m3⟩ := mem_linesOf hx
  have hab := m1.1
  have hbl := m1.2.1
  have hsk := skip_le (l := l) (p := x.1) hbl
  have hge := skip_ge (l := l) (p := x.1)
  have hcb := cost_bound hv hw m1
  have ho := h.2.2 (skip l x.1) (by omega) hsk
  unfold bstep
  split
  · rename_i hc
    have hne : ∀ k, k ≠ a → nth (R.set a (newRs l a R x)) k = nth R k := fun k hk => nth_set_ne (fun e => hk e.symm)
    have heq : nth (R.set a (newRs l a R x)) a = newRs l a R x := nth_set_self (by rw [h.1]; omega)
    refine ⟨by simp [h.1], fun k hk => by rw [hne k (by omega)]; exact h.2.1 k hk, fun k h1 h2 => ?_⟩
    by_cases e : k = a
    · subst e
      rw [heq]
      refine ⟨?_, fun _ => .inr ⟨x.1, m1, ?_, ?_, ?_, ?_⟩⟩
      · simp only [newRs]; omega
      · simp only [newRs, m2]
      · rw [hne _ (by omega)]; exact hc.1
      · rw [hne _ (by omega)]; simp only [newRs, m3]
      · rw [hne _ (by omega)]; simp only [newRs]
    · rw [hne k e]
      refine ⟨(h.2.2 k h1 h2).1, fun hk => ((h.2.2 k h1 h2).2 hk).imp _root_.id fun ⟨b, b1, b2, b3, b4⟩ => ?_⟩
      have := skip_ge (l := l) (p := b)
      have := b1.1
      exact ⟨b, b1, b2, by rw [hne _ (by omega)]; exact b3, by rw [hne _ (by omega)]; exact b4⟩
  · exact h
theorem RI_fold {l : List Item} {w : Int} {a : Nat} (hv : valid l) (hw : widthOk w) : ∀ (xs : List (Nat × Int × Int)) (R : List Rs), RI l w a R → (∀ x ∈ xs, x ∈ linesOf l w a) → RI l w a (xs.foldl (bstep l a) R)
  | [], R, h, _ => h
  | x :: xs, R, h, hm => RI_fold hv hw xs _ (RI_step hv hw h (hm x (by simp))) (fun y hy => hm y (by simp [hy]))

/-- The rows after j rounds. -/
def bestS (l : List Item) (w : Int) : Nat → List Rs
  | 0 => (List.replicate (l.length + 1) zeroRs).set l.length ⟨true, 0, 0, ⟨0, 0, 0⟩⟩
  | j + 1 => brnd l w (bestS l w j) (l.length - (j + 1))

theorem RI_rnd {l : List Item} {w : Int} {a : Nat} {R : List Rs} (hv : valid l) (hw : widthOk w) (h : RI l w (a + 1) R) (ha : a < l.length) : RI l w a (brnd l w R a) := by
  unfold brnd
  split
  · exact RI_fold hv hw _ _ (RI_down h ha) (fun _ h => h)
  · exact RI_down h ha
theorem RI_best {l : List Item} {w : Int} (hv : valid l) (hw : widthOk w) : ∀ j, j ≤ l.length → RI l w (l.length - j) (bestS l w j)
  | 0, _ => by
    refine ⟨by simp [bestS], fun k hk => ?_, fun k h1 h2 => ?_⟩
    · rw [bestS, nth_set_ne (by omega), nth_replicate (by omega)]
    · have e : k = l.length := by omega
      subst e
      rw [bestS, nth_set_self (by simp)]
      exact ⟨⟨by simp, by simp, by simp, by simp⟩, fun _ => .inl ⟨rfl, rfl, rfl⟩⟩
  | j + 1, h => by
    have ih := RI_best hv hw j (by omega)
    exact RI_rnd hv hw (by rw [show l.length - (j + 1) + 1 = l.length - j by omega]; exact ih) (by omega)

end Go.Proofs.Ytcammfdljiingaa

/-
  Break of the program, walked.
-/
set_option linter.unusedSimpArgs false
set_option linter.unusedVariables false
set_option maxHeartbeats 8000000
namespace Go.Proofs.Ytcammfdljiingaa
open Go Go.Abs

/-- The lines that the rows tell, from a start. -/
inductive Way (l : List Item) (R : List Rs) : Nat → List Ln → Prop
  | nil : Way l R l.length []
  | cons {a b : Nat} {n : Int} {bs : List Ln} : a < l.length → a < b → b ≤ l.length → (nth R a).f = ⟨a, b, n⟩ → Way l R (skip l b) bs → Way l R a (⟨a, b, n⟩ :: bs)

def breakP (l : List Item) (w : Int) (out : AVal) : Prop :=
  if widthOk w ∧ valid l then
    (if (nth (bestS l w l.length) (skip l 0)).ok = true then ∃ (bs : List Ln) (tk : Tok), Pt tk ∧ (tk = .nil ↔ bs = []) ∧ Way l (bestS l w l.length) (skip l 0) bs ∧ out = .tup [.sl (bs.map Ln.toA) tk, .int .i64 (nth (bestS l w l.length) (skip l 0)).cost, .int .i64 0]
     else out = .tup [.sl [] .nil, .int .i64 0, .int .i64 18])
  else out = .tup [.sl [] .nil, .int .i64 0, .int .i64 1]

def tokS : Tok → Tok
  | .own _ _ => .none
  | t => t
theorem strip_tkS (xs : List AVal) (tk : Tok) : strip (.sl xs tk) = some (.sl xs (tokS tk)) := by cases tk <;> rfl
theorem pu_tkS (h : Heap) (xs : List AVal) (tk : Tok) : purify h (.sl xs tk) = some (.sl xs (tokS tk)) := by cases tk <;> rfl
theorem tokS_nil {tk : Tok} : tokS tk = .nil ↔ tk = .nil := by cases tk <;> simp [tokS]

theorem break_v {l : List Item} {t : Tok} {w : Int} (ht : Pt t) (hl : l.length ≤ 512) : ∃ r, PV F 13 [.sl (items l) t, .int .i64 w] = some r ∧ breakP l w r := by
  suffices hs : CV F 13 [.sl (items l) t, .int .i64 w] Heap.empty (fun r h' => ∃ r', purify h' r = some r' ∧ breakP l w r') by
    obtain ⟨r, h', c, r', e1, e2⟩ := hs
    exact ⟨r', PV_of c e1, e2⟩
  obtain ⟨R0, hR0⟩ : ∃ R0, R0 = List.replicate (l.length + 1) zeroRs := ⟨_, rfl⟩
  obtain ⟨N, hN⟩ : ∃ N, N = l.length + 1 := ⟨_, rfl⟩
  have hN1 : ((l.length : Int) + 1).toNat = N := by omega
  have hrep : repl N [AVal.bool false, .int .i64 0, .int .i64 0, .int .i64 0, .int .i64 0, .int .i64 0] = flat (R0.map Rs.toA) := by
    rw [hN, hR0, ← repl_flat (f := Rs.toA) zeroRs rfl]; rfl
  have hlen0 : R0.length = l.length + 1 := by rw [hR0]; simp
  have hsto : ∀ H, storeG 6 1 (l.length * 6) (.agg [.bool true, .int .i64 0, .int .i64 0, .int .i64 0, .int .i64 0, .int .i64 0]) H (some (.row true 6 true (flat (R0.map Rs.toA)))) = some (H.put 1 (some (.row true 6 true (flat ((R0.set l.length ⟨true, 0, 0, ⟨0, 0, 0⟩⟩).map Rs.toA))))) := fun H =>
    storeG_flatw (f := Rs.toA) (sz := 6) (fun _ => rfl) R0 6 true ⟨true, 0, 0, ⟨0, 0, 0⟩⟩ (by omega) rfl
  have hR1 : R0.set l.length ⟨true, 0, 0, ⟨0, 0, 0⟩⟩ = bestS l w 0 := by rw [hR0]; rfl
  rw [hR1] at hsto
  refine CV_wp (fn := c13) rfl ?_
  dsimp only [c13]
  try simp (maxSteps := 4000000) (disch := first | assumption | omega | (simp only [push_next, put_next, empty_next, List.length_cons, List.length_nil] <;> omega) | exact _root_.id rfl | exact _root_.id (fun _ => rfl) | fail) only [↓pre, post, Int.reduceEq, Int.reduceLT, Int.reduceLE, Int.reduceAdd, Int.reduceSub, Int.reduceMul, Int.reduceNeg, Nat.reduceLT, Nat.reduceSub, Nat.reduceMul, Nat.reduceAdd, Nat.reduceLeDiff, reduceIte, reduceCtorEq, Nat.reduceEqDiff, ready_v, hrep, hsto, hN1]
  repeat' (first
    | (refine ifP_pos (by first | assumption | omega) ?_ <;> try simp (maxSteps := 4000000) (disch := first | assumption | omega | (simp only [push_next, put_next, empty_next, List.length_cons, List.length_nil] <;> omega) | exact _root_.id rfl | exact _root_.id (fun _ => rfl) | fail) only [↓pre, post, Int.reduceEq, Int.reduceLT, Int.reduceLE, Int.reduceAdd, Int.reduceSub, Int.reduceMul, Int.reduceNeg, Nat.reduceLT, Nat.reduceSub, Nat.reduceMul, Nat.reduceAdd, Nat.reduceLeDiff, reduceIte, reduceCtorEq, Nat.reduceEqDiff, ready_v, hrep, hsto, hN1])
    | (refine ifP_neg (by first | assumption | omega) ?_ <;> try simp (maxSteps := 4000000) (disch := first | assumption | omega | (simp only [push_next, put_next, empty_next, List.length_cons, List.length_nil] <;> omega) | exact _root_.id rfl | exact _root_.id (fun _ => rfl) | fail) only [↓pre, post, Int.reduceEq, Int.reduceLT, Int.reduceLE, Int.reduceAdd, Int.reduceSub, Int.reduceMul, Int.reduceNeg, Nat.reduceLT, Nat.reduceSub, Nat.reduceMul, Nat.reduceAdd, Nat.reduceLeDiff, reduceIte, reduceCtorEq, Nat.reduceEqDiff, ready_v, hrep, hsto, hN1])
    | (refine ifP_intro (fun hyp => ?_) (fun hyp => ?_) <;> first | simp (maxSteps := 4000000) (disch := first | assumption | omega | (simp only [push_next, put_next, empty_next, List.length_cons, List.length_nil] <;> omega) | exact _root_.id rfl | exact _root_.id (fun _ => rfl) | fail) only [↓pre, post, Int.reduceEq, Int.reduceLT, Int.reduceLE, Int.reduceAdd, Int.reduceSub, Int.reduceMul, Int.reduceNeg, Nat.reduceLT, Nat.reduceSub, Nat.reduceMul, Nat.reduceAdd, Nat.reduceLeDiff, reduceIte, reduceCtorEq, Nat.reduceEqDiff, ready_v, hrep, hsto, hN1, eq_false hyp] | simp (maxSteps := 4000000) (disch := first | assumption | omega | (simp only [push_next, put_next, empty_next, List.length_cons, List.length_nil] <;> omega) | exact _root_.id rfl | exact _root_.id (fun _ => rfl) | fail) only [↓pre, post, Int.reduceEq, Int.reduceLT, Int.reduceLE, Int.reduceAdd, Int.reduceSub, Int.reduceMul, Int.reduceNeg, Nat.reduceLT, Nat.reduceSub, Nat.reduceMul, Nat.reduceAdd, Nat.reduceLeDiff, reduceIte, reduceCtorEq, Nat.reduceEqDiff, ready_v, hrep, hsto, hN1, eq_true hyp] | skip))
  · have hv : valid l := hyp.2
    have hw : widthOk w := hyp.1
    have hl1 := hv.1
    have hRI := RI_best hv hw l.length (Nat.le_refl _)
    rw [Nat.sub_self] at hRI
    clear hrep hN1
    subst hN
    refine w_loop (fun m vs h1 => ∃ (p r8 : Nat) (z : Int) (x9 x10 x11 x12 x13 x14 x15 x16 x17 x18 : AVal), m = p ∧ z = (p : Int) - 1 ∧ p ≤ l.length ∧ BI l t (bestS l w (l.length - p)) h1 ∧ h1.get r8 = some (.row true (typed 3) false [.int .i64 z]) ∧ 3 ≤ r8 ∧
      vs = [.sl (items l) t, .int .i64 w, .ptr 0 0, .sl [] .nil, .int .i64 0, .int .i64 0, .int .i64 l.length, .ptr 2 0, .ptr r8 0, x9, x10, x11, x12, x13, x14, x15, x16, x17, x18]) l.length
      ⟨l.length, 3, (l.length : Int) - 1, _, _, _, _, _, _, _, _, _, _, rfl, rfl, by omega, by rw [Nat.sub_self]; exact ⟨by simp [bestS], rfl, rfl, rfl⟩, get_push _ _, by omega, rfl⟩ ?_
    rintro p vs h1 ⟨_, r8, z, x9, x10, x11, x12, x13, x14, x15, x16, x17, x18, rfl, hz, hp, hB, hr8, hr3, rfl⟩
    have i0 := hB.2.1
    have i2 := hB.2.2.2
    have hz1 : z.toNat = p - 1 := by omega
    have hst : 0 < p → PV F 34 [.sl (items l) t, .int .i64 z] = some (.bool (decide (starts l (p - 1)))) := fun h => by rw [← hz1]; exact starts_v (by omega) (by omega) (by omega)
    have hst1 : PV F 37 [.sl (items l) t, .int .i64 (-1)] = some (.int .i64 (skip l 0)) := start_v 0 rfl (by omega) (by omega)
    have hs0 : skip l 0 ≤ l.length := skip_le (by omega)
    have hRl := hB.1
    have L0 : loadG 1 false (skip l 0 * 6) (h1.get 1) = some (.bool (nth (bestS l w (l.length - p)) (skip l 0)).ok) := by
      rw [hB.2.2.1, loadG_flat0 (f := Rs.toA) (sz := 6) (fun _ => rfl) _ false true 6 true (by omega) (by omega)]; rfl
    have L1 : loadG 1 false (skip l 0 * 6 + 1) (h1.get 1) = some (.int .i64 (nth (bestS l w (l.length - p)) (skip l 0)).cost) := by
      rw [hB.2.2.1, loadG_flat (f := Rs.toA) (fun _ => rfl) _ false true 6 true (by omega) (by omega)]; rfl
    try simp (maxSteps := 4000000) (disch := first | assumption | omega | (simp only [push_next, put_next, empty_next, List.length_cons, List.length_nil] <;> omega) | exact _root_.id rfl | exact _root_.id (fun _ => rfl) | fail) only [↓pre, post, Int.reduceEq, Int.reduceLT, Int.reduceLE, Int.reduceAdd, Int.reduceSub, Int.reduceMul, Int.reduceNeg, Nat.reduceLT, Nat.reduceSub, Nat.reduceMul, Nat.reduceAdd, Nat.reduceLeDiff, reduceIte, reduceCtorEq, Nat.reduceEqDiff, i0, i2, hr8, hst, hst1, L0, L1]
    repeat' (first
      | (refine ifP_pos (by first | assumption | omega) ?_ <;> try simp (maxSteps := 4000000) (disch := first | assumption | omega | (simp only [push_next, put_next, empty_next, List.length_cons, List.length_nil] <;> omega) | exact _root_.id rfl | exact _root_.id (fun _ => rfl) | fail) only [↓pre, post, Int.reduceEq, Int.reduceLT, Int.reduceLE, Int.reduceAdd, Int.reduceSub, Int.reduceMul, Int.reduceNeg, Nat.reduceLT, Nat.reduceSub, Nat.reduceMul, Nat.reduceAdd, Nat.reduceLeDiff, reduceIte, reduceCtorEq, Nat.reduceEqDiff, i0, i2, hr8, hst, hst1, L0, L1])
      | (refine ifP_neg (by first | assumption | omega) ?_ <;> try simp (maxSteps := 4000000) (disch := first | assumption | omega | (simp only [push_next, put_next, empty_next, List.length_cons, List.length_nil] <;> omega) | exact _root_.id rfl | exact _root_.id (fun _ => rfl) | fail) only [↓pre, post, Int.reduceEq, Int.reduceLT, Int.reduceLE, Int.reduceAdd, Int.reduceSub, Int.reduceMul, Int.reduceNeg, Nat.reduceLT, Nat.reduceSub, Nat.reduceMul, Nat.reduceAdd, Nat.reduceLeDiff, reduceIte, reduceCtorEq, Nat.reduceEqDiff, i0, i2, hr8, hst, hst1, L0, L1])
      | (refine ifP_intro (fun hyp => ?_) (fun hyp => ?_) <;> first | simp (maxSteps := 4000000) (disch := first | assumption | omega | (simp only [push_next, put_next, empty_next, List.length_cons, List.length_nil] <;> omega) | exact _root_.id rfl | exact _root_.id (fun _ => rfl) | fail) only [↓pre, post, Int.reduceEq, Int.reduceLT, Int.reduceLE, Int.reduceAdd, Int.reduceSub, Int.reduceMul, Int.reduceNeg, Nat.reduceLT, Nat.reduceSub, Nat.reduceMul, Nat.reduceAdd, Nat.reduceLeDiff, reduceIte, reduceCtorEq, Nat.reduceEqDiff, i0, i2, hr8, hst, hst1, L0, L1, eq_false hyp] | simp (maxSteps := 4000000) (disch := first | assumption | omega | (simp only [push_next, put_next, empty_next, List.length_cons, List.length_nil] <;> omega) | exact _root_.id rfl | exact _root_.id (fun _ => rfl) | fail) only [↓pre, post, Int.reduceEq, Int.reduceLT, Int.reduceLE, Int.reduceAdd, Int.reduceSub, Int.reduceMul, Int.reduceNeg, Nat.reduceLT, Nat.reduceSub, Nat.reduceMul, Nat.reduceAdd, Nat.reduceLeDiff, reduceIte, reduceCtorEq, Nat.reduceEqDiff, i0, i2, hr8, hst, hst1, L0, L1, eq_true hyp] | skip))
    · have hp0 : 0 < p := by omega
      have ez : z = ((p - 1 : Nat) : Int) := by omega
      rw [ez] at hr8 ⊢
      have hRp := RI_best hv hw (l.length - p) (by omega)
      rw [show l.length - (l.length - p) = p by omega] at hRp
      have hRp' : RI l w (p - 1) (bestS l w (l.length - p)) := RI_down (by rw [show p - 1 + 1 = p by omega]; exact hRp) (by omega)
      have hsc := scan_lines (w := w) hv hyp
      refine CV_mono (lines_c (a := p - 1) hv hw (by omega) (· = 1) (fun j hj => by have := get_lt hr8; omega)
        (fun d h3 => BI l t (d.foldl (bstep l (p - 1)) (bestS l w (l.length - p))) h3 ∧ h3.get r8 = some (.row true (typed 3) false [.int .i64 ((p - 1 : Nat) : Int)]))
        (fun d h3 o i => ⟨i.1.push, get_push_old i.2⟩)
        (fun d x rest h3 e i f => ?_) ⟨hB, hr8⟩) ?_
      · have hm : ∀ y ∈ d ++ x :: rest, y ∈ linesOf l w (p - 1) := by rw [← e, hsc]; exact fun _ h => h
        have hx := mem_linesOf (hm x (by simp))
        have hRd := RI_fold hv hw d _ hRp' (fun y hy => hm y (by simp [hy]))
        have hcb := cost_bound hv hw hx.1
        rw [← hx.2.2] at hcb
        have hxa := hx.1.1
        have hb1 := (hRd.2.2 (skip l x.1) (by have := skip_ge (l := l) (p := x.1); omega) (skip_le hx.1.2.1)).1
        refine CV_mono (break1_c ht (by omega) i.1 i.2 hr3 (by omega) (by omega) hx.1.2.1 hcb.1 hcb.2 ⟨hb1.1, by omega⟩ ⟨hb1.2.2.1, by omega⟩) ?_
        rintro r h4 ⟨k1, k2⟩
        exact ⟨⟨by rw [List.foldl_append]; exact k1, k2.get i.2 (by omega)⟩, k2⟩
      · rintro r h3 ⟨rfl, ⟨j1, j2⟩, f⟩
        rw [hsc] at j1
        have e1 : (linesOf l w (p - 1)).foldl (bstep l (p - 1)) (bestS l w (l.length - p)) = bestS l w (l.length - (p - 1)) := by
          rw [show l.length - (p - 1) = l.length - p + 1 by omega, bestS, brnd, show l.length - (l.length - p + 1) = p - 1 by omega, if_pos hyp]
        rw [e1] at j1
        have hlt := get_lt j2
        try simp (maxSteps := 4000000) (disch := first | assumption | omega | (simp only [push_next, put_next, empty_next, List.length_cons, List.length_nil] <;> omega) | exact _root_.id rfl | exact _root_.id (fun _ => rfl) | fail) only [↓pre, post, Int.reduceEq, Int.reduceLT, Int.reduceLE, Int.reduceAdd, Int.reduceSub, Int.reduceMul, Int.reduceNeg, Nat.reduceLT, Nat.reduceSub, Nat.reduceMul, Nat.reduceAdd, Nat.reduceLeDiff, reduceIte, reduceCtorEq, Nat.reduceEqDiff, j2]
        repeat' (first
          | (refine ifP_pos (by first | assumption | omega) ?_ <;> try simp (maxSteps := 4000000) (disch := first | assumption | omega | (simp only [push_next, put_next, empty_next, List.length_cons, List.length_nil] <;> omega) | exact _root_.id rfl | exact _root_.id (fun _ => rfl) | fail) only [↓pre, post, Int.reduceEq, Int.reduceLT, Int.reduceLE, Int.reduceAdd, Int.reduceSub, Int.reduceMul, Int.reduceNeg, Nat.reduceLT, Nat.reduceSub, Nat.reduceMul, Nat.reduceAdd, Nat.reduceLeDiff, reduceIte, reduceCtorEq, Nat.reduceEqDiff, j2])
          | (refine ifP_neg (by first | assumption | omega) ?_ <;> try simp (maxSteps := 4000000) (disch := first | assumption | omega | (simp only [push_next, put_next, empty_next, List.length_cons, List.length_nil] <;> omega) | exact _root_.id rfl | exact _root_.id (fun _ => rfl) | fail) only [↓pre, post, Int.reduceEq, Int.reduceLT, Int.reduceLE, Int.reduceAdd, Int.reduceSub, Int.reduceMul, Int.reduceNeg, Nat.reduceLT, Nat.reduceSub, Nat.reduceMul, Nat.reduceAdd, Nat.reduceLeDiff, reduceIte, reduceCtorEq, Nat.reduceEqDiff, j2])
          | (refine ifP_intro (fun hyp => ?_) (fun hyp => ?_) <;> first | simp (maxSteps := 4000000) (disch := first | assumption | omega | (simp only [push_next, put_next, empty_next, List.length_cons, List.length_nil] <;> omega) | exact _root_.id rfl | exact _root_.id (fun _ => rfl) | fail) only [↓pre, post, Int.reduceEq, Int.reduceLT, Int.reduceLE, Int.reduceAdd, Int.reduceSub, Int.reduceMul, Int.reduceNeg, Nat.reduceLT, Nat.reduceSub, Nat.reduceMul, Nat.reduceAdd, Nat.reduceLeDiff, reduceIte, reduceCtorEq, Nat.reduceEqDiff, j2, eq_false hyp] | simp (maxSteps := 4000000) (disch := first | assumption | omega | (simp only [push_next, put_next, empty_next, List.length_cons, List.length_nil] <;> omega) | exact _root_.id rfl | exact _root_.id (fun _ => rfl) | fail) only [↓pre, post, Int.reduceEq, Int.reduceLT, Int.reduceLE, Int.reduceAdd, Int.reduceSub, Int.reduceMul, Int.reduceNeg, Nat.reduceLT, Nat.reduceSub, Nat.reduceMul, Nat.reduceAdd, Nat.reduceLeDiff, reduceIte, reduceCtorEq, Nat.reduceEqDiff, j2, eq_true hyp] | skip))
        exact lp_n ⟨p - 1, by omega, p - 1, h3.next, _, _, _, _, _, _, _, _, _, _, _, rfl, rfl, by omega, j1.push, get_push _ _, by omega, rfl⟩
    · have hlt := get_lt hr8
      have e1 : bestS l w (l.length - p) = bestS l w (l.length - (p - 1)) := by
        rw [show l.length - (p - 1) = l.length - p + 1 by omega, bestS, brnd, show l.length - (l.length - p + 1) = p - 1 by omega, if_neg hyp]
      rw [e1] at hB
      exact lp_n ⟨p - 1, by omega, p - 1, h1.next, _, _, _, _, _, _, _, _, _, _, _, rfl, by omega, by omega, hB.push, get_push _ _, by omega, rfl⟩
    · have hp0 : p = 0 := by omega
      subst hp0
      rw [Nat.sub_zero] at hyp hB
      simp only [Nat.sub_zero]
      generalize hR : bestS l w l.length = R at *
      have hlt := get_lt hr8
      refine w_loop (fun m vs h2 => ∃ (a : Nat) (bs : List Ln) (tk : Tok) (x12 x13 x14 x15 x16 x17 x18 : AVal), m = l.length - a ∧ a ≤ l.length ∧ (nth R a).ok = true ∧ (∀ cs, Way l R a cs → Way l R (skip l 0) (bs ++ cs)) ∧ BI l t R h2 ∧ Grow h2 41 3 tk ∧ (tk = .nil ↔ bs = []) ∧ bs.length ≤ a ∧ 3 ≤ h2.next ∧
        vs = [.sl (items l) t, .int .i64 w, .ptr 0 0, .sl [] .nil, .int .i64 0, .int .i64 0, .int .i64 l.length, .ptr 2 0, .ptr r8 0, .int .i64 a, .int .i64 (nth R (skip l 0)).cost, .sl (bs.map Ln.toA) tk, x12, x13, x14, x15, x16, x17, x18]) (l.length - skip l 0)
        ⟨skip l 0, [], .nil, _, _, _, _, _, _, _, rfl, hs0, hyp, fun _ h => h, hB, .inl rfl, by simp, by simp, by omega, rfl⟩ ?_
      rintro m vs h2 ⟨a, bs, tk, x12, x13, x14, x15, x16, x17, x18, rfl, ha, hok, hway, hB2, hg, hnil, hbl, hn2, rfl⟩
      have j0 := hB2.2.1
      have j2 := hB2.2.2.2
      have hro := (hRI.2.2 a (by omega) ha).2 hok
      have Lf : loadG 3 true (a * 6 + 3) (h2.get 1) = some (.agg [.int .i64 (nth R a).f.a, .int .i64 (nth R a).f.b, .int .i64 (nth R a).f.n]) := by
        rw [hB2.2.2.1, loadG_flat (f := Rs.toA) (fun _ => rfl) _ true true 6 true (by omega) (by omega)]; rfl
      try simp (maxSteps := 4000000) (disch := first | assumption | omega | (simp only [push_next, put_next, empty_next, List.length_cons, List.length_nil] <;> omega) | exact _root_.id rfl | exact _root_.id (fun _ => rfl) | fail) only [↓pre, post, Int.reduceEq, Int.reduceLT, Int.reduceLE, Int.reduceAdd, Int.reduceSub, Int.reduceMul, Int.reduceNeg, Nat.reduceLT, Nat.reduceSub, Nat.reduceMul, Nat.reduceAdd, Nat.reduceLeDiff, reduceIte, reduceCtorEq, Nat.reduceEqDiff, j0, j2, Lf, strip_tkS]
      repeat' (first
        | (refine ifP_pos (by first | assumption | omega) ?_ <;> try simp (maxSteps := 4000000) (disch := first | assumption | omega | (simp only [push_next, put_next, empty_next, List.length_cons, List.length_nil] <;> omega) | exact _root_.id rfl | exact _root_.id (fun _ => rfl) | fail) only [↓pre, post, Int.reduceEq, Int.reduceLT, Int.reduceLE, Int.reduceAdd, Int.reduceSub, Int.reduceMul, Int.reduceNeg, Nat.reduceLT, Nat.reduceSub, Nat.reduceMul, Nat.reduceAdd, Nat.reduceLeDiff, reduceIte, reduceCtorEq, Nat.reduceEqDiff, j0, j2, Lf, strip_tkS])
        | (refine ifP_neg (by first | assumption | omega) ?_ <;> try simp (maxSteps := 4000000) (disch := first | assumption | omega | (simp only [push_next, put_next, empty_next, List.length_cons, List.length_nil] <;> omega) | exact _root_.id rfl | exact _root_.id (fun _ => rfl) | fail) only [↓pre, post, Int.reduceEq, Int.reduceLT, Int.reduceLE, Int.reduceAdd, Int.reduceSub, Int.reduceMul, Int.reduceNeg, Nat.reduceLT, Nat.reduceSub, Nat.reduceMul, Nat.reduceAdd, Nat.reduceLeDiff, reduceIte, reduceCtorEq, Nat.reduceEqDiff, j0, j2, Lf, strip_tkS])
        | (refine ifP_intro (fun hyp => ?_) (fun hyp => ?_) <;> first | simp (maxSteps := 4000000) (disch := first | assumption | omega | (simp only [push_next, put_next, empty_next, List.length_cons, List.length_nil] <;> omega) | exact _root_.id rfl | exact _root_.id (fun _ => rfl) | fail) only [↓pre, post, Int.reduceEq, Int.reduceLT, Int.reduceLE, Int.reduceAdd, Int.reduceSub, Int.reduceMul, Int.reduceNeg, Nat.reduceLT, Nat.reduceSub, Nat.reduceMul, Nat.reduceAdd, Nat.reduceLeDiff, reduceIte, reduceCtorEq, Nat.reduceEqDiff, j0, j2, Lf, strip_tkS, eq_false hyp] | simp (maxSteps := 4000000) (disch := first | assumption | omega | (simp only [push_next, put_next, empty_next, List.length_cons, List.length_nil] <;> omega) | exact _root_.id rfl | exact _root_.id (fun _ => rfl) | fail) only [↓pre, post, Int.reduceEq, Int.reduceLT, Int.reduceLE, Int.reduceAdd, Int.reduceSub, Int.reduceMul, Int.reduceNeg, Nat.reduceLT, Nat.reduceSub, Nat.reduceMul, Nat.reduceAdd, Nat.reduceLeDiff, reduceIte, reduceCtorEq, Nat.reduceEqDiff, j0, j2, Lf, strip_tkS, eq_true hyp] | skip))
      · have hal : a < l.length := by omega
        obtain ⟨b, b1, b2, b3, _⟩ := hro.resolve_left (fun h => by omega)
        have hsb := skip_le (l := l) (p := b) b1.2.1
        have hge := skip_ge (l := l) (p := b)
        have hab := b1.1
        have hbl2 := b1.2.1
        simp only [b2]
        refine append_K (f := Ln.toA) (tk := tk) bs [⟨(a : Nat), (b : Nat), natS l a b⟩] (fun _ => rfl) (fun _ => rfl) (fun _ => rfl) rfl rfl (hg.elim .inl fun ⟨id, e, g⟩ => .inr ⟨id, e, get_push_old g⟩) hnil (by simp; omega) (by omega) (by omega) (by omega) ?_
        intro h3 tk3 g3 n3 le3 k3 _ _
        have r3 := k3 _ _ _ _ _ (get_push h2 _)
        have q0 := k3 _ _ _ _ _ (get_push_old j0)
        have q1 := k3 _ _ _ _ _ (get_push_old hB2.2.2.1)
        have q2 := k3 _ _ _ _ _ (get_push_old j2)
        have hst2 : PV F 37 [.sl (items l) t, .int .i64 ((b : Int) - 1)] = some (.int .i64 (skip l b)) := start_v b rfl (by omega) (by omega)
        rw [push_next] at le3
        try simp (maxSteps := 4000000) (disch := first | assumption | omega | (simp only [push_next, put_next, empty_next, List.length_cons, List.length_nil] <;> omega) | exact _root_.id rfl | exact _root_.id (fun _ => rfl) | fail) only [↓pre, post, Int.reduceEq, Int.reduceLT, Int.reduceLE, Int.reduceAdd, Int.reduceSub, Int.reduceMul, Int.reduceNeg, Nat.reduceLT, Nat.reduceSub, Nat.reduceMul, Nat.reduceAdd, Nat.reduceLeDiff, reduceIte, reduceCtorEq, Nat.reduceEqDiff, r3, q0, q2, hst2]
        repeat' (first
          | (refine ifP_pos (by first | assumption | omega) ?_ <;> try simp (maxSteps := 4000000) (disch := first | assumption | omega | (simp only [push_next, put_next, empty_next, List.length_cons, List.length_nil] <;> omega) | exact _root_.id rfl | exact _root_.id (fun _ => rfl) | fail) only [↓pre, post, Int.reduceEq, Int.reduceLT, Int.reduceLE, Int.reduceAdd, Int.reduceSub, Int.reduceMul, Int.reduceNeg, Nat.reduceLT, Nat.reduceSub, Nat.reduceMul, Nat.reduceAdd, Nat.reduceLeDiff, reduceIte, reduceCtorEq, Nat.reduceEqDiff, r3, q0, q2, hst2])
          | (refine ifP_neg (by first | assumption | omega) ?_ <;> try simp (maxSteps := 4000000) (disch := first | assumption | omega | (simp only [push_next, put_next, empty_next, List.length_cons, List.length_nil] <;> omega) | exact _root_.id rfl | exact _root_.id (fun _ => rfl) | fail) only [↓pre, post, Int.reduceEq, Int.reduceLT, Int.reduceLE, Int.reduceAdd, Int.reduceSub, Int.reduceMul, Int.reduceNeg, Nat.reduceLT, Nat.reduceSub, Nat.reduceMul, Nat.reduceAdd, Nat.reduceLeDiff, reduceIte, reduceCtorEq, Nat.reduceEqDiff, r3, q0, q2, hst2])
          | (refine ifP_intro (fun hyp => ?_) (fun hyp => ?_) <;> first | simp (maxSteps := 4000000) (disch := first | assumption | omega | (simp only [push_next, put_next, empty_next, List.length_cons, List.length_nil] <;> omega) | exact _root_.id rfl | exact _root_.id (fun _ => rfl) | fail) only [↓pre, post, Int.reduceEq, Int.reduceLT, Int.reduceLE, Int.reduceAdd, Int.reduceSub, Int.reduceMul, Int.reduceNeg, Nat.reduceLT, Nat.reduceSub, Nat.reduceMul, Nat.reduceAdd, Nat.reduceLeDiff, reduceIte, reduceCtorEq, Nat.reduceEqDiff, r3, q0, q2, hst2, eq_false hyp] | simp (maxSteps := 4000000) (disch := first | assumption | omega | (simp only [push_next, put_next, empty_next, List.length_cons, List.length_nil] <;> omega) | exact _root_.id rfl | exact _root_.id (fun _ => rfl) | fail) only [↓pre, post, Int.reduceEq, Int.reduceLT, Int.reduceLE, Int.reduceAdd, Int.reduceSub, Int.reduceMul, Int.reduceNeg, Nat.reduceLT, Nat.reduceSub, Nat.reduceMul, Nat.reduceAdd, Nat.reduceLeDiff, reduceIte, reduceCtorEq, Nat.reduceEqDiff, r3, q0, q2, hst2, eq_true hyp] | skip))
        exact lp_n ⟨l.length - skip l b, by omega, skip l b, bs ++ [_], tk3, _, _, _, _, _, _, _, rfl, hsb, b3, fun cs h => by rw [List.append_assoc]; exact hway _ (.cons hal hab hbl2 b2 h), ⟨hB2.1, q0, q1, q2⟩, g3, by simpa using n3, by simp; omega, by omega, rfl⟩
      · have e : a = l.length := by omega
        have hwy := hway [] (by rw [e]; exact .nil)
        rw [List.append_nil] at hwy
        refine ⟨.tup [.sl (bs.map Ln.toA) (tokS tk), .int .i64 (nth R (skip l 0)).cost, .int .i64 0], ?_, ?_⟩
        · rw [pu_tkS]; rfl
        · rw [breakP, if_pos ⟨hw, hv⟩, hR, if_pos (by assumption)]
          exact ⟨bs, tokS tk, hg.elim (fun e => .inr (by rw [e]; rfl)) (fun ⟨id, e, _⟩ => .inl (by rw [e]; rfl)), tokS_nil.trans hnil, hwy, rfl⟩
    · have hp0 : p = 0 := by omega
      subst hp0
      rw [Nat.sub_zero] at hyp
      rw [breakP, if_pos ⟨hw, hv⟩, if_neg hyp]
  · rw [breakP, if_neg hyp]

end Go.Proofs.Ytcammfdljiingaa

/-
  The sum of lines on both sides.
-/
set_option linter.unusedSimpArgs false
set_option linter.unusedVariables false
set_option maxHeartbeats 8000000
namespace Go.Proofs.Ytcammfdljiingaa
open Go Go.Abs

/-- Whether a line follows a break. -/
def fits (l : List Item) (w : Int) (p : Nat) (x : Ln) : Prop := p < l.length ∧ x.a = skip l p ∧ 0 ≤ x.b ∧ lineOk l w (skip l p) x.b.toNat ∧ x.n = natS l (skip l p) x.b.toNat
instance (l : List Item) (w : Int) (p : Nat) (x : Ln) : Decidable (fits l w p x) := by unfold fits; infer_instance
def sumF (l : List Item) (w : Int) : Nat → Int → List Ln → Option (Nat × Int)
  | p, s, [] => some (p, s)
  | p, s, x :: xs => if fits l w p x then sumF l w x.b.toNat (s + costN l w (skip l p) x.b.toNat) xs else none

def lastX (x : Ln) (a : Nat) (d : List (Nat × Int × Int)) : Int := d.foldl (fun c y => if x = ⟨a, y.1, y.2.1⟩ then y.2.2 else c) (-1)

theorem lastX_range (l : List Item) (w : Int) (a : Nat) (x : Ln) (hx : x.a = a) : ∀ (k s : Nat) (c : Int), ((List.range' s k).filterMap (lineAt l w a)).foldl (fun c (y : Nat × Int × Int) => if x = ⟨a, y.1, y.2.1⟩ then y.2.2 else c) c =
    if (s : Int) ≤ x.b ∧ x.b < s + k ∧ lineOk l w a x.b.toNat ∧ x.n = natS l a x.b.toNat then costN l w a x.b.toNat else c
  | 0, s, c => by rw [if_neg (by omega)]; rfl
  | k + 1, s, c => by
    rw [List.range'_succ, List.filterMap_cons]
    have ih := lastX_range l w a x hx k (s + 1)
    by_cases hl : lineOk l w a s
    · rw [lineAt, if_pos hl]
      simp only [List.foldl_cons]
      rw [ih]
      by_cases hs : (s : Int) = x.b
      · have hsn : x.b.toNat = s := by omega
        by_cases hn : x.n = natS l a s
        · have e : x = ⟨(a : Int), (s : Int), natS l a s⟩ := by cases x; simp_all
          rw [if_pos e, if_neg (by omega), if_pos ⟨by omega, by omega, by rw [hsn]; exact hl, by rw [hsn]; exact hn⟩, hsn]
        · have e : x ≠ ⟨(a : Int), (s : Int), natS l a s⟩ := fun e => hn (by rw [e])
          rw [if_neg e, if_neg (by omega), if_neg (fun h => hn (by rw [← hsn]; exact h.2.2.2))]
      · have e : x ≠ ⟨(a : Int), (s : Int), natS l a s⟩ := fun e => hs (by rw [e])
        rw [if_neg e]
        by_cases hc : ((s + 1 : Nat) : Int) ≤ x.b ∧ x.b < ((s + 1 : Nat) : Int) + k ∧ lineOk l w a x.b.toNat ∧ x.n = natS l a x.b.toNat
        · rw [if_pos hc, if_pos ⟨by omega, by omega, hc.2.2⟩]
        · rw [if_neg hc, if_neg (fun h => hc ⟨by omega, by omega, h.2.2⟩)]
    · rw [lineAt, if_neg hl]
      simp only
      rw [ih]
      by_cases hc : ((s + 1 : Nat) : Int) ≤ x.b ∧ x.b < ((s + 1 : Nat) : Int) + k ∧ lineOk l w a x.b.toNat ∧ x.n = natS l a x.b.toNat
      · rw [if_pos hc, if_pos ⟨by omega, by omega, hc.2.2⟩]
      · rw [if_neg hc, if_neg]
        intro h
        by_cases hs : (s : Int) = x.b
        · have hsn : x.b.toNat = s := by omega
          exact hl (by rw [← hsn]; exact h.2.2.1)
        · exact hc ⟨by omega, by omega, h.2.2⟩

theorem lastX_fits {l : List Item} {w : Int} {p : Nat} {x : Ln} (hp : p < l.length) (hx : x.a = skip l p) : lastX x (skip l p) (linesAt l w p) = if fits l w p x then costN l w (skip l p) x.b.toNat else -1 := by
  rw [lastX, linesAt, linesOf, lastX_range l w _ x hx]
  by_cases h : fits l w p x
  · obtain ⟨h1, h2, h3, h4, h5⟩ := h
    have h6 := h4.1
    have h7 := h4.2.1
    rw [if_pos ⟨by omega, by omega, h4, h5⟩, if_pos ⟨h1, h2, h3, h4, h5⟩]
  · rw [if_neg h, if_neg]
    rintro ⟨h1, h2, h3, h4⟩
    exact h ⟨hp, hx, by omega, h3, h4⟩

theorem sum1_c {a i j : Nat} {y : Nat × Int × Int} {x : Ln} {c : Int} {h : Heap} (h0 : h.get i = some (.row true (typed 41) true x.toA.cells)) (h1 : h.get j = some (.row true (typed 3) false [.int .i64 c])) (hij : i ≠ j) :
    CV F 57 ([lineA a y, .int .i64 y.2.2] ++ [.ptr i 0, .ptr j 0]) h (fun _ h2 => h2.get i = some (.row true (typed 41) true x.toA.cells) ∧ h2.get j = some (.row true (typed 3) false [.int .i64 (if x = ⟨a, y.1, y.2.1⟩ then y.2.2 else c)]) ∧ Fr (· = j) h h2) := by
  have hi := get_lt h0
  have hj := get_lt h1
  have h1' : ∀ o, (h.put j o).get j = o := fun o => get_put_old h1
  have h0' : ∀ o, (h.put j o).get i = some (.row true (typed 41) true x.toA.cells) := fun o => by rw [get_put_ne hij]; exact h0
  have e0 : Ln.toA x = .agg [.int .i64 x.a, .int .i64 x.b, .int .i64 x.n] := rfl
  rw [e0, cells_agg] at h0 h0'
  refine CV_wp (fn := c57) rfl ?_
  dsimp only [c57, lineA]
  try simp (maxSteps := 4000000) (disch := first | assumption | omega | (simp only [push_next, put_next, empty_next, List.length_cons, List.length_nil] <;> omega) | exact _root_.id rfl | exact _root_.id (fun _ => rfl) | fail) only [↓pre, post, Int.reduceEq, Int.reduceLT, Int.reduceLE, Int.reduceAdd, Int.reduceSub, Int.reduceMul, Int.reduceNeg, Nat.reduceLT, Nat.reduceSub, Nat.reduceMul, Nat.reduceAdd, Nat.reduceLeDiff, reduceIte, reduceCtorEq, Nat.reduceEqDiff, h0, h1, h1', h0', cellsEq3, e0]
  repeat' (first
    | (refine ifP_pos (by first | assumption | omega) ?_ <;> try simp (maxSteps := 4000000) (disch := first | assumption | omega | (simp only [push_next, put_next, empty_next, List.length_cons, List.length_nil] <;> omega) | exact _root_.id rfl | exact _root_.id (fun _ => rfl) | fail) only [↓pre, post, Int.reduceEq, Int.reduceLT, Int.reduceLE, Int.reduceAdd, Int.reduceSub, Int.reduceMul, Int.reduceNeg, Nat.reduceLT, Nat.reduceSub, Nat.reduceMul, Nat.reduceAdd, Nat.reduceLeDiff, reduceIte, reduceCtorEq, Nat.reduceEqDiff, h0, h1, h1', h0', cellsEq3, e0])
    | (refine ifP_neg (by first | assumption | omega) ?_ <;> try simp (maxSteps := 4000000) (disch := first | assumption | omega | (simp only [push_next, put_next, empty_next, List.length_cons, List.length_nil] <;> omega) | exact _root_.id rfl | exact _root_.id (fun _ => rfl) | fail) only [↓pre, post, Int.reduceEq, Int.reduceLT, Int.reduceLE, Int.reduceAdd, Int.reduceSub, Int.reduceMul, Int.reduceNeg, Nat.reduceLT, Nat.reduceSub, Nat.reduceMul, Nat.reduceAdd, Nat.reduceLeDiff, reduceIte, reduceCtorEq, Nat.reduceEqDiff, h0, h1, h1', h0', cellsEq3, e0])
    | (refine ifP_intro (fun hyp => ?_) (fun hyp => ?_) <;> first | simp (maxSteps := 4000000) (disch := first | assumption | omega | (simp only [push_next, put_next, empty_next, List.length_cons, List.length_nil] <;> omega) | exact _root_.id rfl | exact _root_.id (fun _ => rfl) | fail) only [↓pre, post, Int.reduceEq, Int.reduceLT, Int.reduceLE, Int.reduceAdd, Int.reduceSub, Int.reduceMul, Int.reduceNeg, Nat.reduceLT, Nat.reduceSub, Nat.reduceMul, Nat.reduceAdd, Nat.reduceLeDiff, reduceIte, reduceCtorEq, Nat.reduceEqDiff, h0, h1, h1', h0', cellsEq3, e0, eq_false hyp] | simp (maxSteps := 4000000) (disch := first | assumption | omega | (simp only [push_next, put_next, empty_next, List.length_cons, List.length_nil] <;> omega) | exact _root_.id rfl | exact _root_.id (fun _ => rfl) | fail) only [↓pre, post, Int.reduceEq, Int.reduceLT, Int.reduceLE, Int.reduceAdd, Int.reduceSub, Int.reduceMul, Int.reduceNeg, Nat.reduceLT, Nat.reduceSub, Nat.reduceMul, Nat.reduceAdd, Nat.reduceLeDiff, reduceIte, reduceCtorEq, Nat.reduceEqDiff, h0, h1, h1', h0', cellsEq3, e0, eq_true hyp] | skip))
  · have e : x = ⟨(a : Int), (y.1 : Int), y.2.1⟩ := by cases x; simp_all
    rw [if_pos e]
    exact ⟨rfl, (Fr.put (S := (· = j)) (Fr.refl _ _) (.inl rfl) _).push _⟩
  · have e : x ≠ ⟨(a : Int), (y.1 : Int), y.2.1⟩ := fun e => hyp (by rw [e]; exact ⟨rfl, rfl, rfl⟩)
    rw [if_neg e]
    exact ⟨rfl, (Fr.refl _ _).push _⟩

theorem sum_v {l : List Item} {t t2 : Tok} {w : Int} {ls : List Ln} (ht : Pt t) (ht2 : Pt t2) (hv : valid l) (hw : widthOk w) (hls : ls.length ≤ 100000) (hi : ∀ x ∈ ls, i64 x.b) :
    PV F 44 [.sl (items l) t, .int .i64 w, .sl (ls.map Ln.toA) t2] = some (.int .i64 (match sumF l w 0 0 ls with | some (p, s) => if p < l.length then -1 else s | none => -1)) := by
  have hl := hv.2.1
  have hl1 := hv.1
  refine PV_wp (fn := c44) rfl ?_
  dsimp only [c44]
  try simp (maxSteps := 4000000) (disch := first | assumption | omega | (simp only [push_next, put_next, empty_next, List.length_cons, List.length_nil] <;> omega) | exact _root_.id rfl | exact _root_.id (fun _ => rfl) | fail) only [↓pre, post, Int.reduceEq, Int.reduceLT, Int.reduceLE, Int.reduceAdd, Int.reduceSub, Int.reduceMul, Int.reduceNeg, Nat.reduceLT, Nat.reduceSub, Nat.reduceMul, Nat.reduceAdd, Nat.reduceLeDiff, reduceIte, reduceCtorEq, Nat.reduceEqDiff]
  repeat' (first
    | (refine ifP_pos (by first | assumption | omega) ?_ <;> try simp (maxSteps := 4000000) (disch := first | assumption | omega | (simp only [push_next, put_next, empty_next, List.length_cons, List.length_nil] <;> omega) | exact _root_.id rfl | exact _root_.id (fun _ => rfl) | fail) only [↓pre, post, Int.reduceEq, Int.reduceLT, Int.reduceLE, Int.reduceAdd, Int.reduceSub, Int.reduceMul, Int.reduceNeg, Nat.reduceLT, Nat.reduceSub, Nat.reduceMul, Nat.reduceAdd, Nat.reduceLeDiff, reduceIte, reduceCtorEq, Nat.reduceEqDiff])
    | (refine ifP_neg (by first | assumption | omega) ?_ <;> try simp (maxSteps := 4000000) (disch := first | assumption | omega | (simp only [push_next, put_next, empty_next, List.length_cons, List.length_nil] <;> omega) | exact _root_.id rfl | exact _root_.id (fun _ => rfl) | fail) only [↓pre, post, Int.reduceEq, Int.reduceLT, Int.reduceLE, Int.reduceAdd, Int.reduceSub, Int.reduceMul, Int.reduceNeg, Nat.reduceLT, Nat.reduceSub, Nat.reduceMul, Nat.reduceAdd, Nat.reduceLeDiff, reduceIte, reduceCtorEq, Nat.reduceEqDiff])
    | (refine ifP_intro (fun hyp => ?_) (fun hyp => ?_) <;> first | simp (maxSteps := 4000000) (disch := first | assumption | omega | (simp only [push_next, put_next, empty_next, List.length_cons, List.length_nil] <;> omega) | exact _root_.id rfl | exact _root_.id (fun _ => rfl) | fail) only [↓pre, post, Int.reduceEq, Int.reduceLT, Int.reduceLE, Int.reduceAdd, Int.reduceSub, Int.reduceMul, Int.reduceNeg, Nat.reduceLT, Nat.reduceSub, Nat.reduceMul, Nat.reduceAdd, Nat.reduceLeDiff, reduceIte, reduceCtorEq, Nat.reduceEqDiff, eq_false hyp] | simp (maxSteps := 4000000) (disch := first | assumption | omega | (simp only [push_next, put_next, empty_next, List.length_cons, List.length_nil] <;> omega) | exact _root_.id rfl | exact _root_.id (fun _ => rfl) | fail) only [↓pre, post, Int.reduceEq, Int.reduceLT, Int.reduceLE, Int.reduceAdd, Int.reduceSub, Int.reduceMul, Int.reduceNeg, Nat.reduceLT, Nat.reduceSub, Nat.reduceMul, Nat.reduceAdd, Nat.reduceLeDiff, reduceIte, reduceCtorEq, Nat.reduceEqDiff, eq_true hyp] | skip))
  refine w_loop (fun m vs h0 => ∃ (i p : Nat) (s z : Int) (x6 x7 : AVal) (x11 x12 x13 x14 : AVal), m = ls.length - i ∧ i ≤ ls.length ∧ p ≤ l.length ∧ (p = 0 ∨ (nth l (p - 1)).kind ≠ 0) ∧ 0 ≤ s ∧ s ≤ p * 5000000000 ∧ z = (p : Int) - 1 ∧ sumF l w 0 0 ls = sumF l w p s (ls.drop i) ∧
    vs = [.sl (items l) t, .int .i64 w, .sl (ls.map Ln.toA) t2, .int .i64 0, .int .i64 s, .int .i64 z, x6, x7, .sl (ls.map Ln.toA) t2, .int .i64 ls.length, .int .i64 i, x11, x12, x13, x14]) ls.length
    ⟨0, 0, 0, -1, _, _, _, _, _, _, rfl, by omega, by omega, .inl rfl, by omega, by omega, by omega, rfl, rfl⟩ ?_
  rintro m vs h0 ⟨i, p, s, z, x6, x7, x11, x12, x13, x14, rfl, hil, hp, hpk, hs0, hs1, hz, hsum, rfl⟩
  have hst : p ≤ l.length → PV F 37 [.sl (items l) t, .int .i64 z] = some (.int .i64 (skip l p)) := fun h => start_v p hz (by omega) (by omega)
  have hdrop : i < ls.length → ls.drop i = nth ls i :: ls.drop (i + 1) := fun h => by rw [List.drop_eq_getElem_cons h, nth_eq h]
  have hno : i < ls.length → ¬ fits l w p (nth ls i) → sumF l w 0 0 ls = none := fun h hf => by rw [hsum, hdrop h, sumF, if_neg hf]
  try simp (maxSteps := 4000000) (disch := first | assumption | omega | (simp only [push_next, put_next, empty_next, List.length_cons, List.length_nil] <;> omega) | exact _root_.id rfl | exact _root_.id (fun _ => rfl) | fail) only [↓pre, post, Int.reduceEq, Int.reduceLT, Int.reduceLE, Int.reduceAdd, Int.reduceSub, Int.reduceMul, Int.reduceNeg, Nat.reduceLT, Nat.reduceSub, Nat.reduceMul, Nat.reduceAdd, Nat.reduceLeDiff, reduceIte, reduceCtorEq, Nat.reduceEqDiff, hst, Ln.toA]
  repeat' (first
    | (refine ifP_pos (by first | assumption | omega) ?_ <;> try simp (maxSteps := 4000000) (disch := first | assumption | omega | (simp only [push_next, put_next, empty_next, List.length_cons, List.length_nil] <;> omega) | exact _root_.id rfl | exact _root_.id (fun _ => rfl) | fail) only [↓pre, post, Int.reduceEq, Int.reduceLT, Int.reduceLE, Int.reduceAdd, Int.reduceSub, Int.reduceMul, Int.reduceNeg, Nat.reduceLT, Nat.reduceSub, Nat.reduceMul, Nat.reduceAdd, Nat.reduceLeDiff, reduceIte, reduceCtorEq, Nat.reduceEqDiff, hst, Ln.toA])
    | (refine ifP_neg (by first | assumption | omega) ?_ <;> try simp (maxSteps := 4000000) (disch := first | assumption | omega | (simp only [push_next, put_next, empty_next, List.length_cons, List.length_nil] <;> omega) | exact _root_.id rfl | exact _root_.id (fun _ => rfl) | fail) only [↓pre, post, Int.reduceEq, Int.reduceLT, Int.reduceLE, Int.reduceAdd, Int.reduceSub, Int.reduceMul, Int.reduceNeg, Nat.reduceLT, Nat.reduceSub, Nat.reduceMul, Nat.reduceAdd, Nat.reduceLeDiff, reduceIte, reduceCtorEq, Nat.reduceEqDiff, hst, Ln.toA])
    | (refine ifP_intro (fun hyp => ?_) (fun hyp => ?_) <;> first | simp (maxSteps := 4000000) (disch := first | assumption | omega | (simp only [push_next, put_next, empty_next, List.length_cons, List.length_nil] <;> omega) | exact _root_.id rfl | exact _root_.id (fun _ => rfl) | fail) only [↓pre, post, Int.reduceEq, Int.reduceLT, Int.reduceLE, Int.reduceAdd, Int.reduceSub, Int.reduceMul, Int.reduceNeg, Nat.reduceLT, Nat.reduceSub, Nat.reduceMul, Nat.reduceAdd, Nat.reduceLeDiff, reduceIte, reduceCtorEq, Nat.reduceEqDiff, hst, Ln.toA, eq_false hyp] | simp (maxSteps := 4000000) (disch := first | assumption | omega | (simp only [push_next, put_next, empty_next, List.length_cons, List.length_nil] <;> omega) | exact _root_.id rfl | exact _root_.id (fun _ => rfl) | fail) only [↓pre, post, Int.reduceEq, Int.reduceLT, Int.reduceLE, Int.reduceAdd, Int.reduceSub, Int.reduceMul, Int.reduceNeg, Nat.reduceLT, Nat.reduceSub, Nat.reduceMul, Nat.reduceAdd, Nat.reduceLeDiff, reduceIte, reduceCtorEq, Nat.reduceEqDiff, hst, Ln.toA, eq_true hyp] | skip))
  · have hil' : i < ls.length := by omega
    have L := lines_c (l := l) (t := t) (w := w) (a := skip l p) (g := 57) (cap := [.ptr h0.next 0, .ptr (h0.next + 1) 0]) hv hw (skip_le hp) (· = h0.next + 1)
      (h := (h0.push (.row true (typed 41) true (nth ls i).toA.cells)).push (.row true (typed 3) false [.int .i64 (-1)])) (by intro j hj; subst hj; exact Nat.lt_succ_self _)
      (fun d h1 => h1.get h0.next = some (.row true (typed 41) true (nth ls i).toA.cells) ∧ h1.get (h0.next + 1) = some (.row true (typed 3) false [.int .i64 (lastX (nth ls i) (skip l p) d)]))
      (fun d h1 o i => ⟨get_push_old i.1, get_push_old i.2⟩)
      (fun d y rest h1 e i f => CV_mono (sum1_c i.1 i.2 (by omega)) (fun r h2 k => ⟨⟨k.1, by rw [lastX, List.foldl_append]; exact k.2.1⟩, k.2.2⟩))
      ⟨get_push_old (get_push _ _), get_push_eq rfl⟩
    rw [linesAt_scan hv hpk, lastX_fits (by omega) hyp, ← hyp] at L
    refine CV_mono L ?_
    rintro r h1 ⟨rfl, ⟨i1, i2⟩, hF⟩
    by_cases hf : fits l w p (nth ls i)
    · rw [if_pos hf] at i2
      have hcb := cost_bound hv hw hf.2.2.2.1
      have hb1 := hf.2.2.2.1.1
      have hb2 := hf.2.2.2.1.2.1
      have hb0 := hf.2.2.1
      have hge := skip_ge (l := l) (p := p)
      have hbi : i64 (nth ls i).b := hi _ (nth_mem hil')
      obtain ⟨hbi1, hbi2⟩ := hbi
      have e0 : (Ln.toA (nth ls i)).cells = [.int .i64 (nth ls i).a, .int .i64 (nth ls i).b, .int .i64 (nth ls i).n] := rfl
      rw [e0] at i1
      try simp (maxSteps := 4000000) (disch := first | assumption | omega | (simp only [push_next, put_next, empty_next, List.length_cons, List.length_nil] <;> omega) | exact _root_.id rfl | exact _root_.id (fun _ => rfl) | fail) only [↓pre, post, Int.reduceEq, Int.reduceLT, Int.reduceLE, Int.reduceAdd, Int.reduceSub, Int.reduceMul, Int.reduceNeg, Nat.reduceLT, Nat.reduceSub, Nat.reduceMul, Nat.reduceAdd, Nat.reduceLeDiff, reduceIte, reduceCtorEq, Nat.reduceEqDiff, i1, i2]
      repeat' (first
        | (refine ifP_pos (by first | assumption | omega) ?_ <;> try simp (maxSteps := 4000000) (disch := first | assumption | omega | (simp only [push_next, put_next, empty_next, List.length_cons, List.length_nil] <;> omega) | exact _root_.id rfl | exact _root_.id (fun _ => rfl) | fail) only [↓pre, post, Int.reduceEq, Int.reduceLT, Int.reduceLE, Int.reduceAdd, Int.reduceSub, Int.reduceMul, Int.reduceNeg, Nat.reduceLT, Nat.reduceSub, Nat.reduceMul, Nat.reduceAdd, Nat.reduceLeDiff, reduceIte, reduceCtorEq, Nat.reduceEqDiff, i1, i2])
        | (refine ifP_neg (by first | assumption | omega) ?_ <;> try simp (maxSteps := 4000000) (disch := first | assumption | omega | (simp only [push_next, put_next, empty_next, List.length_cons, List.length_nil] <;> omega) | exact _root_.id rfl | exact _root_.id (fun _ => rfl) | fail) only [↓pre, post, Int.reduceEq, Int.reduceLT, Int.reduceLE, Int.reduceAdd, Int.reduceSub, Int.reduceMul, Int.reduceNeg, Nat.reduceLT, Nat.reduceSub, Nat.reduceMul, Nat.reduceAdd, Nat.reduceLeDiff, reduceIte, reduceCtorEq, Nat.reduceEqDiff, i1, i2])
        | (refine ifP_intro (fun hyp => ?_) (fun hyp => ?_) <;> first | simp (maxSteps := 4000000) (disch := first | assumption | omega | (simp only [push_next, put_next, empty_next, List.length_cons, List.length_nil] <;> omega) | exact _root_.id rfl | exact _root_.id (fun _ => rfl) | fail) only [↓pre, post, Int.reduceEq, Int.reduceLT, Int.reduceLE, Int.reduceAdd, Int.reduceSub, Int.reduceMul, Int.reduceNeg, Nat.reduceLT, Nat.reduceSub, Nat.reduceMul, Nat.reduceAdd, Nat.reduceLeDiff, reduceIte, reduceCtorEq, Nat.reduceEqDiff, i1, i2, eq_false hyp] | simp (maxSteps := 4000000) (disch := first | assumption | omega | (simp only [push_next, put_next, empty_next, List.length_cons, List.length_nil] <;> omega) | exact _root_.id rfl | exact _root_.id (fun _ => rfl) | fail) only [↓pre, post, Int.reduceEq, Int.reduceLT, Int.reduceLE, Int.reduceAdd, Int.reduceSub, Int.reduceMul, Int.reduceNeg, Nat.reduceLT, Nat.reduceSub, Nat.reduceMul, Nat.reduceAdd, Nat.reduceLeDiff, reduceIte, reduceCtorEq, Nat.reduceEqDiff, i1, i2, eq_true hyp] | skip))
      exact lp_n ⟨ls.length - (i + 1), by omega, i + 1, (nth ls i).b.toNat, _, _, _, _, _, _, _, _, rfl, by omega, by omega, .inr hf.2.2.2.1.2.2.2.1, by omega, by omega, by omega, by rw [hsum, hdrop hil', sumF, if_pos hf], rfl⟩
    · rw [if_neg hf] at i2
      try simp (maxSteps := 4000000) (disch := first | assumption | omega | (simp only [push_next, put_next, empty_next, List.length_cons, List.length_nil] <;> omega) | exact _root_.id rfl | exact _root_.id (fun _ => rfl) | fail) only [↓pre, post, Int.reduceEq, Int.reduceLT, Int.reduceLE, Int.reduceAdd, Int.reduceSub, Int.reduceMul, Int.reduceNeg, Nat.reduceLT, Nat.reduceSub, Nat.reduceMul, Nat.reduceAdd, Nat.reduceLeDiff, reduceIte, reduceCtorEq, Nat.reduceEqDiff, i2]
      repeat' (first
        | (refine ifP_pos (by first | assumption | omega) ?_ <;> try simp (maxSteps := 4000000) (disch := first | assumption | omega | (simp only [push_next, put_next, empty_next, List.length_cons, List.length_nil] <;> omega) | exact _root_.id rfl | exact _root_.id (fun _ => rfl) | fail) only [↓pre, post, Int.reduceEq, Int.reduceLT, Int.reduceLE, Int.reduceAdd, Int.reduceSub, Int.reduceMul, Int.reduceNeg, Nat.reduceLT, Nat.reduceSub, Nat.reduceMul, Nat.reduceAdd, Nat.reduceLeDiff, reduceIte, reduceCtorEq, Nat.reduceEqDiff, i2])
        | (refine ifP_neg (by first | assumption | omega) ?_ <;> try simp (maxSteps := 4000000) (disch := first | assumption | omega | (simp only [push_next, put_next, empty_next, List.length_cons, List.length_nil] <;> omega) | exact _root_.id rfl | exact _root_.id (fun _ => rfl) | fail) only [↓pre, post, Int.reduceEq, Int.reduceLT, Int.reduceLE, Int.reduceAdd, Int.reduceSub, Int.reduceMul, Int.reduceNeg, Nat.reduceLT, Nat.reduceSub, Nat.reduceMul, Nat.reduceAdd, Nat.reduceLeDiff, reduceIte, reduceCtorEq, Nat.reduceEqDiff, i2])
        | (refine ifP_intro (fun hyp => ?_) (fun hyp => ?_) <;> first | simp (maxSteps := 4000000) (disch := first | assumption | omega | (simp only [push_next, put_next, empty_next, List.length_cons, List.length_nil] <;> omega) | exact _root_.id rfl | exact _root_.id (fun _ => rfl) | fail) only [↓pre, post, Int.reduceEq, Int.reduceLT, Int.reduceLE, Int.reduceAdd, Int.reduceSub, Int.reduceMul, Int.reduceNeg, Nat.reduceLT, Nat.reduceSub, Nat.reduceMul, Nat.reduceAdd, Nat.reduceLeDiff, reduceIte, reduceCtorEq, Nat.reduceEqDiff, i2, eq_false hyp] | simp (maxSteps := 4000000) (disch := first | assumption | omega | (simp only [push_next, put_next, empty_next, List.length_cons, List.length_nil] <;> omega) | exact _root_.id rfl | exact _root_.id (fun _ => rfl) | fail) only [↓pre, post, Int.reduceEq, Int.reduceLT, Int.reduceLE, Int.reduceAdd, Int.reduceSub, Int.reduceMul, Int.reduceNeg, Nat.reduceLT, Nat.reduceSub, Nat.reduceMul, Nat.reduceAdd, Nat.reduceLeDiff, reduceIte, reduceCtorEq, Nat.reduceEqDiff, i2, eq_true hyp] | skip))
      rw [hno hil' hf]
  · rw [hno (by omega) (fun h => hyp h.2.1)]
  · rw [hno (by omega) (fun h => by have := h.1; omega)]
  · rw [hsum, List.drop_eq_nil_of_le (by omega), sumF]
    simp only
    rw [if_pos (by omega)]
  · rw [hsum, List.drop_eq_nil_of_le (by omega), sumF]
    simp only
    rw [if_neg (by omega)]

end Go.Proofs.Ytcammfdljiingaa
