/-
  Merged from LbB LbC LbM LbI LbMul LbK LbD: ready, starts, At, Natural, the scan of the possible lines.
-/
import Derived.Test.YtcammfdljiingaaM03
import Derived.Test.YtcammfdljiingaaM02
/-
  ready, starts, At, Natural, the scan of the possible lines.
-/
set_option linter.unusedSimpArgs false
set_option linter.unusedVariables false
set_option maxHeartbeats 2000000
namespace Go.Proofs.Ytcammfdljiingaa
open Go Go.Abs

theorem valid_v {l : List Item} {t : Tok} (hl : l.length < 1000000) : PV F 25 [.sl (items l) t] = some (.bool (decide (valid l))) := by
  refine PV_wp (fn := c25) rfl ?_
  have e1 : 0 < l.length → l.length - 1 = l.length - 1 := fun _ => rfl
  dsimp only [c25]
  try simp (maxSteps := 4000000) (disch := first | assumption | omega | (simp only [push_next, put_next, empty_next, List.length_cons, List.length_nil] <;> omega) | exact _root_.id rfl | exact _root_.id (fun _ => rfl) | fail) only [↓pre, post, Int.reduceEq, Int.reduceLT, Int.reduceLE, Int.reduceAdd, Int.reduceSub, Int.reduceMul, Int.reduceNeg, Nat.reduceLT, Nat.reduceSub, Nat.reduceMul, Nat.reduceAdd, Nat.reduceLeDiff, reduceIte, reduceCtorEq, Nat.reduceEqDiff, Item.toA, within_v]
  repeat' (first
    | (refine ifP_pos (by first | assumption | omega) ?_ <;> try simp (maxSteps := 4000000) (disch := first | assumption | omega | (simp only [push_next, put_next, empty_next, List.length_cons, List.length_nil] <;> omega) | exact _root_.id rfl | exact _root_.id (fun _ => rfl) | fail) only [↓pre, post, Int.reduceEq, Int.reduceLT, Int.reduceLE, Int.reduceAdd, Int.reduceSub, Int.reduceMul, Int.reduceNeg, Nat.reduceLT, Nat.reduceSub, Nat.reduceMul, Nat.reduceAdd, Nat.reduceLeDiff, reduceIte, reduceCtorEq, Nat.reduceEqDiff, Item.toA, within_v])
    | (refine ifP_neg (by first | assumption | omega) ?_ <;> try simp (maxSteps := 4000000) (disch := first | assumption | omega | (simp only [push_next, put_next, empty_next, List.length_cons, List.length_nil] <;> omega) | exact _root_.id rfl | exact _root_.id (fun _ => rfl) | fail) only [↓pre, post, Int.reduceEq, Int.reduceLT, Int.reduceLE, Int.reduceAdd, Int.reduceSub, Int.reduceMul, Int.reduceNeg, Nat.reduceLT, Nat.reduceSub, Nat.reduceMul, Nat.reduceAdd, Nat.reduceLeDiff, reduceIte, reduceCtorEq, Nat.reduceEqDiff, Item.toA, within_v])
    | (refine ifP_intro (fun hyp => ?_) (fun hyp => ?_) <;> first | simp (maxSteps := 4000000) (disch := first | assumption | omega | (simp only [push_next, put_next, empty_next, List.length_cons, List.length_nil] <;> omega) | exact _root_.id rfl | exact _root_.id (fun _ => rfl) | fail) only [↓pre, post, Int.reduceEq, Int.reduceLT, Int.reduceLE, Int.reduceAdd, Int.reduceSub, Int.reduceMul, Int.reduceNeg, Nat.reduceLT, Nat.reduceSub, Nat.reduceMul, Nat.reduceAdd, Nat.reduceLeDiff, reduceIte, reduceCtorEq, Nat.reduceEqDiff, Item.toA, within_v, eq_false hyp] | simp (maxSteps := 4000000) (disch := first | assumption | omega | (simp only [push_next, put_next, empty_next, List.length_cons, List.length_nil] <;> omega) | exact _root_.id rfl | exact _root_.id (fun _ => rfl) | fail) only [↓pre, post, Int.reduceEq, Int.reduceLT, Int.reduceLE, Int.reduceAdd, Int.reduceSub, Int.reduceMul, Int.reduceNeg, Nat.reduceLT, Nat.reduceSub, Nat.reduceMul, Nat.reduceAdd, Nat.reduceLeDiff, reduceIte, reduceCtorEq, Nat.reduceEqDiff, Item.toA, within_v, eq_true hyp] | skip))
  · refine w_loop (fun m vs h0 => ∃ (i : Nat) (x2 x3 x4 x5 x9 x10 x11 x12 : AVal), m = l.length - i ∧ i ≤ l.length ∧ (∀ j, j < i → okItem (nth l j)) ∧
      vs = [.sl (items l) t, .bool false, x2, x3, x4, x5, .sl (items l) t, .int .i64 l.length, .int .i64 (i : Int), x9, x10, x11, x12]) l.length
      ⟨0, _, _, _, _, _, _, _, _, by omega, by omega, by omega, rfl⟩ ?_
    rintro m vs h0 ⟨i, x2, x3, x4, x5, x9, x10, x11, x12, rfl, hi, hok, rfl⟩
    have bad : i < l.length → ¬ okItem (nth l i) → false = decide (valid l) := fun hc h => (decide_eq_false fun h' => h (h'.2.2.2 i hc)).symm
    have go : okItem (nth l i) → ∀ j, j < i + 1 → okItem (nth l j) := fun h j hj => by
      by_cases hj' : j = i
      · subst hj'; exact h
      · exact hok j (by omega)
    try simp (maxSteps := 4000000) (disch := first | assumption | omega | (simp only [push_next, put_next, empty_next, List.length_cons, List.length_nil] <;> omega) | exact _root_.id rfl | exact _root_.id (fun _ => rfl) | fail) only [↓pre, post, Int.reduceEq, Int.reduceLT, Int.reduceLE, Int.reduceAdd, Int.reduceSub, Int.reduceMul, Int.reduceNeg, Nat.reduceLT, Nat.reduceSub, Nat.reduceMul, Nat.reduceAdd, Nat.reduceLeDiff, reduceIte, reduceCtorEq, Nat.reduceEqDiff, Item.toA, within_v]
    repeat' (first
      | (refine ifP_pos (by first | assumption | omega) ?_ <;> try simp (maxSteps := 4000000) (disch := first | assumption | omega | (simp only [push_next, put_next, empty_next, List.length_cons, List.length_nil] <;> omega) | exact _root_.id rfl | exact _root_.id (fun _ => rfl) | fail) only [↓pre, post, Int.reduceEq, Int.reduceLT, Int.reduceLE, Int.reduceAdd, Int.reduceSub, Int.reduceMul, Int.reduceNeg, Nat.reduceLT, Nat.reduceSub, Nat.reduceMul, Nat.reduceAdd, Nat.reduceLeDiff, reduceIte, reduceCtorEq, Nat.reduceEqDiff, Item.toA, within_v])
      | (refine ifP_neg (by first | assumption | omega) ?_ <;> try simp (maxSteps := 4000000) (disch := first | assumption | omega | (simp only [push_next, put_next, empty_next, List.length_cons, List.length_nil] <;> omega) | exact _root_.id rfl | exact _root_.id (fun _ => rfl) | fail) only [↓pre, post, Int.reduceEq, Int.reduceLT, Int.reduceLE, Int.reduceAdd, Int.reduceSub, Int.reduceMul, Int.reduceNeg, Nat.reduceLT, Nat.reduceSub, Nat.reduceMul, Nat.reduceAdd, Nat.reduceLeDiff, reduceIte, reduceCtorEq, Nat.reduceEqDiff, Item.toA, within_v])
      | (refine ifP_intro (fun hyp => ?_) (fun hyp => ?_) <;> first | simp (maxSteps := 4000000) (disch := first | assumption | omega | (simp only [push_next, put_next, empty_next, List.length_cons, List.length_nil] <;> omega) | exact _root_.id rfl | exact _root_.id (fun _ => rfl) | fail) only [↓pre, post, Int.reduceEq, Int.reduceLT, Int.reduceLE, Int.reduceAdd, Int.reduceSub, Int.reduceMul, Int.reduceNeg, Nat.reduceLT, Nat.reduceSub, Nat.reduceMul, Nat.reduceAdd, Nat.reduceLeDiff, reduceIte, reduceCtorEq, Nat.reduceEqDiff, Item.toA, within_v, eq_false hyp] | simp (maxSteps := 4000000) (disch := first | assumption | omega | (simp only [push_next, put_next, empty_next, List.length_cons, List.length_nil] <;> omega) | exact _root_.id rfl | exact _root_.id (fun _ => rfl) | fail) only [↓pre, post, Int.reduceEq, Int.reduceLT, Int.reduceLE, Int.reduceAdd, Int.reduceSub, Int.reduceMul, Int.reduceNeg, Nat.reduceLT, Nat.reduceSub, Nat.reduceMul, Nat.reduceAdd, Nat.reduceLeDiff, reduceIte, reduceCtorEq, Nat.reduceEqDiff, Item.toA, within_v, eq_true hyp] | skip))
    all_goals first
      | exact bad (by omega) (by unfold okItem; omega)
      | exact lp_n ⟨l.length - (i + 1), by omega, i + 1, _, _, _, _, _, _, _, _, rfl, by omega, go (by unfold okItem; omega), rfl⟩
      | exact (decide_eq_true ⟨by omega, by omega, by assumption, fun j hj => hok j (by omega)⟩).symm
  · exact (decide_eq_false (by unfold valid; intro h; have h3 := h.2.2.1; exact hyp h3)).symm
  · exact (decide_eq_false (by unfold valid; omega)).symm

def widthOk (w : Int) : Prop := 1 ≤ w ∧ w ≤ 65536
instance (w : Int) : Decidable (widthOk w) := by unfold widthOk; infer_instance

theorem ready_v {l : List Item} {t : Tok} {w : Int} (ht : Pt t) (hl : l.length < 1000000) : PV F 33 [.sl (items l) t, .int .i64 w] = some (.bool (decide (widthOk w ∧ valid l))) := by
  refine PV_wp (fn := c33) rfl ?_
  dsimp only [c33]
  try simp (maxSteps := 4000000) (disch := first | assumption | omega | (simp only [push_next, put_next, empty_next, List.length_cons, List.length_nil] <;> omega) | exact _root_.id rfl | exact _root_.id (fun _ => rfl) | fail) only [↓pre, post, Int.reduceEq, Int.reduceLT, Int.reduceLE, Int.reduceAdd, Int.reduceSub, Int.reduceMul, Int.reduceNeg, Nat.reduceLT, Nat.reduceSub, Nat.reduceMul, Nat.reduceAdd, Nat.reduceLeDiff, reduceIte, reduceCtorEq, Nat.reduceEqDiff, within_v, valid_v]
  repeat' (first
    | (refine ifP_pos (by first | assumption | omega) ?_ <;> try simp (maxSteps := 4000000) (disch := first | assumption | omega | (simp only [push_next, put_next, empty_next, List.length_cons, List.length_nil] <;> omega) | exact _root_.id rfl | exact _root_.id (fun _ => rfl) | fail) only [↓pre, post, Int.reduceEq, Int.reduceLT, Int.reduceLE, Int.reduceAdd, Int.reduceSub, Int.reduceMul, Int.reduceNeg, Nat.reduceLT, Nat.reduceSub, Nat.reduceMul, Nat.reduceAdd, Nat.reduceLeDiff, reduceIte, reduceCtorEq, Nat.reduceEqDiff, within_v, valid_v])
    | (refine ifP_neg (by first | assumption | omega) ?_ <;> try simp (maxSteps := 4000000) (disch := first | assumption | omega | (simp only [push_next, put_next, empty_next, List.length_cons, List.length_nil] <;> omega) | exact _root_.id rfl | exact _root_.id (fun _ => rfl) | fail) only [↓pre, post, Int.reduceEq, Int.reduceLT, Int.reduceLE, Int.reduceAdd, Int.reduceSub, Int.reduceMul, Int.reduceNeg, Nat.reduceLT, Nat.reduceSub, Nat.reduceMul, Nat.reduceAdd, Nat.reduceLeDiff, reduceIte, reduceCtorEq, Nat.reduceEqDiff, within_v, valid_v])
    | (refine ifP_intro (fun hyp => ?_) (fun hyp => ?_) <;> first | simp (maxSteps := 4000000) (disch := first | assumption | omega | (simp only [push_next, put_next, empty_next, List.length_cons, List.length_nil] <;> omega) | exact _root_.id rfl | exact _root_.id (fun _ => rfl) | fail) only [↓pre, post, Int.reduceEq, Int.reduceLT, Int.reduceLE, Int.reduceAdd, Int.reduceSub, Int.reduceMul, Int.reduceNeg, Nat.reduceLT, Nat.reduceSub, Nat.reduceMul, Nat.reduceAdd, Nat.reduceLeDiff, reduceIte, reduceCtorEq, Nat.reduceEqDiff, within_v, valid_v, eq_false hyp] | simp (maxSteps := 4000000) (disch := first | assumption | omega | (simp only [push_next, put_next, empty_next, List.length_cons, List.length_nil] <;> omega) | exact _root_.id rfl | exact _root_.id (fun _ => rfl) | fail) only [↓pre, post, Int.reduceEq, Int.reduceLT, Int.reduceLE, Int.reduceAdd, Int.reduceSub, Int.reduceMul, Int.reduceNeg, Nat.reduceLT, Nat.reduceSub, Nat.reduceMul, Nat.reduceAdd, Nat.reduceLeDiff, reduceIte, reduceCtorEq, Nat.reduceEqDiff, within_v, valid_v, eq_true hyp] | skip))
  · simp [widthOk, hyp]
  · simp [widthOk, hyp]

theorem refReady_v {l : List Item} {t : Tok} {w : Int} (ht : Pt t) (hl : l.length < 1000000) : PV F 38 [.sl (items l) t, .int .i64 w] = some (.bool (decide (widthOk w ∧ valid l))) := by
  refine PV_wp (fn := c38) rfl ?_
  dsimp only [c38]
  try simp (maxSteps := 4000000) (disch := first | assumption | omega | (simp only [push_next, put_next, empty_next, List.length_cons, List.length_nil] <;> omega) | exact _root_.id rfl | exact _root_.id (fun _ => rfl) | fail) only [↓pre, post, Int.reduceEq, Int.reduceLT, Int.reduceLE, Int.reduceAdd, Int.reduceSub, Int.reduceMul, Int.reduceNeg, Nat.reduceLT, Nat.reduceSub, Nat.reduceMul, Nat.reduceAdd, Nat.reduceLeDiff, reduceIte, reduceCtorEq, Nat.reduceEqDiff, refValid_v]
  repeat' (first
    | (refine ifP_pos (by first | assumption | omega) ?_ <;> try simp (maxSteps := 4000000) (disch := first | assumption | omega | (simp only [push_next, put_next, empty_next, List.length_cons, List.length_nil] <;> omega) | exact _root_.id rfl | exact _root_.id (fun _ => rfl) | fail) only [↓pre, post, Int.reduceEq, Int.reduceLT, Int.reduceLE, Int.reduceAdd, Int.reduceSub, Int.reduceMul, Int.reduceNeg, Nat.reduceLT, Nat.reduceSub, Nat.reduceMul, Nat.reduceAdd, Nat.reduceLeDiff, reduceIte, reduceCtorEq, Nat.reduceEqDiff, refValid_v])
    | (refine ifP_neg (by first | assumption | omega) ?_ <;> try simp (maxSteps := 4000000) (disch := first | assumption | omega | (simp only [push_next, put_next, empty_next, List.length_cons, List.length_nil] <;> omega) | exact _root_.id rfl | exact _root_.id (fun _ => rfl) | fail) only [↓pre, post, Int.reduceEq, Int.reduceLT, Int.reduceLE, Int.reduceAdd, Int.reduceSub, Int.reduceMul, Int.reduceNeg, Nat.reduceLT, Nat.reduceSub, Nat.reduceMul, Nat.reduceAdd, Nat.reduceLeDiff, reduceIte, reduceCtorEq, Nat.reduceEqDiff, refValid_v])
    | (refine ifP_intro (fun hyp => ?_) (fun hyp => ?_) <;> first | simp (maxSteps := 4000000) (disch := first | assumption | omega | (simp only [push_next, put_next, empty_next, List.length_cons, List.length_nil] <;> omega) | exact _root_.id rfl | exact _root_.id (fun _ => rfl) | fail) only [↓pre, post, Int.reduceEq, Int.reduceLT, Int.reduceLE, Int.reduceAdd, Int.reduceSub, Int.reduceMul, Int.reduceNeg, Nat.reduceLT, Nat.reduceSub, Nat.reduceMul, Nat.reduceAdd, Nat.reduceLeDiff, reduceIte, reduceCtorEq, Nat.reduceEqDiff, refValid_v, eq_false hyp] | simp (maxSteps := 4000000) (disch := first | assumption | omega | (simp only [push_next, put_next, empty_next, List.length_cons, List.length_nil] <;> omega) | exact _root_.id rfl | exact _root_.id (fun _ => rfl) | fail) only [↓pre, post, Int.reduceEq, Int.reduceLT, Int.reduceLE, Int.reduceAdd, Int.reduceSub, Int.reduceMul, Int.reduceNeg, Nat.reduceLT, Nat.reduceSub, Nat.reduceMul, Nat.reduceAdd, Nat.reduceLeDiff, reduceIte, reduceCtorEq, Nat.reduceEqDiff, refValid_v, eq_true hyp] | skip))
  all_goals simp_all [widthOk]
  all_goals omega

/-- A place at which a line can begin. -/
def starts (l : List Item) (i : Nat) : Prop := (nth l i).kind ≠ 1 ∧ (i = 0 ∨ (nth l (i - 1)).kind ≠ 0)
instance (l : List Item) (i : Nat) : Decidable (starts l i) := by unfold starts; infer_instance

theorem starts_v {l : List Item} {t : Tok} {v : Int} (h0 : 0 ≤ v) (hi : v < l.length) (hl : l.length < 1000000) : PV F 34 [.sl (items l) t, .int .i64 v] = some (.bool (decide (starts l v.toNat))) := by
  refine PV_wp (fn := c34) rfl ?_
  dsimp only [c34]
  try simp (maxSteps := 4000000) (disch := first | assumption | omega | (simp only [push_next, put_next, empty_next, List.length_cons, List.length_nil] <;> omega) | exact _root_.id rfl | exact _root_.id (fun _ => rfl) | fail) only [↓pre, post, Int.reduceEq, Int.reduceLT, Int.reduceLE, Int.reduceAdd, Int.reduceSub, Int.reduceMul, Int.reduceNeg, Nat.reduceLT, Nat.reduceSub, Nat.reduceMul, Nat.reduceAdd, Nat.reduceLeDiff, reduceIte, reduceCtorEq, Nat.reduceEqDiff, Item.toA]
  repeat' (first
    | (refine ifP_pos (by first | assumption | omega) ?_ <;> try simp (maxSteps := 4000000) (disch := first | assumption | omega | (simp only [push_next, put_next, empty_next, List.length_cons, List.length_nil] <;> omega) | exact _root_.id rfl | exact _root_.id (fun _ => rfl) | fail) only [↓pre, post, Int.reduceEq, Int.reduceLT, Int.reduceLE, Int.reduceAdd, Int.reduceSub, Int.reduceMul, Int.reduceNeg, Nat.reduceLT, Nat.reduceSub, Nat.reduceMul, Nat.reduceAdd, Nat.reduceLeDiff, reduceIte, reduceCtorEq, Nat.reduceEqDiff, Item.toA])
    | (refine ifP_neg (by first | assumption | omega) ?_ <;> try simp (maxSteps := 4000000) (disch := first | assumption | omega | (simp only [push_next, put_next, empty_next, List.length_cons, List.length_nil] <;> omega) | exact _root_.id rfl | exact _root_.id (fun _ => rfl) | fail) only [↓pre, post, Int.reduceEq, Int.reduceLT, Int.reduceLE, Int.reduceAdd, Int.reduceSub, Int.reduceMul, Int.reduceNeg, Nat.reduceLT, Nat.reduceSub, Nat.reduceMul, Nat.reduceAdd, Nat.reduceLeDiff, reduceIte, reduceCtorEq, Nat.reduceEqDiff, Item.toA])
    | (refine ifP_intro (fun hyp => ?_) (fun hyp => ?_) <;> first | simp (maxSteps := 4000000) (disch := first | assumption | omega | (simp only [push_next, put_next, empty_next, List.length_cons, List.length_nil] <;> omega) | exact _root_.id rfl | exact _root_.id (fun _ => rfl) | fail) only [↓pre, post, Int.reduceEq, Int.reduceLT, Int.reduceLE, Int.reduceAdd, Int.reduceSub, Int.reduceMul, Int.reduceNeg, Nat.reduceLT, Nat.reduceSub, Nat.reduceMul, Nat.reduceAdd, Nat.reduceLeDiff, reduceIte, reduceCtorEq, Nat.reduceEqDiff, Item.toA, eq_false hyp] | simp (maxSteps := 4000000) (disch := first | assumption | omega | (simp only [push_next, put_next, empty_next, List.length_cons, List.length_nil] <;> omega) | exact _root_.id rfl | exact _root_.id (fun _ => rfl) | fail) only [↓pre, post, Int.reduceEq, Int.reduceLT, Int.reduceLE, Int.reduceAdd, Int.reduceSub, Int.reduceMul, Int.reduceNeg, Nat.reduceLT, Nat.reduceSub, Nat.reduceMul, Nat.reduceAdd, Nat.reduceLeDiff, reduceIte, reduceCtorEq, Nat.reduceEqDiff, Item.toA, eq_true hyp] | skip))
  · simp [starts, hyp]
  · subst hyp; simp only [starts]; simp_all
  · simp [starts, *]; omega

/-! ### the natural width -/
/-- The widths of n items that are no hyphens. -/
def ws (l : List Item) (a : Nat) : Nat → Int
  | 0 => 0
  | n + 1 => ws l a n + (if (nth l (a + n)).kind = 2 then 0 else (nth l (a + n)).width)
def natS (l : List Item) (a b : Nat) : Int := ws l a (b - 1 - a) + (if (nth l (b - 1)).kind = 2 then (nth l (b - 1)).width else 0)

theorem ws_bound {l : List Item} (hv : valid l) {a : Nat} : ∀ n, a + n ≤ l.length → 0 ≤ ws l a n ∧ ws l a n ≤ 65536 * n
  | 0, _ => by simp [ws]
  | n + 1, h => by
    have ih := ws_bound hv (a := a) n (by omega)
    have ho := hv.2.2.2 (a + n) (by omega)
    unfold okItem at ho
    simp only [ws]
    split <;> omega

theorem natural_v {l : List Item} {t : Tok} {a b : Nat} (hv : valid l) (h1 : a < b) (h2 : b ≤ l.length) : PV F 31 [.sl (items l) t, .int .i64 a, .int .i64 b] = some (.int .i64 (natS l a b)) := by
  have hl := hv.2.1
  refine PV_wp (fn := c31) rfl ?_
  dsimp only [c31]
  try simp (maxSteps := 4000000) (disch := first | assumption | omega | (simp only [push_next, put_next, empty_next, List.length_cons, List.length_nil] <;> omega) | exact _root_.id rfl | exact _root_.id (fun _ => rfl) | fail) only [↓pre, post, Int.reduceEq, Int.reduceLT, Int.reduceLE, Int.reduceAdd, Int.reduceSub, Int.reduceMul, Int.reduceNeg, Nat.reduceLT, Nat.reduceSub, Nat.reduceMul, Nat.reduceAdd, Nat.reduceLeDiff, reduceIte, reduceCtorEq, Nat.reduceEqDiff]
  repeat' (first
    | (refine ifP_pos (by first | assumption | omega) ?_ <;> try simp (maxSteps := 4000000) (disch := first | assumption | omega | (simp only [push_next, put_next, empty_next, List.length_cons, List.length_nil] <;> omega) | exact _root_.id rfl | exact _root_.id (fun _ => rfl) | fail) only [↓pre, post, Int.reduceEq, Int.reduceLT, Int.reduceLE, Int.reduceAdd, Int.reduceSub, Int.reduceMul, Int.reduceNeg, Nat.reduceLT, Nat.reduceSub, Nat.reduceMul, Nat.reduceAdd, Nat.reduceLeDiff, reduceIte, reduceCtorEq, Nat.reduceEqDiff])
    | (refine ifP_neg (by first | assumption | omega) ?_ <;> try simp (maxSteps := 4000000) (disch := first | assumption | omega | (simp only [push_next, put_next, empty_next, List.length_cons, List.length_nil] <;> omega) | exact _root_.id rfl | exact _root_.id (fun _ => rfl) | fail) only [↓pre, post, Int.reduceEq, Int.reduceLT, Int.reduceLE, Int.reduceAdd, Int.reduceSub, Int.reduceMul, Int.reduceNeg, Nat.reduceLT, Nat.reduceSub, Nat.reduceMul, Nat.reduceAdd, Nat.reduceLeDiff, reduceIte, reduceCtorEq, Nat.reduceEqDiff])
    | (refine ifP_intro (fun hyp => ?_) (fun hyp => ?_) <;> first | simp (maxSteps := 4000000) (disch := first | assumption | omega | (simp only [push_next, put_next, empty_next, List.length_cons, List.length_nil] <;> omega) | exact _root_.id rfl | exact _root_.id (fun _ => rfl) | fail) only [↓pre, post, Int.reduceEq, Int.reduceLT, Int.reduceLE, Int.reduceAdd, Int.reduceSub, Int.reduceMul, Int.reduceNeg, Nat.reduceLT, Nat.reduceSub, Nat.reduceMul, Nat.reduceAdd, Nat.reduceLeDiff, reduceIte, reduceCtorEq, Nat.reduceEqDiff, eq_false hyp] | simp (maxSteps := 4000000) (disch := first | assumption | omega | (simp only [push_next, put_next, empty_next, List.length_cons, List.length_nil] <;> omega) | exact _root_.id rfl | exact _root_.id (fun _ => rfl) | fail) only [↓pre, post, Int.reduceEq, Int.reduceLT, Int.reduceLE, Int.reduceAdd, Int.reduceSub, Int.reduceMul, Int.reduceNeg, Nat.reduceLT, Nat.reduceSub, Nat.reduceMul, Nat.reduceAdd, Nat.reduceLeDiff, reduceIte, reduceCtorEq, Nat.reduceEqDiff, eq_true hyp] | skip))
  refine w_loop (fun m vs h0 => ∃ (i : Nat) (x6 x7 x8 : AVal), m = b - (a + i) ∧ a + i ≤ b - 1 ∧ vs = [.sl (items l) t, .int .i64 a, .int .i64 b, .int .i64 0, .int .i64 (ws l a i), .int .i64 ((a + i : Nat) : Int), x6, x7, x8]) (b - a)
    ⟨0, _, _, _, by omega, by omega, rfl⟩ ?_
  rintro m vs h0 ⟨i, x6, x7, x8, rfl, hi, rfl⟩
  have hb := ws_bound hv (a := a) i (by omega)
  have ho : a + i < l.length → okItem (nth l (a + i)) := hv.2.2.2 (a + i)
  have ho2 : okItem (nth l (b - 1)) := hv.2.2.2 (b - 1) (by omega)
  unfold okItem at ho ho2
  have n1 : (nth l (a + i)).kind = 2 → ws l a (i + 1) = ws l a i := fun h => by rw [ws, if_pos h, Int.add_zero]
  have n2 : ¬ (nth l (a + i)).kind = 2 → ws l a (i + 1) = ws l a i + (nth l (a + i)).width := fun h => by rw [ws, if_neg h]
  try simp (maxSteps := 4000000) (disch := first | assumption | omega | (simp only [push_next, put_next, empty_next, List.length_cons, List.length_nil] <;> omega) | exact _root_.id rfl | exact _root_.id (fun _ => rfl) | fail) only [↓pre, post, Int.reduceEq, Int.reduceLT, Int.reduceLE, Int.reduceAdd, Int.reduceSub, Int.reduceMul, Int.reduceNeg, Nat.reduceLT, Nat.reduceSub, Nat.reduceMul, Nat.reduceAdd, Nat.reduceLeDiff, reduceIte, reduceCtorEq, Nat.reduceEqDiff, Item.toA]
  repeat' (first
    | (refine ifP_pos (by first | assumption | omega) ?_ <;> try simp (maxSteps := 4000000) (disch := first | assumption | omega | (simp only [push_next, put_next, empty_next, List.length_cons, List.length_nil] <;> omega) | exact _root_.id rfl | exact _root_.id (fun _ => rfl) | fail) only [↓pre, post, Int.reduceEq, Int.reduceLT, Int.reduceLE, Int.reduceAdd, Int.reduceSub, Int.reduceMul, Int.reduceNeg, Nat.reduceLT, Nat.reduceSub, Nat.reduceMul, Nat.reduceAdd, Nat.reduceLeDiff, reduceIte, reduceCtorEq, Nat.reduceEqDiff, Item.toA])
    | (refine ifP_neg (by first | assumption | omega) ?_ <;> try simp (maxSteps := 4000000) (disch := first | assumption | omega | (simp only [push_next, put_next, empty_next, List.length_cons, List.length_nil] <;> omega) | exact _root_.id rfl | exact _root_.id (fun _ => rfl) | fail) only [↓pre, post, Int.reduceEq, Int.reduceLT, Int.reduceLE, Int.reduceAdd, Int.reduceSub, Int.reduceMul, Int.reduceNeg, Nat.reduceLT, Nat.reduceSub, Nat.reduceMul, Nat.reduceAdd, Nat.reduceLeDiff, reduceIte, reduceCtorEq, Nat.reduceEqDiff, Item.toA])
    | (refine ifP_intro (fun hyp => ?_) (fun hyp => ?_) <;> first | simp (maxSteps := 4000000) (disch := first | assumption | omega | (simp only [push_next, put_next, empty_next, List.length_cons, List.length_nil] <;> omega) | exact _root_.id rfl | exact _root_.id (fun _ => rfl) | fail) only [↓pre, post, Int.reduceEq, Int.reduceLT, Int.reduceLE, Int.reduceAdd, Int.reduceSub, Int.reduceMul, Int.reduceNeg, Nat.reduceLT, Nat.reduceSub, Nat.reduceMul, Nat.reduceAdd, Nat.reduceLeDiff, reduceIte, reduceCtorEq, Nat.reduceEqDiff, Item.toA, eq_false hyp] | simp (maxSteps := 4000000) (disch := first | assumption | omega | (simp only [push_next, put_next, empty_next, List.length_cons, List.length_nil] <;> omega) | exact _root_.id rfl | exact _root_.id (fun _ => rfl) | fail) only [↓pre, post, Int.reduceEq, Int.reduceLT, Int.reduceLE, Int.reduceAdd, Int.reduceSub, Int.reduceMul, Int.reduceNeg, Nat.reduceLT, Nat.reduceSub, Nat.reduceMul, Nat.reduceAdd, Nat.reduceLeDiff, reduceIte, reduceCtorEq, Nat.reduceEqDiff, Item.toA, eq_true hyp] | skip))
  · exact lp_n ⟨b - (a + (i + 1)), by omega, i + 1, _, _, _, rfl, by omega, by rw [n1 hyp]; rfl⟩
  · exact lp_n ⟨b - (a + (i + 1)), by omega, i + 1, _, _, _, rfl, by omega, by rw [n2 hyp]; rfl⟩
  · rw [natS, if_pos hyp, show b - 1 - a = i by omega]
  · rw [natS, if_neg hyp, show b - 1 - a = i by omega]
    rw [Int.add_zero]

/-- The possible lines from a place: their ends, natural widths and costs, in order. -/
def scan (l : List Item) (w : Int) (i : Nat) (n : Int) : List (Nat × Int × Int) :=
  if h : i < l.length then
    let x := nth l i
    if x.kind = 0 then scan l w (i + 1) (n + x.width)
    else if x.kind = 1 then (if w < n then [] else (i + 1, n, (w - n) * (w - n)) :: scan l w (i + 1) (n + x.width))
    else if x.kind = 2 then (if n + x.width ≤ w then (i + 1, n + x.width, (w - (n + x.width)) * (w - (n + x.width)) + x.cost) :: scan l w (i + 1) n else scan l w (i + 1) n)
    else if n ≤ w then [(i + 1, n, 0)] else []
  else []
termination_by l.length - i

theorem scan_end {l : List Item} {w : Int} {i : Nat} {n : Int} (h : ¬ i < l.length) : scan l w i n = [] := by rw [scan, dif_neg h]
theorem scan_box {l : List Item} {w : Int} {i : Nat} {n : Int} (h : i < l.length) (k : (nth l i).kind = 0) : scan l w i n = scan l w (i + 1) (n + (nth l i).width) := by rw [scan, dif_pos h]; simp [k]
theorem scan_glue_no {l : List Item} {w : Int} {i : Nat} {n : Int} (h : i < l.length) (k : (nth l i).kind = 1) (c : w < n) : scan l w i n = [] := by rw [scan, dif_pos h]; simp [k, c]
theorem scan_glue {l : List Item} {w : Int} {i : Nat} {n : Int} (h : i < l.length) (k : (nth l i).kind = 1) (c : ¬ w < n) : scan l w i n = (i + 1, n, (w - n) * (w - n)) :: scan l w (i + 1) (n + (nth l i).width) := by rw [scan, dif_pos h]; simp [k, c]
theorem scan_hyph_no {l : List Item} {w : Int} {i : Nat} {n : Int} (h : i < l.length) (k : (nth l i).kind = 2) (c : ¬ n + (nth l i).width ≤ w) : scan l w i n = scan l w (i + 1) n := by rw [scan, dif_pos h]; simp [k, c]
theorem scan_hyph {l : List Item} {w : Int} {i : Nat} {n : Int} (h : i < l.length) (k : (nth l i).kind = 2) (c : n + (nth l i).width ≤ w) : scan l w i n = (i + 1, n + (nth l i).width, (w - (n + (nth l i).width)) * (w - (n + (nth l i).width)) + (nth l i).cost) :: scan l w (i + 1) n := by rw [scan, dif_pos h]; simp [k, c]
theorem scan_last_no {l : List Item} {w : Int} {i : Nat} {n : Int} (h : i < l.length) (k : (nth l i).kind = 3) (c : ¬ n ≤ w) : scan l w i n = [] := by rw [scan, dif_pos h]; simp [k, c]
theorem scan_last {l : List Item} {w : Int} {i : Nat} {n : Int} (h : i < l.length) (k : (nth l i).kind = 3) (c : n ≤ w) : scan l w i n = [(i + 1, n, 0)] := by rw [scan, dif_pos h]; simp [k, c]

def lineA (a : Nat) (x : Nat × Int × Int) : AVal := .agg [.int .i64 a, .int .i64 x.1, .int .i64 x.2.1]

theorem sq_bound {w n : Int} (h1 : 1 ≤ w) (h2 : w ≤ 65536) (h3 : 0 ≤ n) (h4 : n ≤ 100000000) : 0 ≤ (w - n) * (w - n) ∧ (w - n) * (w - n) ≤ 10000000000000000 := by
  have h5 : w - n ≤ 100000000 := by omega
  have h6 : -100000000 ≤ w - n := by omega
  generalize w - n = d at h5 h6
  constructor
  · rcases Int.le_total 0 d with h | h
    · exact Int.mul_nonneg h h
    · have := Int.mul_nonneg (a := -d) (b := -d) (by omega) (by omega)
      rwa [Int.neg_mul_neg] at this
  · rcases Int.le_total 0 d with h | h
    · exact Int.le_trans (Int.mul_le_mul h5 h5 h (by omega)) (by decide)
    · have := Int.mul_le_mul (a := -d) (b := -d) (c := 100000000) (d := 100000000) (by omega) (by omega) (by omega) (by omega)
      rw [Int.neg_mul_neg] at this
      omega

theorem lines_c {l : List Item} {t : Tok} {w : Int} {a : Nat} {g : Nat} {cap : List AVal} (hv : valid l) (hw : widthOk w) (ha : a ≤ l.length) (S : Nat → Prop) {h : Heap} (hS : ∀ j, S j → j < h.next)
    (I : List (Nat × Int × Int) → Heap → Prop) (hpush : ∀ d h o, I d h → I d (h.push o))
    (hstep : ∀ d x rest h1, scan l w a 0 = d ++ x :: rest → I d h1 → Fr S h h1 → CV F g ([lineA a x, .int .i64 x.2.2] ++ cap) h1 (fun _ h2 => I (d ++ [x]) h2 ∧ Fr S h1 h2)) (h0 : I [] h) :
    CV F 35 [.sl (items l) t, .int .i64 a, .int .i64 w, .fn g cap] h (fun r h' => r = .tup [] ∧ I (scan l w a 0) h' ∧ Fr S h h') := by
  have hl := hv.2.1
  obtain ⟨hw1, hw2⟩ := hw
  refine CV_wp (fn := c35) rfl ?_
  dsimp only [c35]
  try simp (maxSteps := 4000000) (disch := first | assumption | omega | (simp only [push_next, put_next, empty_next, List.length_cons, List.length_nil] <;> omega) | exact _root_.id rfl | exact _root_.id (fun _ => rfl) | fail) only [↓pre, post, Int.reduceEq, Int.reduceLT, Int.reduceLE, Int.reduceAdd, Int.reduceSub, Int.reduceMul, Int.reduceNeg, Nat.reduceLT, Nat.reduceSub, Nat.reduceMul, Nat.reduceAdd, Nat.reduceLeDiff, reduceIte, reduceCtorEq, Nat.reduceEqDiff]
  repeat' (first
    | (refine ifP_pos (by first | assumption | omega) ?_ <;> try simp (maxSteps := 4000000) (disch := first | assumption | omega | (simp only [push_next, put_next, empty_next, List.length_cons, List.length_nil] <;> omega) | exact _root_.id rfl | exact _root_.id (fun _ => rfl) | fail) only [↓pre, post, Int.reduceEq, Int.reduceLT, Int.reduceLE, Int.reduceAdd, Int.reduceSub, Int.reduceMul, Int.reduceNeg, Nat.reduceLT, Nat.reduceSub, Nat.reduceMul, Nat.reduceAdd, Nat.reduceLeDiff, reduceIte, reduceCtorEq, Nat.reduceEqDiff])
    | (refine ifP_neg (by first | assumption | omega) ?_ <;> try simp (maxSteps := 4000000) (disch := first | assumption | omega | (simp only [push_next, put_next, empty_next, List.length_cons, List.length_nil] <;> omega) | exact _root_.id rfl | exact _root_.id (fun _ => rfl) | fail) only [↓pre, post, Int.reduceEq, Int.reduceLT, Int.reduceLE, Int.reduceAdd, Int.reduceSub, Int.reduceMul, Int.reduceNeg, Nat.reduceLT, Nat.reduceSub, Nat.reduceMul, Nat.reduceAdd, Nat.reduceLeDiff, reduceIte, reduceCtorEq, Nat.reduceEqDiff])
    | (refine ifP_intro (fun hyp => ?_) (fun hyp => ?_) <;> first | simp (maxSteps := 4000000) (disch := first | assumption | omega | (simp only [push_next, put_next, empty_next, List.length_cons, List.length_nil] <;> omega) | exact _root_.id rfl | exact _root_.id (fun _ => rfl) | fail) only [↓pre, post, Int.reduceEq, Int.reduceLT, Int.reduceLE, Int.reduceAdd, Int.reduceSub, Int.reduceMul, Int.reduceNeg, Nat.reduceLT, Nat.reduceSub, Nat.reduceMul, Nat.reduceAdd, Nat.reduceLeDiff, reduceIte, reduceCtorEq, Nat.reduceEqDiff, eq_false hyp] | simp (maxSteps := 4000000) (disch := first | assumption | omega | (simp only [push_next, put_next, empty_next, List.length_cons, List.length_nil] <;> omega) | exact _root_.id rfl | exact _root_.id (fun _ => rfl) | fail) only [↓pre, post, Int.reduceEq, Int.reduceLT, Int.reduceLE, Int.reduceAdd, Int.reduceSub, Int.reduceMul, Int.reduceNeg, Nat.reduceLT, Nat.reduceSub, Nat.reduceMul, Nat.reduceAdd, Nat.reduceLeDiff, reduceIte, reduceCtorEq, Nat.reduceEqDiff, eq_true hyp] | skip))
  refine w_loop (fun m vs h1 => ∃ (i : Nat) (n : Int) (d : List (Nat × Int × Int)) (x6 x7 x8 x9 x10 x11 x12 x13 x14 x15 x16 : AVal), m = l.length - i ∧ a ≤ i ∧ i ≤ l.length ∧ scan l w a 0 = d ++ scan l w i n ∧ I d h1 ∧ Fr S h h1 ∧ 0 ≤ n ∧ n ≤ 65536 * i ∧
    vs = [.sl (items l) t, .int .i64 a, .int .i64 w, .fn g cap, .int .i64 n, .int .i64 i, x6, x7, x8, x9, x10, x11, x12, x13, x14, x15, x16]) (l.length - a)
    ⟨a, 0, [], _, _, _, _, _, _, _, _, _, _, _, rfl, by omega, by omega, rfl, h0, Fr.refl S h, by omega, by omega, rfl⟩ ?_
  rintro m vs h1 ⟨i, n, d, x6, x7, x8, x9, x10, x11, x12, x13, x14, x15, x16, rfl, hai, hi, hsc, hI, hF, hn0, hn1, rfl⟩
  have ho : i < l.length → okItem (nth l i) := hv.2.2.2 i
  have hs := sq_bound hw1 hw2 hn0 (by omega)
  have hs2 := sq_bound (w := w) (n := n + (nth l i).width) hw1 hw2
  have hnS : ¬ S h1.next := fun h' => by have := hS _ h'; have := hF.1; omega
  unfold okItem at ho
  try simp (maxSteps := 4000000) (disch := first | assumption | omega | (simp only [push_next, put_next, empty_next, List.length_cons, List.length_nil] <;> omega) | exact _root_.id rfl | exact _root_.id (fun _ => rfl) | fail) only [↓pre, post, Int.reduceEq, Int.reduceLT, Int.reduceLE, Int.reduceAdd, Int.reduceSub, Int.reduceMul, Int.reduceNeg, Nat.reduceLT, Nat.reduceSub, Nat.reduceMul, Nat.reduceAdd, Nat.reduceLeDiff, reduceIte, reduceCtorEq, Nat.reduceEqDiff, Item.toA]
  repeat' (first
    | (refine ifP_pos (by first | assumption | omega) ?_ <;> try simp (maxSteps := 4000000) (disch := first | assumption | omega | (simp only [push_next, put_next, empty_next, List.length_cons, List.length_nil] <;> omega) | exact _root_.id rfl | exact _root_.id (fun _ => rfl) | fail) only [↓pre, post, Int.reduceEq, Int.reduceLT, Int.reduceLE, Int.reduceAdd, Int.reduceSub, Int.reduceMul, Int.reduceNeg, Nat.reduceLT, Nat.reduceSub, Nat.reduceMul, Nat.reduceAdd, Nat.reduceLeDiff, reduceIte, reduceCtorEq, Nat.reduceEqDiff, Item.toA])
    | (refine ifP_neg (by first | assumption | omega) ?_ <;> try simp (maxSteps := 4000000) (disch := first | assumption | omega | (simp only [push_next, put_next, empty_next, List.length_cons, List.length_nil] <;> omega) | exact _root_.id rfl | exact _root_.id (fun _ => rfl) | fail) only [↓pre, post, Int.reduceEq, Int.reduceLT, Int.reduceLE, Int.reduceAdd, Int.reduceSub, Int.reduceMul, Int.reduceNeg, Nat.reduceLT, Nat.reduceSub, Nat.reduceMul, Nat.reduceAdd, Nat.reduceLeDiff, reduceIte, reduceCtorEq, Nat.reduceEqDiff, Item.toA])
    | (refine ifP_intro (fun hyp => ?_) (fun hyp => ?_) <;> first | simp (maxSteps := 4000000) (disch := first | assumption | omega | (simp only [push_next, put_next, empty_next, List.length_cons, List.length_nil] <;> omega) | exact _root_.id rfl | exact _root_.id (fun _ => rfl) | fail) only [↓pre, post, Int.reduceEq, Int.reduceLT, Int.reduceLE, Int.reduceAdd, Int.reduceSub, Int.reduceMul, Int.reduceNeg, Nat.reduceLT, Nat.reduceSub, Nat.reduceMul, Nat.reduceAdd, Nat.reduceLeDiff, reduceIte, reduceCtorEq, Nat.reduceEqDiff, Item.toA, eq_false hyp] | simp (maxSteps := 4000000) (disch := first | assumption | omega | (simp only [push_next, put_next, empty_next, List.length_cons, List.length_nil] <;> omega) | exact _root_.id rfl | exact _root_.id (fun _ => rfl) | fail) only [↓pre, post, Int.reduceEq, Int.reduceLT, Int.reduceLE, Int.reduceAdd, Int.reduceSub, Int.reduceMul, Int.reduceNeg, Nat.reduceLT, Nat.reduceSub, Nat.reduceMul, Nat.reduceAdd, Nat.reduceLeDiff, reduceIte, reduceCtorEq, Nat.reduceEqDiff, Item.toA, eq_true hyp] | skip))
  · exact lp_n ⟨l.length - (i + 1), by omega, i + 1, _, d, _, _, _, _, _, _, _, _, _, _, _, rfl, by omega, by omega, by rw [hsc, scan_box (by omega) hyp], hpush _ _ _ hI, hF.push _, by omega, by omega, rfl⟩
  · have e := hsc
    rw [scan_glue_no (by omega) (by assumption) hyp, List.append_nil] at e
    rw [e]; exact ⟨hpush _ _ _ hI, hF.push _⟩
  · have e := hsc
    rw [scan_glue (by omega) (by assumption) hyp] at e
    refine CV_mono (hstep d (i + 1, n, (w - n) * (w - n)) _ _ e (hpush _ _ _ hI) (hF.push _)) ?_
    rintro r h' ⟨hI', hF'⟩
    have hg := hF'.get (get_push h1 _) hnS
    try simp (maxSteps := 4000000) (disch := first | assumption | omega | (simp only [push_next, put_next, empty_next, List.length_cons, List.length_nil] <;> omega) | exact _root_.id rfl | exact _root_.id (fun _ => rfl) | fail) only [↓pre, post, Int.reduceEq, Int.reduceLT, Int.reduceLE, Int.reduceAdd, Int.reduceSub, Int.reduceMul, Int.reduceNeg, Nat.reduceLT, Nat.reduceSub, Nat.reduceMul, Nat.reduceAdd, Nat.reduceLeDiff, reduceIte, reduceCtorEq, Nat.reduceEqDiff, hg]
    repeat' (first
      | (refine ifP_pos (by first | assumption | omega) ?_ <;> try simp (maxSteps := 4000000) (disch := first | assumption | omega | (simp only [push_next, put_next, empty_next, List.length_cons, List.length_nil] <;> omega) | exact _root_.id rfl | exact _root_.id (fun _ => rfl) | fail) only [↓pre, post, Int.reduceEq, Int.reduceLT, Int.reduceLE, Int.reduceAdd, Int.reduceSub, Int.reduceMul, Int.reduceNeg, Nat.reduceLT, Nat.reduceSub, Nat.reduceMul, Nat.reduceAdd, Nat.reduceLeDiff, reduceIte, reduceCtorEq, Nat.reduceEqDiff, hg])
      | (refine ifP_neg (by first | assumption | omega) ?_ <;> try simp (maxSteps := 4000000) (disch := first | assumption | omega | (simp only [push_next, put_next, empty_next, List.length_cons, List.length_nil] <;> omega) | exact _root_.id rfl | exact _root_.id (fun _ => rfl) | fail) only [↓pre, post, Int.reduceEq, Int.reduceLT, Int.reduceLE, Int.reduceAdd, Int.reduceSub, Int.reduceMul, Int.reduceNeg, Nat.reduceLT, Nat.reduceSub, Nat.reduceMul, Nat.reduceAdd, Nat.reduceLeDiff, reduceIte, reduceCtorEq, Nat.reduceEqDiff, hg])
      | (refine ifP_intro (fun hyp => ?_) (fun hyp => ?_) <;> first | simp (maxSteps := 4000000) (disch := first | assumption | omega | (simp only [push_next, put_next, empty_next, List.length_cons, List.length_nil] <;> omega) | exact _root_.id rfl | exact _root_.id (fun _ => rfl) | fail) only [↓pre, post, Int.reduceEq, Int.reduceLT, Int.reduceLE, Int.reduceAdd, Int.reduceSub, Int.reduceMul, Int.reduceNeg, Nat.reduceLT, Nat.reduceSub, Nat.reduceMul, Nat.reduceAdd, Nat.reduceLeDiff, reduceIte, reduceCtorEq, Nat.reduceEqDiff, hg, eq_false hyp] | simp (maxSteps := 4000000) (disch := first | assumption | omega | (simp only [push_next, put_next, empty_next, List.length_cons, List.length_nil] <;> omega) | exact _root_.id rfl | exact _root_.id (fun _ => rfl) | fail) only [↓pre, post, Int.reduceEq, Int.reduceLT, Int.reduceLE, Int.reduceAdd, Int.reduceSub, Int.reduceMul, Int.reduceNeg, Nat.reduceLT, Nat.reduceSub, Nat.reduceMul, Nat.reduceAdd, Nat.reduceLeDiff, reduceIte, reduceCtorEq, Nat.reduceEqDiff, hg, eq_true hyp] | skip))
    exact lp_n ⟨l.length - (i + 1), by omega, i + 1, _, _, _, _, _, _, _, _, _, _, _, _, _, rfl, by omega, by omega, by rw [e, List.append_assoc]; rfl, hI', (hF.push _).trans hF', by omega, by omega, rfl⟩
  · have e := hsc
    rw [scan_hyph (by omega) (by assumption) hyp] at e
    refine CV_mono (hstep d (i + 1, n + (nth l i).width, _) _ _ e (hpush _ _ _ hI) (hF.push _)) ?_
    rintro r h' ⟨hI', hF'⟩
    try simp (maxSteps := 4000000) (disch := first | assumption | omega | (simp only [push_next, put_next, empty_next, List.length_cons, List.length_nil] <;> omega) | exact _root_.id rfl | exact _root_.id (fun _ => rfl) | fail) only [↓pre, post, Int.reduceEq, Int.reduceLT, Int.reduceLE, Int.reduceAdd, Int.reduceSub, Int.reduceMul, Int.reduceNeg, Nat.reduceLT, Nat.reduceSub, Nat.reduceMul, Nat.reduceAdd, Nat.reduceLeDiff, reduceIte, reduceCtorEq, Nat.reduceEqDiff]
    repeat' (first
      | (refine ifP_pos (by first | assumption | omega) ?_ <;> try simp (maxSteps := 4000000) (disch := first | assumption | omega | (simp only [push_next, put_next, empty_next, List.length_cons, List.length_nil] <;> omega) | exact _root_.id rfl | exact _root_.id (fun _ => rfl) | fail) only [↓pre, post, Int.reduceEq, Int.reduceLT, Int.reduceLE, Int.reduceAdd, Int.reduceSub, Int.reduceMul, Int.reduceNeg, Nat.reduceLT, Nat.reduceSub, Nat.reduceMul, Nat.reduceAdd, Nat.reduceLeDiff, reduceIte, reduceCtorEq, Nat.reduceEqDiff])
      | (refine ifP_neg (by first | assumption | omega) ?_ <;> try simp (maxSteps := 4000000) (disch := first | assumption | omega | (simp only [push_next, put_next, empty_next, List.length_cons, List.length_nil] <;> omega) | exact _root_.id rfl | exact _root_.id (fun _ => rfl) | fail) only [↓pre, post, Int.reduceEq, Int.reduceLT, Int.reduceLE, Int.reduceAdd, Int.reduceSub, Int.reduceMul, Int.reduceNeg, Nat.reduceLT, Nat.reduceSub, Nat.reduceMul, Nat.reduceAdd, Nat.reduceLeDiff, reduceIte, reduceCtorEq, Nat.reduceEqDiff])
      | (refine ifP_intro (fun hyp => ?_) (fun hyp => ?_) <;> first | simp (maxSteps := 4000000) (disch := first | assumption | omega | (simp only [push_next, put_next, empty_next, List.length_cons, List.length_nil] <;> omega) | exact _root_.id rfl | exact _root_.id (fun _ => rfl) | fail) only [↓pre, post, Int.reduceEq, Int.reduceLT, Int.reduceLE, Int.reduceAdd, Int.reduceSub, Int.reduceMul, Int.reduceNeg, Nat.reduceLT, Nat.reduceSub, Nat.reduceMul, Nat.reduceAdd, Nat.reduceLeDiff, reduceIte, reduceCtorEq, Nat.reduceEqDiff, eq_false hyp] | simp (maxSteps := 4000000) (disch := first | assumption | omega | (simp only [push_next, put_next, empty_next, List.length_cons, List.length_nil] <;> omega) | exact _root_.id rfl | exact _root_.id (fun _ => rfl) | fail) only [↓pre, post, Int.reduceEq, Int.reduceLT, Int.reduceLE, Int.reduceAdd, Int.reduceSub, Int.reduceMul, Int.reduceNeg, Nat.reduceLT, Nat.reduceSub, Nat.reduceMul, Nat.reduceAdd, Nat.reduceLeDiff, reduceIte, reduceCtorEq, Nat.reduceEqDiff, eq_true hyp] | skip))
    exact lp_n ⟨l.length - (i + 1), by omega, i + 1, _, _, _, _, _, _, _, _, _, _, _, _, _, rfl, by omega, by omega, by rw [e, List.append_assoc]; rfl, hI', (hF.push _).trans hF', by omega, by omega, rfl⟩
  · exact lp_n ⟨l.length - (i + 1), by omega, i + 1, _, d, _, _, _, _, _, _, _, _, _, _, _, rfl, by omega, by omega, by rw [hsc, scan_hyph_no (by omega) (by assumption) hyp], hpush _ _ _ hI, hF.push _, by omega, by omega, rfl⟩
  · have e := hsc
    rw [scan_last (by omega) (by omega) hyp] at e
    refine CV_mono (hstep d (i + 1, n, 0) _ _ e (hpush _ _ _ hI) (hF.push _)) ?_
    rintro r h' ⟨hI', hF'⟩
    try simp (maxSteps := 4000000) (disch := first | assumption | omega | (simp only [push_next, put_next, empty_next, List.length_cons, List.length_nil] <;> omega) | exact _root_.id rfl | exact _root_.id (fun _ => rfl) | fail) only [↓pre, post, Int.reduceEq, Int.reduceLT, Int.reduceLE, Int.reduceAdd, Int.reduceSub, Int.reduceMul, Int.reduceNeg, Nat.reduceLT, Nat.reduceSub, Nat.reduceMul, Nat.reduceAdd, Nat.reduceLeDiff, reduceIte, reduceCtorEq, Nat.reduceEqDiff]
    repeat' (first
      | (refine ifP_pos (by first | assumption | omega) ?_ <;> try simp (maxSteps := 4000000) (disch := first | assumption | omega | (simp only [push_next, put_next, empty_next, List.length_cons, List.length_nil] <;> omega) | exact _root_.id rfl | exact _root_.id (fun _ => rfl) | fail) only [↓pre, post, Int.reduceEq, Int.reduceLT, Int.reduceLE, Int.reduceAdd, Int.reduceSub, Int.reduceMul, Int.reduceNeg, Nat.reduceLT, Nat.reduceSub, Nat.reduceMul, Nat.reduceAdd, Nat.reduceLeDiff, reduceIte, reduceCtorEq, Nat.reduceEqDiff])
      | (refine ifP_neg (by first | assumption | omega) ?_ <;> try simp (maxSteps := 4000000) (disch := first | assumption | omega | (simp only [push_next, put_next, empty_next, List.length_cons, List.length_nil] <;> omega) | exact _root_.id rfl | exact _root_.id (fun _ => rfl) | fail) only [↓pre, post, Int.reduceEq, Int.reduceLT, Int.reduceLE, Int.reduceAdd, Int.reduceSub, Int.reduceMul, Int.reduceNeg, Nat.reduceLT, Nat.reduceSub, Nat.reduceMul, Nat.reduceAdd, Nat.reduceLeDiff, reduceIte, reduceCtorEq, Nat.reduceEqDiff])
      | (refine ifP_intro (fun hyp => ?_) (fun hyp => ?_) <;> first | simp (maxSteps := 4000000) (disch := first | assumption | omega | (simp only [push_next, put_next, empty_next, List.length_cons, List.length_nil] <;> omega) | exact _root_.id rfl | exact _root_.id (fun _ => rfl) | fail) only [↓pre, post, Int.reduceEq, Int.reduceLT, Int.reduceLE, Int.reduceAdd, Int.reduceSub, Int.reduceMul, Int.reduceNeg, Nat.reduceLT, Nat.reduceSub, Nat.reduceMul, Nat.reduceAdd, Nat.reduceLeDiff, reduceIte, reduceCtorEq, Nat.reduceEqDiff, eq_false hyp] | simp (maxSteps := 4000000) (disch := first | assumption | omega | (simp only [push_next, put_next, empty_next, List.length_cons, List.length_nil] <;> omega) | exact _root_.id rfl | exact _root_.id (fun _ => rfl) | fail) only [↓pre, post, Int.reduceEq, Int.reduceLT, Int.reduceLE, Int.reduceAdd, Int.reduceSub, Int.reduceMul, Int.reduceNeg, Nat.reduceLT, Nat.reduceSub, Nat.reduceMul, Nat.reduceAdd, Nat.reduceLeDiff, reduceIte, reduceCtorEq, Nat.reduceEqDiff, eq_true hyp] | skip))
    rw [e]
    exact ⟨hI', (hF.push _).trans hF'⟩
  · have e := hsc
    rw [scan_last_no (by omega) (by omega) hyp, List.append_nil] at e
    rw [e]; exact ⟨hpush _ _ _ hI, hF.push _⟩
  · have e := hsc
    rw [scan_end (i := i) (by omega), List.append_nil] at e
    rw [e]; exact ⟨hI, hF⟩

end Go.Proofs.Ytcammfdljiingaa

/-
  Cost of the program and of the reference model.
-/
set_option linter.unusedSimpArgs false
set_option linter.unusedVariables false
set_option maxHeartbeats 4000000
namespace Go.Proofs.Ytcammfdljiingaa
open Go Go.Abs

/-- The cost that the scan gives for an end, the last that comes. -/
def lastC (to : Int) (d : List (Nat × Int × Int)) : Int := d.foldl (fun c x => if (x.1 : Int) = to then x.2.2 else c) (-1)

def costP (l : List Item) (w : Int) (a to : Int) : Int := if (widthOk w ∧ valid l) ∧ (0 ≤ a ∧ a ≤ l.length - 1) ∧ starts l a.toNat then lastC to (scan l w a.toNat 0) else -1

theorem cost1_c {a : Nat} {x : Nat × Int × Int} {to c : Int} {h : Heap} (h0 : h.get 0 = some (.row true 0 false [.int .i64 to])) (h1 : h.get 1 = some (.row true (typed 3) false [.int .i64 c])) (hn : 2 ≤ h.next) :
    CV F 53 ([lineA a x, .int .i64 x.2.2] ++ [.ptr 0 0, .ptr 1 0]) h (fun _ h2 => h2.get 0 = some (.row true 0 false [.int .i64 to]) ∧ h2.get 1 = some (.row true (typed 3) false [.int .i64 (if (x.1 : Int) = to then x.2.2 else c)]) ∧ Fr (· = 1) h h2) := by
  have h1' : ∀ o, (h.put 1 o).get 1 = o := fun o => get_put_old h1
  refine CV_wp (fn := c53) rfl ?_
  dsimp only [c53, lineA]
  try simp (maxSteps := 4000000) (disch := first | assumption | omega | (simp only [push_next, put_next, empty_next, List.length_cons, List.length_nil] <;> omega) | exact _root_.id rfl | exact _root_.id (fun _ => rfl) | fail) only [↓pre, post, Int.reduceEq, Int.reduceLT, Int.reduceLE, Int.reduceAdd, Int.reduceSub, Int.reduceMul, Int.reduceNeg, Nat.reduceLT, Nat.reduceSub, Nat.reduceMul, Nat.reduceAdd, Nat.reduceLeDiff, reduceIte, reduceCtorEq, Nat.reduceEqDiff, h0, h1, h1']
  repeat' (first
    | (refine ifP_pos (by first | assumption | omega) ?_ <;> try simp (maxSteps := 4000000) (disch := first | assumption | omega | (simp only [push_next, put_next, empty_next, List.length_cons, List.length_nil] <;> omega) | exact _root_.id rfl | exact _root_.id (fun _ => rfl) | fail) only [↓pre, post, Int.reduceEq, Int.reduceLT, Int.reduceLE, Int.reduceAdd, Int.reduceSub, Int.reduceMul, Int.reduceNeg, Nat.reduceLT, Nat.reduceSub, Nat.reduceMul, Nat.reduceAdd, Nat.reduceLeDiff, reduceIte, reduceCtorEq, Nat.reduceEqDiff, h0, h1, h1'])
    | (refine ifP_neg (by first | assumption | omega) ?_ <;> try simp (maxSteps := 4000000) (disch := first | assumption | omega | (simp only [push_next, put_next, empty_next, List.length_cons, List.length_nil] <;> omega) | exact _root_.id rfl | exact _root_.id (fun _ => rfl) | fail) only [↓pre, post, Int.reduceEq, Int.reduceLT, Int.reduceLE, Int.reduceAdd, Int.reduceSub, Int.reduceMul, Int.reduceNeg, Nat.reduceLT, Nat.reduceSub, Nat.reduceMul, Nat.reduceAdd, Nat.reduceLeDiff, reduceIte, reduceCtorEq, Nat.reduceEqDiff, h0, h1, h1'])
    | (refine ifP_intro (fun hyp => ?_) (fun hyp => ?_) <;> first | simp (maxSteps := 4000000) (disch := first | assumption | omega | (simp only [push_next, put_next, empty_next, List.length_cons, List.length_nil] <;> omega) | exact _root_.id rfl | exact _root_.id (fun _ => rfl) | fail) only [↓pre, post, Int.reduceEq, Int.reduceLT, Int.reduceLE, Int.reduceAdd, Int.reduceSub, Int.reduceMul, Int.reduceNeg, Nat.reduceLT, Nat.reduceSub, Nat.reduceMul, Nat.reduceAdd, Nat.reduceLeDiff, reduceIte, reduceCtorEq, Nat.reduceEqDiff, h0, h1, h1', eq_false hyp] | simp (maxSteps := 4000000) (disch := first | assumption | omega | (simp only [push_next, put_next, empty_next, List.length_cons, List.length_nil] <;> omega) | exact _root_.id rfl | exact _root_.id (fun _ => rfl) | fail) only [↓pre, post, Int.reduceEq, Int.reduceLT, Int.reduceLE, Int.reduceAdd, Int.reduceSub, Int.reduceMul, Int.reduceNeg, Nat.reduceLT, Nat.reduceSub, Nat.reduceMul, Nat.reduceAdd, Nat.reduceLeDiff, reduceIte, reduceCtorEq, Nat.reduceEqDiff, h0, h1, h1', eq_true hyp] | skip))
  · exact Fr.push (Fr.put (S := (· = 1)) (Fr.refl _ _) (.inl rfl) _) _
  · exact Fr.push (Fr.refl _ _) _

theorem cost_v {l : List Item} {t : Tok} {a to w : Int} (ht : Pt t) (hl : l.length < 1000000) : PV F 27 [.sl (items l) t, .int .i64 a, .int .i64 to, .int .i64 w] = some (.int .i64 (costP l w a to)) := by
  refine PV_wp (fn := c27) rfl ?_
  dsimp only [c27]
  try simp (maxSteps := 4000000) (disch := first | assumption | omega | (simp only [push_next, put_next, empty_next, List.length_cons, List.length_nil] <;> omega) | exact _root_.id rfl | exact _root_.id (fun _ => rfl) | fail) only [↓pre, post, Int.reduceEq, Int.reduceLT, Int.reduceLE, Int.reduceAdd, Int.reduceSub, Int.reduceMul, Int.reduceNeg, Nat.reduceLT, Nat.reduceSub, Nat.reduceMul, Nat.reduceAdd, Nat.reduceLeDiff, reduceIte, reduceCtorEq, Nat.reduceEqDiff, ready_v, within_v, starts_v]
  repeat' (first
    | (refine ifP_pos (by first | assumption | omega) ?_ <;> try simp (maxSteps := 4000000) (disch := first | assumption | omega | (simp only [push_next, put_next, empty_next, List.length_cons, List.length_nil] <;> omega) | exact _root_.id rfl | exact _root_.id (fun _ => rfl) | fail) only [↓pre, post, Int.reduceEq, Int.reduceLT, Int.reduceLE, Int.reduceAdd, Int.reduceSub, Int.reduceMul, Int.reduceNeg, Nat.reduceLT, Nat.reduceSub, Nat.reduceMul, Nat.reduceAdd, Nat.reduceLeDiff, reduceIte, reduceCtorEq, Nat.reduceEqDiff, ready_v, within_v, starts_v])
    | (refine ifP_neg (by first | assumption | omega) ?_ <;> try simp (maxSteps := 4000000) (disch := first | assumption | omega | (simp only [push_next, put_next, empty_next, List.length_cons, List.length_nil] <;> omega) | exact _root_.id rfl | exact _root_.id (fun _ => rfl) | fail) only [↓pre, post, Int.reduceEq, Int.reduceLT, Int.reduceLE, Int.reduceAdd, Int.reduceSub, Int.reduceMul, Int.reduceNeg, Nat.reduceLT, Nat.reduceSub, Nat.reduceMul, Nat.reduceAdd, Nat.reduceLeDiff, reduceIte, reduceCtorEq, Nat.reduceEqDiff, ready_v, within_v, starts_v])
    | (refine ifP_intro (fun hyp => ?_) (fun hyp => ?_) <;> first | simp (maxSteps := 4000000) (disch := first | assumption | omega | (simp only [push_next, put_next, empty_next, List.length_cons, List.length_nil] <;> omega) | exact _root_.id rfl | exact _root_.id (fun _ => rfl) | fail) only [↓pre, post, Int.reduceEq, Int.reduceLT, Int.reduceLE, Int.reduceAdd, Int.reduceSub, Int.reduceMul, Int.reduceNeg, Nat.reduceLT, Nat.reduceSub, Nat.reduceMul, Nat.reduceAdd, Nat.reduceLeDiff, reduceIte, reduceCtorEq, Nat.reduceEqDiff, ready_v, within_v, starts_v, eq_false hyp] | simp (maxSteps := 4000000) (disch := first | assumption | omega | (simp only [push_next, put_next, empty_next, List.length_cons, List.length_nil] <;> omega) | exact _root_.id rfl | exact _root_.id (fun _ => rfl) | fail) only [↓pre, post, Int.reduceEq, Int.reduceLT, Int.reduceLE, Int.reduceAdd, Int.reduceSub, Int.reduceMul, Int.reduceNeg, Nat.reduceLT, Nat.reduceSub, Nat.reduceMul, Nat.reduceAdd, Nat.reduceLeDiff, reduceIte, reduceCtorEq, Nat.reduceEqDiff, ready_v, within_v, starts_v, eq_true hyp] | skip))
  all_goals first
    | exact (if_neg fun h => (‹¬ (widthOk w ∧ valid l)› h.1)).symm
    | exact (if_neg fun h => (‹¬ (0 ≤ a ∧ a ≤ ↑l.length - 1)› h.2.1)).symm
    | exact (if_neg fun h => (‹¬ (starts l a.toNat)› h.2.2)).symm
    | skip
  obtain ⟨n, rfl⟩ := Int.eq_ofNat_of_zero_le (‹0 ≤ a ∧ a ≤ ↑l.length - 1›.1)
  refine CV_mono (lines_c (a := n) (‹widthOk w ∧ valid l›.2) (‹widthOk w ∧ valid l›.1) (by omega) (· = 1) (by intro j hj; subst hj; exact Nat.lt_succ_self 1)
    (fun d h1 => h1.get 0 = some (.row true 0 false [.int .i64 to]) ∧ h1.get 1 = some (.row true (typed 3) false [.int .i64 (lastC to d)])) (fun d h1 o i => ⟨get_push_old i.1, get_push_old i.2⟩)
    (fun d x rest h1 e i f => ?_) (by constructor <;> rfl)) ?_
  · refine CV_mono (cost1_c i.1 i.2 f.1) ?_
    rintro r h2 ⟨i1, i2, i3⟩
    refine ⟨⟨i1, ?_⟩, i3⟩
    simp only [lastC, List.foldl_append, List.foldl_cons, List.foldl_nil] at i2 ⊢
    exact i2
  · rintro r h2 ⟨rfl, ⟨i1, i2⟩, i3⟩
    try simp (maxSteps := 4000000) (disch := first | assumption | omega | (simp only [push_next, put_next, empty_next, List.length_cons, List.length_nil] <;> omega) | exact _root_.id rfl | exact _root_.id (fun _ => rfl) | fail) only [↓pre, post, Int.reduceEq, Int.reduceLT, Int.reduceLE, Int.reduceAdd, Int.reduceSub, Int.reduceMul, Int.reduceNeg, Nat.reduceLT, Nat.reduceSub, Nat.reduceMul, Nat.reduceAdd, Nat.reduceLeDiff, reduceIte, reduceCtorEq, Nat.reduceEqDiff, i2]
    repeat' (first
      | (refine ifP_pos (by first | assumption | omega) ?_ <;> try simp (maxSteps := 4000000) (disch := first | assumption | omega | (simp only [push_next, put_next, empty_next, List.length_cons, List.length_nil] <;> omega) | exact _root_.id rfl | exact _root_.id (fun _ => rfl) | fail) only [↓pre, post, Int.reduceEq, Int.reduceLT, Int.reduceLE, Int.reduceAdd, Int.reduceSub, Int.reduceMul, Int.reduceNeg, Nat.reduceLT, Nat.reduceSub, Nat.reduceMul, Nat.reduceAdd, Nat.reduceLeDiff, reduceIte, reduceCtorEq, Nat.reduceEqDiff, i2])
      | (refine ifP_neg (by first | assumption | omega) ?_ <;> try simp (maxSteps := 4000000) (disch := first | assumption | omega | (simp only [push_next, put_next, empty_next, List.length_cons, List.length_nil] <;> omega) | exact _root_.id rfl | exact _root_.id (fun _ => rfl) | fail) only [↓pre, post, Int.reduceEq, Int.reduceLT, Int.reduceLE, Int.reduceAdd, Int.reduceSub, Int.reduceMul, Int.reduceNeg, Nat.reduceLT, Nat.reduceSub, Nat.reduceMul, Nat.reduceAdd, Nat.reduceLeDiff, reduceIte, reduceCtorEq, Nat.reduceEqDiff, i2])
      | (refine ifP_intro (fun hyp => ?_) (fun hyp => ?_) <;> first | simp (maxSteps := 4000000) (disch := first | assumption | omega | (simp only [push_next, put_next, empty_next, List.length_cons, List.length_nil] <;> omega) | exact _root_.id rfl | exact _root_.id (fun _ => rfl) | fail) only [↓pre, post, Int.reduceEq, Int.reduceLT, Int.reduceLE, Int.reduceAdd, Int.reduceSub, Int.reduceMul, Int.reduceNeg, Nat.reduceLT, Nat.reduceSub, Nat.reduceMul, Nat.reduceAdd, Nat.reduceLeDiff, reduceIte, reduceCtorEq, Nat.reduceEqDiff, i2, eq_false hyp] | simp (maxSteps := 4000000) (disch := first | assumption | omega | (simp only [push_next, put_next, empty_next, List.length_cons, List.length_nil] <;> omega) | exact _root_.id rfl | exact _root_.id (fun _ => rfl) | fail) only [↓pre, post, Int.reduceEq, Int.reduceLT, Int.reduceLE, Int.reduceAdd, Int.reduceSub, Int.reduceMul, Int.reduceNeg, Nat.reduceLT, Nat.reduceSub, Nat.reduceMul, Nat.reduceAdd, Nat.reduceLeDiff, reduceIte, reduceCtorEq, Nat.reduceEqDiff, i2, eq_true hyp] | skip))
    rw [costP, if_pos ⟨by assumption, by assumption, by assumption⟩]; rfl

/-! ### the lines, by their ends -/
def lineOk (l : List Item) (w : Int) (a b : Nat) : Prop := a < b ∧ b ≤ l.length ∧ starts l a ∧ (nth l (b - 1)).kind ≠ 0 ∧ (∀ i, i < b - 1 → a ≤ i → (nth l i).kind ≠ 3) ∧ natS l a b ≤ w
instance (l : List Item) (w : Int) (a b : Nat) : Decidable (lineOk l w a b) := by unfold lineOk; infer_instance
def costN (l : List Item) (w : Int) (a b : Nat) : Int := if (nth l (b - 1)).kind = 3 then 0 else (w - natS l a b) * (w - natS l a b) + (nth l (b - 1)).cost
def costR (l : List Item) (w : Int) (a b : Int) : Int := if (widthOk w ∧ valid l) ∧ 0 ≤ a ∧ 0 ≤ b ∧ lineOk l w a.toNat b.toNat then costN l w a.toNat b.toNat else -1

theorem natural_i {l : List Item} {t : Tok} {a b : Int} (hv : valid l) (h0 : 0 ≤ a) (h1 : a < b) (h2 : b ≤ l.length) : PV F 31 [.sl (items l) t, .int .i64 a, .int .i64 b] = some (.int .i64 (natS l a.toNat b.toNat)) := by
  have := natural_v (l := l) (t := t) (a := a.toNat) (b := b.toNat) hv (by omega) (by omega)
  rwa [show ((a.toNat : Nat) : Int) = a by omega, show ((b.toNat : Nat) : Int) = b by omega] at this

theorem nat_bound {l : List Item} (hv : valid l) {a b : Nat} (h1 : a < b) (h2 : b ≤ l.length) : 0 ≤ natS l a b ∧ natS l a b ≤ 100000000 := by
  have h3 := ws_bound hv (a := a) (b - 1 - a) (by omega)
  have h4 := hv.2.2.2 (b - 1) (by omega)
  have h5 := hv.2.1
  unfold okItem at h4
  unfold natS
  split <;> omega

theorem refCost_v {l : List Item} {t : Tok} {a b w : Int} (ht : Pt t) (hl : l.length < 1000000) : PV F 28 [.sl (items l) t, .int .i64 a, .int .i64 b, .int .i64 w] = some (.int .i64 (costR l w a b)) := by
  refine PV_wp (fn := c28) rfl ?_
  dsimp only [c28]
  try simp (maxSteps := 4000000) (disch := first | assumption | omega | (simp only [push_next, put_next, empty_next, List.length_cons, List.length_nil] <;> omega) | exact _root_.id rfl | exact _root_.id (fun _ => rfl) | fail) only [↓pre, post, Int.reduceEq, Int.reduceLT, Int.reduceLE, Int.reduceAdd, Int.reduceSub, Int.reduceMul, Int.reduceNeg, Nat.reduceLT, Nat.reduceSub, Nat.reduceMul, Nat.reduceAdd, Nat.reduceLeDiff, reduceIte, reduceCtorEq, Nat.reduceEqDiff, refReady_v, Item.toA]
  repeat' (first
    | (refine ifP_pos (by first | assumption | omega) ?_ <;> try simp (maxSteps := 4000000) (disch := first | assumption | omega | (simp only [push_next, put_next, empty_next, List.length_cons, List.length_nil] <;> omega) | exact _root_.id rfl | exact _root_.id (fun _ => rfl) | fail) only [↓pre, post, Int.reduceEq, Int.reduceLT, Int.reduceLE, Int.reduceAdd, Int.reduceSub, Int.reduceMul, Int.reduceNeg, Nat.reduceLT, Nat.reduceSub, Nat.reduceMul, Nat.reduceAdd, Nat.reduceLeDiff, reduceIte, reduceCtorEq, Nat.reduceEqDiff, refReady_v, Item.toA])
    | (refine ifP_neg (by first | assumption | omega) ?_ <;> try simp (maxSteps := 4000000) (disch := first | assumption | omega | (simp only [push_next, put_next, empty_next, List.length_cons, List.length_nil] <;> omega) | exact _root_.id rfl | exact _root_.id (fun _ => rfl) | fail) only [↓pre, post, Int.reduceEq, Int.reduceLT, Int.reduceLE, Int.reduceAdd, Int.reduceSub, Int.reduceMul, Int.reduceNeg, Nat.reduceLT, Nat.reduceSub, Nat.reduceMul, Nat.reduceAdd, Nat.reduceLeDiff, reduceIte, reduceCtorEq, Nat.reduceEqDiff, refReady_v, Item.toA])
    | (refine ifP_intro (fun hyp => ?_) (fun hyp => ?_) <;> first | simp (maxSteps := 4000000) (disch := first | assumption | omega | (simp only [push_next, put_next, empty_next, List.length_cons, List.length_nil] <;> omega) | exact _root_.id rfl | exact _root_.id (fun _ => rfl) | fail) only [↓pre, post, Int.reduceEq, Int.reduceLT, Int.reduceLE, Int.reduceAdd, Int.reduceSub, Int.reduceMul, Int.reduceNeg, Nat.reduceLT, Nat.reduceSub, Nat.reduceMul, Nat.reduceAdd, Nat.reduceLeDiff, reduceIte, reduceCtorEq, Nat.reduceEqDiff, refReady_v, Item.toA, eq_false hyp] | simp (maxSteps := 4000000) (disch := first | assumption | omega | (simp only [push_next, put_next, empty_next, List.length_cons, List.length_nil] <;> omega) | exact _root_.id rfl | exact _root_.id (fun _ => rfl) | fail) only [↓pre, post, Int.reduceEq, Int.reduceLT, Int.reduceLE, Int.reduceAdd, Int.reduceSub, Int.reduceMul, Int.reduceNeg, Nat.reduceLT, Nat.reduceSub, Nat.reduceMul, Nat.reduceAdd, Nat.reduceLeDiff, reduceIte, reduceCtorEq, Nat.reduceEqDiff, refReady_v, Item.toA, eq_true hyp] | skip))
  all_goals first
    | exact (if_neg fun h => (‹¬ (widthOk w ∧ valid l)› h.1)).symm
    | (rw [costR, if_neg]; unfold lineOk starts; omega)
    | skip
  all_goals
    have hv : valid l := ‹widthOk w ∧ valid l›.2
    have hw : widthOk w := ‹widthOk w ∧ valid l›.1
    have hw1 : 1 ≤ w := hw.1
    have hw2 : w ≤ 65536 := hw.2
    have hst : starts l a.toNat := by unfold starts; omega
    have hb := nat_bound hv (a := a.toNat) (b := b.toNat) (by omega) (by omega)
    have hs := sq_bound hw.1 hw.2 hb.1 hb.2
    have ho := hv.2.2.2 (b.toNat - 1) (by omega)
    unfold okItem at ho
    refine w_loop (fun m vs h1 => ∃ (i : Nat) (x6 x7 x8 x9 x10 x11 : AVal), m = b.toNat - i ∧ a ≤ i ∧ i ≤ b - 1 ∧ (∀ j, j < i → a ≤ j → (nth l j).kind ≠ 3) ∧
      vs = [.sl (items l) t, .int .i64 a, .int .i64 b, .int .i64 w, .int .i64 0, .int .i64 i, x6, x7, x8, x9, x10, x11]) (b.toNat - a.toNat)
      ⟨a.toNat, _, _, _, _, _, _, rfl, by omega, by omega, by intros; omega, by rw [show ((a.toNat : Nat) : Int) = a by omega]⟩ ?_
    rintro m vs h1 ⟨i, x6, x7, x8, x9, x10, x11, rfl, hai, hib, hno, rfl⟩
    try simp (maxSteps := 4000000) (disch := first | assumption | omega | (simp only [push_next, put_next, empty_next, List.length_cons, List.length_nil] <;> omega) | exact _root_.id rfl | exact _root_.id (fun _ => rfl) | fail) only [↓pre, post, Int.reduceEq, Int.reduceLT, Int.reduceLE, Int.reduceAdd, Int.reduceSub, Int.reduceMul, Int.reduceNeg, Nat.reduceLT, Nat.reduceSub, Nat.reduceMul, Nat.reduceAdd, Nat.reduceLeDiff, reduceIte, reduceCtorEq, Nat.reduceEqDiff, Item.toA, natural_i]
    repeat' (first
      | (refine ifP_pos (by first | assumption | omega) ?_ <;> try simp (maxSteps := 4000000) (disch := first | assumption | omega | (simp only [push_next, put_next, empty_next, List.length_cons, List.length_nil] <;> omega) | exact _root_.id rfl | exact _root_.id (fun _ => rfl) | fail) only [↓pre, post, Int.reduceEq, Int.reduceLT, Int.reduceLE, Int.reduceAdd, Int.reduceSub, Int.reduceMul, Int.reduceNeg, Nat.reduceLT, Nat.reduceSub, Nat.reduceMul, Nat.reduceAdd, Nat.reduceLeDiff, reduceIte, reduceCtorEq, Nat.reduceEqDiff, Item.toA, natural_i])
      | (refine ifP_neg (by first | assumption | omega) ?_ <;> try simp (maxSteps := 4000000) (disch := first | assumption | omega | (simp only [push_next, put_next, empty_next, List.length_cons, List.length_nil] <;> omega) | exact _root_.id rfl | exact _root_.id (fun _ => rfl) | fail) only [↓pre, post, Int.reduceEq, Int.reduceLT, Int.reduceLE, Int.reduceAdd, Int.reduceSub, Int.reduceMul, Int.reduceNeg, Nat.reduceLT, Nat.reduceSub, Nat.reduceMul, Nat.reduceAdd, Nat.reduceLeDiff, reduceIte, reduceCtorEq, Nat.reduceEqDiff, Item.toA, natural_i])
      | (refine ifP_intro (fun hyp => ?_) (fun hyp => ?_) <;> first | simp (maxSteps := 4000000) (disch := first | assumption | omega | (simp only [push_next, put_next, empty_next, List.length_cons, List.length_nil] <;> omega) | exact _root_.id rfl | exact _root_.id (fun _ => rfl) | fail) only [↓pre, post, Int.reduceEq, Int.reduceLT, Int.reduceLE, Int.reduceAdd, Int.reduceSub, Int.reduceMul, Int.reduceNeg, Nat.reduceLT, Nat.reduceSub, Nat.reduceMul, Nat.reduceAdd, Nat.reduceLeDiff, reduceIte, reduceCtorEq, Nat.reduceEqDiff, Item.toA, natural_i, eq_false hyp] | simp (maxSteps := 4000000) (disch := first | assumption | omega | (simp only [push_next, put_next, empty_next, List.length_cons, List.length_nil] <;> omega) | exact _root_.id rfl | exact _root_.id (fun _ => rfl) | fail) only [↓pre, post, Int.reduceEq, Int.reduceLT, Int.reduceLE, Int.reduceAdd, Int.reduceSub, Int.reduceMul, Int.reduceNeg, Nat.reduceLT, Nat.reduceSub, Nat.reduceMul, Nat.reduceAdd, Nat.reduceLeDiff, reduceIte, reduceCtorEq, Nat.reduceEqDiff, Item.toA, natural_i, eq_true hyp] | skip))
    · rw [costR, if_neg]; rintro ⟨_, _, _, h⟩; exact h.2.2.2.2.1 i (by omega) (by omega) hyp
    · refine lp_n ⟨b.toNat - (i + 1), by omega, i + 1, _, _, _, _, _, _, rfl, by omega, by omega, fun j hj ha => ?_, rfl⟩
      by_cases hji : j = i
      · subst hji; exact hyp
      · exact hno j (by omega) ha
    · rw [costR, if_neg]; rintro ⟨_, _, _, h⟩; have := h.2.2.2.2.2; omega
    · rw [costR, if_pos ⟨⟨hw, hv⟩, by omega, by omega, by omega, by omega, hst, by assumption, fun j hj ha => hno j (by omega) (by omega), by omega⟩, costN, if_pos hyp]
    · rw [costR, if_pos ⟨⟨hw, hv⟩, by omega, by omega, by omega, by omega, hst, by assumption, fun j hj ha => hno j (by omega) (by omega), by omega⟩, costN, if_neg hyp]

end Go.Proofs.Ytcammfdljiingaa

/-
  The plain law of lines: the scan gives just the lines that the reference model prices.
-/
set_option linter.unusedSimpArgs false
set_option linter.unusedVariables false
set_option maxHeartbeats 4000000
namespace Go.Proofs.Ytcammfdljiingaa
open Go Go.Abs

/-- A line to an end, if there is one. -/
def lineAt (l : List Item) (w : Int) (a b : Nat) : Option (Nat × Int × Int) := if lineOk l w a b then some (b, natS l a b, costN l w a b) else none

theorem ws_mono {l : List Item} (hv : valid l) {a : Nat} {m : Nat} : ∀ n, m ≤ n → a + n ≤ l.length → ws l a m ≤ ws l a n
  | 0, h, _ => by rw [Nat.le_zero.1 h]; exact Int.le_refl _
  | n + 1, h, hl => by
    rcases Nat.lt_or_ge m (n + 1) with h' | h'
    · have ih := ws_mono hv (a := a) (m := m) n (by omega) (by omega)
      have ho := hv.2.2.2 (a + n) (by omega)
      unfold okItem at ho
      simp only [ws]
      split <;> omega
    · rw [show m = n + 1 by omega]; exact Int.le_refl _

theorem natS_ge {l : List Item} (hv : valid l) {a b i : Nat} (h1 : a ≤ i) (h2 : i < b) (h3 : b ≤ l.length) : ws l a (i - a) ≤ natS l a b := by
  have h := ws_mono hv (a := a) (m := i - a) (b - 1 - a) (by omega) (by omega)
  have ho := hv.2.2.2 (b - 1) (by omega)
  unfold okItem at ho
  unfold natS
  split <;> omega

theorem scan_eq {l : List Item} {w : Int} {a : Nat} (hv : valid l) (hst : starts l a) : ∀ (k i : Nat), k = l.length - i → a ≤ i → (∀ j, j < i → a ≤ j → (nth l j).kind ≠ 3) →
    scan l w i (ws l a (i - a)) = (List.range' (i + 1) k).filterMap (lineAt l w a)
  | 0, i, hk, hai, hno => by rw [scan_end (by omega)]; rfl
  | k + 1, i, hk, hai, hno => by
    have hi : i < l.length := by omega
    have ho := hv.2.2.2 i hi
    have ih := scan_eq (w := w) hv hst k (i + 1) (by omega) (by omega)
    have ho' := ho
    unfold okItem at ho
    have hn : i + 1 - a = (i - a) + 1 := by omega
    have hai' : a + (i - a) = i := by omega
    have hb1 : i + 1 - 1 = i := by omega
    have nx : ∀ j, (nth l i).kind ≠ 3 → j < i + 1 → a ≤ j → (nth l j).kind ≠ 3 := fun j h3 hj ha => by
      by_cases e : j = i
      · subst e; exact h3
      · exact hno j (by omega) ha
    have stop : (∀ b, i + 2 ≤ b → b ≤ l.length → ¬ lineOk l w a b) → (List.range' (i + 1 + 1) k).filterMap (lineAt l w a) = [] := fun h => by
      rw [List.filterMap_eq_nil_iff]
      intro b hb
      rw [List.mem_range'_1] at hb
      rw [lineAt, if_neg (h b (by omega) (by omega))]
    rw [List.range'_succ, List.filterMap_cons]
    have hnat : natS l a (i + 1) = ws l a (i - a) + (if (nth l i).kind = 2 then (nth l i).width else 0) := by rw [natS, hb1]
    rcases (by omega : (nth l i).kind = 0 ∨ (nth l i).kind = 1 ∨ (nth l i).kind = 2 ∨ (nth l i).kind = 3) with k0 | k1 | k2 | k3
    · have hw : ws l a (i + 1 - a) = ws l a (i - a) + (nth l i).width := by rw [hn, ws, hai', if_neg (by omega)]
      have h0 : lineAt l w a (i + 1) = none := if_neg fun h => h.2.2.2.1 (by rw [hb1]; exact k0)
      rw [scan_box hi k0, ← hw, ih (fun j => nx j (by omega)), h0]
    · have hw : ws l a (i + 1 - a) = ws l a (i - a) + (nth l i).width := by rw [hn, ws, hai', if_neg (by omega)]
      rw [if_neg (by omega), Int.add_zero] at hnat
      by_cases hc : w < ws l a (i - a)
      · have h0 : lineAt l w a (i + 1) = none := if_neg fun h => by have := h.2.2.2.2.2; omega
        rw [scan_glue_no hi k1 hc, h0, stop]
        intro b hb1 hb2 h
        have h1 := natS_ge hv hai (by omega : i < b) hb2
        have := h.2.2.2.2.2; omega
      · have h0 : lineAt l w a (i + 1) = some (i + 1, ws l a (i - a), (w - ws l a (i - a)) * (w - ws l a (i - a))) := by
          rw [lineAt, if_pos ⟨by omega, by omega, hst, by rw [hb1]; omega, fun j hj ha => hno j (by omega) ha, by omega⟩, hnat, costN, hb1, if_neg (by omega), hnat, show (nth l i).cost = 0 by omega, Int.add_zero]
        rw [scan_glue hi k1 hc, ← hw, ih (fun j => nx j (by omega)), h0]
    · have hw : ws l a (i + 1 - a) = ws l a (i - a) := by rw [hn, ws, hai', if_pos k2, Int.add_zero]
      rw [if_pos k2] at hnat
      by_cases hc : ws l a (i - a) + (nth l i).width ≤ w
      · have h0 : lineAt l w a (i + 1) = some (i + 1, ws l a (i - a) + (nth l i).width, (w - (ws l a (i - a) + (nth l i).width)) * (w - (ws l a (i - a) + (nth l i).width)) + (nth l i).cost) := by
          rw [lineAt, if_pos ⟨by omega, by omega, hst, by rw [hb1]; omega, fun j hj ha => hno j (by omega) ha, by omega⟩, hnat, costN, hb1, if_neg (by omega), hnat]
        rw [scan_hyph hi k2 hc, h0]
        have ih := ih (fun j => nx j (by omega))
        rw [hw] at ih
        rw [ih]
      · have h0 : lineAt l w a (i + 1) = none := if_neg fun h => by have := h.2.2.2.2.2; omega
        have ih := ih (fun j => nx j (by omega))
        rw [hw] at ih
        rw [scan_hyph_no hi k2 hc, h0, ih]
    · rw [if_neg (by omega), Int.add_zero] at hnat
      have hstop := stop fun b h1 h2 h => h.2.2.2.2.1 i (by omega) hai k3
      by_cases hc : ws l a (i - a) ≤ w
      · have h0 : lineAt l w a (i + 1) = some (i + 1, ws l a (i - a), 0) := by
          rw [lineAt, if_pos ⟨by omega, by omega, hst, by rw [hb1]; omega, fun j hj ha => hno j (by omega) ha, by omega⟩, hnat, costN, hb1, if_pos k3]
        rw [scan_last hi k3 hc, h0, hstop]
      · have h0 : lineAt l w a (i + 1) = none := if_neg fun h => by have := h.2.2.2.2.2; omega
        rw [scan_last_no hi k3 hc, h0, hstop]

/-- All lines from a start, by their ends. -/
def linesOf (l : List Item) (w : Int) (a : Nat) : List (Nat × Int × Int) := (List.range' (a + 1) (l.length - a)).filterMap (lineAt l w a)

theorem scan_lines {l : List Item} {w : Int} {a : Nat} (hv : valid l) (hst : starts l a) : scan l w a 0 = linesOf l w a := by
  have := scan_eq (w := w) hv hst (l.length - a) a rfl (Nat.le_refl _) (by intros; omega)
  rw [Nat.sub_self] at this
  exact this

theorem lastC_range (l : List Item) (w : Int) (a : Nat) (to : Int) : ∀ (k s : Nat) (c : Int), ((List.range' s k).filterMap (lineAt l w a)).foldl (fun c x => if (x.1 : Int) = to then x.2.2 else c) c =
    if (s : Int) ≤ to ∧ to < s + k ∧ lineOk l w a to.toNat then costN l w a to.toNat else c
  | 0, s, c => by rw [if_neg (by omega)]; rfl
  | k + 1, s, c => by
    rw [List.range'_succ, List.filterMap_cons]
    have ih := lastC_range l w a to k (s + 1)
    by_cases hl : lineOk l w a s
    · rw [lineAt, if_pos hl]
      simp only [List.foldl_cons]
      rw [ih]
      by_cases hs : (s : Int) = to
      · subst hs
        rw [if_pos rfl, if_neg (by omega), if_pos ⟨by omega, by omega, by simpa using hl⟩]
        simp
      · rw [if_neg hs]
        by_cases hc : ((s + 1 : Nat) : Int) ≤ to ∧ to < ((s + 1 : Nat) : Int) + k ∧ lineOk l w a to.toNat
        · rw [if_pos hc, if_pos ⟨by omega, by omega, hc.2.2⟩]
        · rw [if_neg hc, if_neg (fun h => hc ⟨by omega, by omega, h.2.2⟩)]
    · rw [lineAt, if_neg hl]
      simp only
      rw [ih]
      by_cases hc : ((s + 1 : Nat) : Int) ≤ to ∧ to < ((s + 1 : Nat) : Int) + k ∧ lineOk l w a to.toNat
      · rw [if_pos hc, if_pos ⟨by omega, by omega, hc.2.2⟩]
      · rw [if_neg hc, if_neg]
        intro h
        by_cases hs : (s : Int) = to
        · subst hs; exact hl (by simpa using h.2.2)
        · exact hc ⟨by omega, by omega, h.2.2⟩

theorem cost_eq (l : List Item) (w a to : Int) : costP l w a to = costR l w a to := by
  unfold costP costR
  by_cases hr : widthOk w ∧ valid l
  · by_cases ha : 0 ≤ a ∧ a ≤ (l.length : Int) - 1
    · by_cases hs : starts l a.toNat
      · rw [if_pos ⟨hr, ha, hs⟩, scan_lines hr.2 hs, linesOf, lastC, lastC_range]
        by_cases hl : 0 ≤ a ∧ 0 ≤ to ∧ lineOk l w a.toNat to.toNat
        · have h1 := hl.2.2.1
          have h2 := hl.2.2.2.1
          rw [if_pos ⟨by omega, by omega, hl.2.2⟩, if_pos ⟨hr, hl⟩]
        · rw [if_neg (fun h => hl ⟨ha.1, by omega, h.2.2⟩), if_neg (fun h => hl h.2)]
      · rw [if_neg (fun h => hs h.2.2), if_neg (fun h => hs h.2.2.2.2.2.1)]
    · rw [if_neg (fun h => ha h.2.1), if_neg (fun h => ha ⟨h.2.1, by have h1 := h.2.2.2.1; have h2 := h.2.2.2.2.1; omega⟩)]
  · rw [if_neg (fun h => hr h.1), if_neg (fun h => hr h.1)]

end Go.Proofs.Ytcammfdljiingaa

/-
  reach: every line behind each break that has a value.
-/
set_option linter.unusedSimpArgs false
set_option linter.unusedVariables false
set_option maxHeartbeats 8000000
namespace Go.Proofs.Ytcammfdljiingaa
open Go Go.Abs

theorem skip_ge {l : List Item} : ∀ {p : Nat}, p ≤ skip l p := by
  intro p
  induction p using skip.induct l with
  | case1 p h k ih => rw [skip_glue h k]; omega
  | case2 p h k => rw [skip_stop h k]; exact Nat.le_refl _
  | case3 p h => rw [skip_end h]; exact Nat.le_refl _
theorem skip_le {l : List Item} : ∀ {p : Nat}, p ≤ l.length → skip l p ≤ l.length := by
  intro p
  induction p using skip.induct l with
  | case1 p h k ih => intro hp; rw [skip_glue h k]; exact ih (by omega)
  | case2 p h k => intro hp; rw [skip_stop h k]; exact hp
  | case3 p h => intro hp; rw [skip_end h]; exact hp
theorem skip_kind {l : List Item} : ∀ {p : Nat}, skip l p < l.length → (nth l (skip l p)).kind ≠ 1 := by
  intro p
  induction p using skip.induct l with
  | case1 p h k ih => rw [skip_glue h k]; exact ih
  | case2 p h k => rw [skip_stop h k]; exact fun _ => k
  | case3 p h => rw [skip_end h]; intro h'; omega
theorem skip_before {l : List Item} : ∀ {p j : Nat}, p ≤ j → j < skip l p → (nth l j).kind = 1 := by
  intro p
  induction p using skip.induct l with
  | case1 p h k ih =>
    intro j h1 h2
    rw [skip_glue h k] at h2
    by_cases e : j = p
    · subst e; exact k
    · exact ih (by omega) h2
  | case2 p h k => intro j h1 h2; rw [skip_stop h k] at h2; omega
  | case3 p h => intro j h1 h2; rw [skip_end h] at h2; omega
theorem skip_starts {l : List Item} {p : Nat} (h : skip l p < l.length) (hp : p = 0 ∨ (nth l (p - 1)).kind ≠ 0) : starts l (skip l p) := by
  refine ⟨skip_kind h, ?_⟩
  have hge := skip_ge (l := l) (p := p)
  by_cases e : skip l p = p
  · rw [e]
    exact hp
  · right
    have := skip_before (l := l) (p := p) (j := skip l p - 1) (by omega) (by omega)
    omega

/-- The lines behind a break. -/
def linesAt (l : List Item) (w : Int) (p : Nat) : List (Nat × Int × Int) := linesOf l w (skip l p)

theorem linesAt_scan {l : List Item} {w : Int} {p : Nat} (hv : valid l) (hp : p = 0 ∨ (nth l (p - 1)).kind ≠ 0) : scan l w (skip l p) 0 = linesAt l w p := by
  by_cases h : skip l p < l.length
  · exact scan_lines hv (skip_starts h hp)
  · rw [scan_end h, linesAt, linesOf, show l.length - skip l p = 0 by omega]; rfl

/-- One round of reach. -/
def roundS {σ : Type} (l : List Item) (w : Int) (val : σ → Nat → Int) (step : σ → Int → (Nat × Int × Int) → σ) (s : σ) (p : Nat) : σ :=
  let v := if p = 0 then 0 else val s (p - 1)
  if 0 ≤ v ∧ (p = 0 ∨ (nth l (p - 1)).kind ≠ 0) then (linesAt l w p).foldl (fun s x => step s v x) s else s

theorem use_c {a : Nat} {x : Nat × Int × Int} {u v gu : Nat} {vv : Int} {capu : List AVal} {h : Heap} {K : AVal → Heap → Prop} {mu mv : Bool} {su sv : Nat} {au av : Bool} (h0 : h.get u = some (.row mu su au [.fn gu capu])) (h1 : h.get v = some (.row mv sv av [.int .i64 vv]))
    (c : ∀ o, CV F gu ([lineA a x, .int .i64 vv, .int .i64 x.2.2] ++ capu) (h.push o) K) :
    CV F 56 ([lineA a x, .int .i64 x.2.2] ++ [.ptr u 0, .ptr v 0]) h (fun _ h2 => ∃ r, K r h2) := by
  refine CV_wp (fn := c56) rfl ?_
  have hu := get_lt h0
  have hv := get_lt h1
  have h0' := fun o => get_push_old (o := o) h0
  have h1' := fun o => get_push_old (o := o) h1
  dsimp only [c56, lineA]
  try simp (maxSteps := 4000000) (disch := first | assumption | omega | (simp only [push_next, put_next, empty_next, List.length_cons, List.length_nil] <;> omega) | exact _root_.id rfl | exact _root_.id (fun _ => rfl) | fail) only [↓pre, post, Int.reduceEq, Int.reduceLT, Int.reduceLE, Int.reduceAdd, Int.reduceSub, Int.reduceMul, Int.reduceNeg, Nat.reduceLT, Nat.reduceSub, Nat.reduceMul, Nat.reduceAdd, Nat.reduceLeDiff, reduceIte, reduceCtorEq, Nat.reduceEqDiff, h0', h1']
  repeat' (first
    | (refine ifP_pos (by first | assumption | omega) ?_ <;> try simp (maxSteps := 4000000) (disch := first | assumption | omega | (simp only [push_next, put_next, empty_next, List.length_cons, List.length_nil] <;> omega) | exact _root_.id rfl | exact _root_.id (fun _ => rfl) | fail) only [↓pre, post, Int.reduceEq, Int.reduceLT, Int.reduceLE, Int.reduceAdd, Int.reduceSub, Int.reduceMul, Int.reduceNeg, Nat.reduceLT, Nat.reduceSub, Nat.reduceMul, Nat.reduceAdd, Nat.reduceLeDiff, reduceIte, reduceCtorEq, Nat.reduceEqDiff, h0', h1'])
    | (refine ifP_neg (by first | assumption | omega) ?_ <;> try simp (maxSteps := 4000000) (disch := first | assumption | omega | (simp only [push_next, put_next, empty_next, List.length_cons, List.length_nil] <;> omega) | exact _root_.id rfl | exact _root_.id (fun _ => rfl) | fail) only [↓pre, post, Int.reduceEq, Int.reduceLT, Int.reduceLE, Int.reduceAdd, Int.reduceSub, Int.reduceMul, Int.reduceNeg, Nat.reduceLT, Nat.reduceSub, Nat.reduceMul, Nat.reduceAdd, Nat.reduceLeDiff, reduceIte, reduceCtorEq, Nat.reduceEqDiff, h0', h1'])
    | (refine ifP_intro (fun hyp => ?_) (fun hyp => ?_) <;> first | simp (maxSteps := 4000000) (disch := first | assumption | omega | (simp only [push_next, put_next, empty_next, List.length_cons, List.length_nil] <;> omega) | exact _root_.id rfl | exact _root_.id (fun _ => rfl) | fail) only [↓pre, post, Int.reduceEq, Int.reduceLT, Int.reduceLE, Int.reduceAdd, Int.reduceSub, Int.reduceMul, Int.reduceNeg, Nat.reduceLT, Nat.reduceSub, Nat.reduceMul, Nat.reduceAdd, Nat.reduceLeDiff, reduceIte, reduceCtorEq, Nat.reduceEqDiff, h0', h1', eq_false hyp] | simp (maxSteps := 4000000) (disch := first | assumption | omega | (simp only [push_next, put_next, empty_next, List.length_cons, List.length_nil] <;> omega) | exact _root_.id rfl | exact _root_.id (fun _ => rfl) | fail) only [↓pre, post, Int.reduceEq, Int.reduceLT, Int.reduceLE, Int.reduceAdd, Int.reduceSub, Int.reduceMul, Int.reduceNeg, Nat.reduceLT, Nat.reduceSub, Nat.reduceMul, Nat.reduceAdd, Nat.reduceLeDiff, reduceIte, reduceCtorEq, Nat.reduceEqDiff, h0', h1', eq_true hyp] | skip))
  refine CV_mono (c _) ?_
  intro r h2 hk
  try simp (maxSteps := 4000000) (disch := first | assumption | omega | (simp only [push_next, put_next, empty_next, List.length_cons, List.length_nil] <;> omega) | exact _root_.id rfl | exact _root_.id (fun _ => rfl) | fail) only [↓pre, post, Int.reduceEq, Int.reduceLT, Int.reduceLE, Int.reduceAdd, Int.reduceSub, Int.reduceMul, Int.reduceNeg, Nat.reduceLT, Nat.reduceSub, Nat.reduceMul, Nat.reduceAdd, Nat.reduceLeDiff, reduceIte, reduceCtorEq, Nat.reduceEqDiff]
  repeat' (first
    | (refine ifP_pos (by first | assumption | omega) ?_ <;> try simp (maxSteps := 4000000) (disch := first | assumption | omega | (simp only [push_next, put_next, empty_next, List.length_cons, List.length_nil] <;> omega) | exact _root_.id rfl | exact _root_.id (fun _ => rfl) | fail) only [↓pre, post, Int.reduceEq, Int.reduceLT, Int.reduceLE, Int.reduceAdd, Int.reduceSub, Int.reduceMul, Int.reduceNeg, Nat.reduceLT, Nat.reduceSub, Nat.reduceMul, Nat.reduceAdd, Nat.reduceLeDiff, reduceIte, reduceCtorEq, Nat.reduceEqDiff])
    | (refine ifP_neg (by first | assumption | omega) ?_ <;> try simp (maxSteps := 4000000) (disch := first | assumption | omega | (simp only [push_next, put_next, empty_next, List.length_cons, List.length_nil] <;> omega) | exact _root_.id rfl | exact _root_.id (fun _ => rfl) | fail) only [↓pre, post, Int.reduceEq, Int.reduceLT, Int.reduceLE, Int.reduceAdd, Int.reduceSub, Int.reduceMul, Int.reduceNeg, Nat.reduceLT, Nat.reduceSub, Nat.reduceMul, Nat.reduceAdd, Nat.reduceLeDiff, reduceIte, reduceCtorEq, Nat.reduceEqDiff])
    | (refine ifP_intro (fun hyp => ?_) (fun hyp => ?_) <;> first | simp (maxSteps := 4000000) (disch := first | assumption | omega | (simp only [push_next, put_next, empty_next, List.length_cons, List.length_nil] <;> omega) | exact _root_.id rfl | exact _root_.id (fun _ => rfl) | fail) only [↓pre, post, Int.reduceEq, Int.reduceLT, Int.reduceLE, Int.reduceAdd, Int.reduceSub, Int.reduceMul, Int.reduceNeg, Nat.reduceLT, Nat.reduceSub, Nat.reduceMul, Nat.reduceAdd, Nat.reduceLeDiff, reduceIte, reduceCtorEq, Nat.reduceEqDiff, eq_false hyp] | simp (maxSteps := 4000000) (disch := first | assumption | omega | (simp only [push_next, put_next, empty_next, List.length_cons, List.length_nil] <;> omega) | exact _root_.id rfl | exact _root_.id (fun _ => rfl) | fail) only [↓pre, post, Int.reduceEq, Int.reduceLT, Int.reduceLE, Int.reduceAdd, Int.reduceSub, Int.reduceMul, Int.reduceNeg, Nat.reduceLT, Nat.reduceSub, Nat.reduceMul, Nat.reduceAdd, Nat.reduceLeDiff, reduceIte, reduceCtorEq, Nat.reduceEqDiff, eq_true hyp] | skip))
  exact ⟨r, hk⟩

theorem reach_c {σ : Type} {l : List Item} {t : Tok} {w : Int} {gv gu : Nat} {capv capu : List AVal} (ht : Pt t) (hv : valid l) (hw : widthOk w) (S : Nat → Prop) {h : Heap} (hS : ∀ j, S j → j < h.next)
    (V : Nat → Int → Prop) (val : σ → Nat → Int) (step : σ → Int → (Nat × Int × Int) → σ) (I : σ → Heap → Prop)
    (hloc : ∀ s h1 h2, (∀ j, S j → h2.get j = h1.get j) → I s h1 → I s h2) (hV0 : V 0 0)
    (hval : ∀ s k h1, k + 1 < l.length → I s h1 → Fr S h h1 → CV F gv ([.int .i64 (k : Int)] ++ capv) h1 (fun r h2 => r = .int .i64 (val s k) ∧ I s h2 ∧ Fr S h1 h2 ∧ V (k + 1) (val s k)))
    (huse : ∀ s p v x h1, p < l.length → V p v → 0 ≤ v → x ∈ linesAt l w p → I s h1 → Fr S h h1 → CV F gu ([lineA (skip l p) x, .int .i64 v, .int .i64 x.2.2] ++ capu) h1 (fun _ h2 => I (step s v x) h2 ∧ Fr S h1 h2))
    (s0 : σ) (h0 : I s0 h) :
    CV F 41 [.sl (items l) t, .int .i64 w, .fn gv capv, .fn gu capu] h (fun r h' => r = .tup [] ∧ I ((List.range l.length).foldl (roundS l w val step) s0) h' ∧ Fr S h h') := by
  have hl := hv.2.1
  have hl1 := hv.1
  have hpush : ∀ s h1 o, h.next ≤ h1.next → I s h1 → I s (h1.push o) := fun s h1 o hle hi => hloc s h1 _ (fun j hj => get_push_ne (by have := hS j hj; omega)) hi
  refine CV_wp (fn := c41) rfl ?_
  dsimp only [c41]
  try simp (maxSteps := 4000000) (disch := first | assumption | omega | (simp only [push_next, put_next, empty_next, List.length_cons, List.length_nil] <;> omega) | exact _root_.id rfl | exact _root_.id (fun _ => rfl) | fail) only [↓pre, post, Int.reduceEq, Int.reduceLT, Int.reduceLE, Int.reduceAdd, Int.reduceSub, Int.reduceMul, Int.reduceNeg, Nat.reduceLT, Nat.reduceSub, Nat.reduceMul, Nat.reduceAdd, Nat.reduceLeDiff, reduceIte, reduceCtorEq, Nat.reduceEqDiff]
  repeat' (first
    | (refine ifP_pos (by first | assumption | omega) ?_ <;> try simp (maxSteps := 4000000) (disch := first | assumption | omega | (simp only [push_next, put_next, empty_next, List.length_cons, List.length_nil] <;> omega) | exact _root_.id rfl | exact _root_.id (fun _ => rfl) | fail) only [↓pre, post, Int.reduceEq, Int.reduceLT, Int.reduceLE, Int.reduceAdd, Int.reduceSub, Int.reduceMul, Int.reduceNeg, Nat.reduceLT, Nat.reduceSub, Nat.reduceMul, Nat.reduceAdd, Nat.reduceLeDiff, reduceIte, reduceCtorEq, Nat.reduceEqDiff])
    | (refine ifP_neg (by first | assumption | omega) ?_ <;> try simp (maxSteps := 4000000) (disch := first | assumption | omega | (simp only [push_next, put_next, empty_next, List.length_cons, List.length_nil] <;> omega) | exact _root_.id rfl | exact _root_.id (fun _ => rfl) | fail) only [↓pre, post, Int.reduceEq, Int.reduceLT, Int.reduceLE, Int.reduceAdd, Int.reduceSub, Int.reduceMul, Int.reduceNeg, Nat.reduceLT, Nat.reduceSub, Nat.reduceMul, Nat.reduceAdd, Nat.reduceLeDiff, reduceIte, reduceCtorEq, Nat.reduceEqDiff])
    | (refine ifP_intro (fun hyp => ?_) (fun hyp => ?_) <;> first | simp (maxSteps := 4000000) (disch := first | assumption | omega | (simp only [push_next, put_next, empty_next, List.length_cons, List.length_nil] <;> omega) | exact _root_.id rfl | exact _root_.id (fun _ => rfl) | fail) only [↓pre, post, Int.reduceEq, Int.reduceLT, Int.reduceLE, Int.reduceAdd, Int.reduceSub, Int.reduceMul, Int.reduceNeg, Nat.reduceLT, Nat.reduceSub, Nat.reduceMul, Nat.reduceAdd, Nat.reduceLeDiff, reduceIte, reduceCtorEq, Nat.reduceEqDiff, eq_false hyp] | simp (maxSteps := 4000000) (disch := first | assumption | omega | (simp only [push_next, put_next, empty_next, List.length_cons, List.length_nil] <;> omega) | exact _root_.id rfl | exact _root_.id (fun _ => rfl) | fail) only [↓pre, post, Int.reduceEq, Int.reduceLT, Int.reduceLE, Int.reduceAdd, Int.reduceSub, Int.reduceMul, Int.reduceNeg, Nat.reduceLT, Nat.reduceSub, Nat.reduceMul, Nat.reduceAdd, Nat.reduceLeDiff, reduceIte, reduceCtorEq, Nat.reduceEqDiff, eq_true hyp] | skip))
  have hnu : ¬ S h.next := fun h' => by have := hS _ h'; omega
  refine w_loop (fun m vs h1 => ∃ (p : Nat) (v : Int) (x6 x7 x8 x9 : AVal), m = l.length - p ∧ v = (p : Int) - 1 ∧ p ≤ l.length ∧ h1.get h.next = some (.row true 0 false [.fn gu capu]) ∧ I ((List.range p).foldl (roundS l w val step) s0) h1 ∧ Fr S h h1 ∧ h.next < h1.next ∧
    vs = [.sl (items l) t, .int .i64 w, .fn gv capv, .fn gu capu, .ptr h.next 0, .int .i64 v, x6, x7, x8, x9]) (l.length)
    ⟨0, -1, _, _, _, _, rfl, by omega, by omega, get_push _ _, hpush _ _ _ (Nat.le_refl _) h0, (Fr.refl _ _).push _, Nat.lt_succ_self _, rfl⟩ ?_
  rintro m vs h1 ⟨p, v, x6, x7, x8, x9, rfl, rfl, hp, hu, hI, hF, hlt, rfl⟩
  generalize hs : (List.range p).foldl (roundS l w val step) s0 = s at hI
  have hnv : ¬ S h1.next := fun h' => by have := hS _ h'; omega
  have hsk : p ≤ l.length → skip l p ≤ l.length := skip_le
  have hst : PV F 37 [.sl (items l) t, .int .i64 ((p : Int) - 1)] = some (.int .i64 (skip l p)) := start_v p rfl (by omega) (by omega)
  have hnext : (List.range (p + 1)).foldl (roundS l w val step) s0 = roundS l w val step s p := by rw [List.range_succ, List.foldl_append, hs]; rfl
  -- one call of lines, with the value in its row
  have body : ∀ (vv : Int) (h2 : Heap) (Q : AVal → Heap → Prop), p < l.length → V p vv → 0 ≤ vv → (p = 0 ∨ (nth l (p - 1)).kind ≠ 0) → h2.get h.next = some (.row true 0 false [.fn gu capu]) → h2.get h1.next = some (.row true (typed 3) false [.int .i64 vv]) → I s h2 → Fr S h h2 → h1.next < h2.next →
      (∀ h3, I ((linesAt l w p).foldl (fun s x => step s vv x) s) h3 → Fr S h h3 → h1.next < h3.next → h3.get h.next = some (.row true 0 false [.fn gu capu]) → Q (.tup []) h3) →
      CV F 35 [.sl (items l) t, .int .i64 (skip l p), .int .i64 w, .fn 56 [.ptr h.next 0, .ptr h1.next 0]] h2 Q := by
    intro vv h2 Q hpl hVv h0v hk gu2 gv2 hI2 hF2 hlt2 q
    have hsc := linesAt_scan (w := w) hv hk
    refine CV_mono (lines_c (a := skip l p) hv hw (skip_le hp) S (fun j hj => by have := hS j hj; omega)
      (fun d h3 => I (d.foldl (fun s x => step s vv x) s) h3 ∧ h3.get h.next = some (.row true 0 false [.fn gu capu]) ∧ h3.get h1.next = some (.row true (typed 3) false [.int .i64 vv]) ∧ h1.next < h3.next)
      (fun d h3 o i => ⟨hpush _ _ _ (by have := i.2.2.2; omega) i.1, get_push_old i.2.1, get_push_old i.2.2.1, Nat.lt_succ_of_lt i.2.2.2⟩)
      (fun d x rest h3 e i f => ?_) ⟨hI2, gu2, gv2, hlt2⟩) ?_
    · obtain ⟨i1, i2, i3, i4⟩ := i
      have hx : x ∈ linesAt l w p := by rw [← hsc, e]; simp
      have hF3 : Fr S h h3 := hF2.trans f
      refine CV_mono (use_c (K := fun _ h4 => I (step (d.foldl (fun s x => step s vv x) s) vv x) h4 ∧ Fr S h3 h4) i2 i3 (fun o => CV_mono (huse _ p vv x _ hpl hVv h0v hx (hpush _ _ o (by omega) i1) (hF3.push o)) ?_)) ?_
      · rintro r h4 ⟨k1, k2⟩
        exact ⟨k1, ((Fr.refl S h3).push o).trans k2⟩
      · rintro r h4 ⟨_, k1, k2⟩
        refine ⟨⟨?_, k2.get i2 hnu, k2.get i3 hnv, Nat.lt_of_lt_of_le i4 k2.1⟩, k2⟩
        rw [List.foldl_append]; exact k1
    · rintro r h3 ⟨rfl, ⟨i1, i2, i3, i4⟩, f⟩
      rw [hsc] at i1
      exact q h3 i1 (hF2.trans f) i4 i2
  have fin : ∀ (h3 : Heap) (z : Int) (y6 y7 y8 y9 : AVal), p < l.length → z = (p : Int) → I (roundS l w val step s p) h3 → Fr S h h3 → h1.next < h3.next → h3.get h.next = some (.row true 0 false [.fn gu capu]) →
      ∃ m', m' < l.length - p ∧ ∃ (k : Nat) (u : Int) (x6 x7 x8 x9 : AVal), m' = l.length - k ∧ u = (k : Int) - 1 ∧ k ≤ l.length ∧ h3.get h.next = some (.row true 0 false [.fn gu capu]) ∧ I ((List.range k).foldl (roundS l w val step) s0) h3 ∧ Fr S h h3 ∧ h.next < h3.next ∧
        [AVal.sl (items l) t, .int .i64 w, .fn gv capv, .fn gu capu, .ptr h.next 0, .int .i64 z, y6, y7, y8, y9] = [.sl (items l) t, .int .i64 w, .fn gv capv, .fn gu capu, .ptr h.next 0, .int .i64 u, x6, x7, x8, x9] :=
    fun h3 z y6 y7 y8 y9 hpl hz hI3 hF3 hlt3 hu3 => ⟨l.length - (p + 1), by omega, p + 1, z, y6, y7, y8, y9, rfl, by omega, hpl, hu3, by rw [hnext]; exact hI3, hF3, by omega, rfl⟩
  have hnle := hF.1
  try simp (maxSteps := 4000000) (disch := first | assumption | omega | (simp only [push_next, put_next, empty_next, List.length_cons, List.length_nil] <;> omega) | exact _root_.id rfl | exact _root_.id (fun _ => rfl) | fail) only [↓pre, post, Int.reduceEq, Int.reduceLT, Int.reduceLE, Int.reduceAdd, Int.reduceSub, Int.reduceMul, Int.reduceNeg, Nat.reduceLT, Nat.reduceSub, Nat.reduceMul, Nat.reduceAdd, Nat.reduceLeDiff, reduceIte, reduceCtorEq, Nat.reduceEqDiff, hst, Item.toA]
  repeat' (first
    | (refine ifP_pos (by first | assumption | omega) ?_ <;> try simp (maxSteps := 4000000) (disch := first | assumption | omega | (simp only [push_next, put_next, empty_next, List.length_cons, List.length_nil] <;> omega) | exact _root_.id rfl | exact _root_.id (fun _ => rfl) | fail) only [↓pre, post, Int.reduceEq, Int.reduceLT, Int.reduceLE, Int.reduceAdd, Int.reduceSub, Int.reduceMul, Int.reduceNeg, Nat.reduceLT, Nat.reduceSub, Nat.reduceMul, Nat.reduceAdd, Nat.reduceLeDiff, reduceIte, reduceCtorEq, Nat.reduceEqDiff, hst, Item.toA])
    | (refine ifP_neg (by first | assumption | omega) ?_ <;> try simp (maxSteps := 4000000) (disch := first | assumption | omega | (simp only [push_next, put_next, empty_next, List.length_cons, List.length_nil] <;> omega) | exact _root_.id rfl | exact _root_.id (fun _ => rfl) | fail) only [↓pre, post, Int.reduceEq, Int.reduceLT, Int.reduceLE, Int.reduceAdd, Int.reduceSub, Int.reduceMul, Int.reduceNeg, Nat.reduceLT, Nat.reduceSub, Nat.reduceMul, Nat.reduceAdd, Nat.reduceLeDiff, reduceIte, reduceCtorEq, Nat.reduceEqDiff, hst, Item.toA])
    | (refine ifP_intro (fun hyp => ?_) (fun hyp => ?_) <;> first | simp (maxSteps := 4000000) (disch := first | assumption | omega | (simp only [push_next, put_next, empty_next, List.length_cons, List.length_nil] <;> omega) | exact _root_.id rfl | exact _root_.id (fun _ => rfl) | fail) only [↓pre, post, Int.reduceEq, Int.reduceLT, Int.reduceLE, Int.reduceAdd, Int.reduceSub, Int.reduceMul, Int.reduceNeg, Nat.reduceLT, Nat.reduceSub, Nat.reduceMul, Nat.reduceAdd, Nat.reduceLeDiff, reduceIte, reduceCtorEq, Nat.reduceEqDiff, hst, Item.toA, eq_false hyp] | simp (maxSteps := 4000000) (disch := first | assumption | omega | (simp only [push_next, put_next, empty_next, List.length_cons, List.length_nil] <;> omega) | exact _root_.id rfl | exact _root_.id (fun _ => rfl) | fail) only [↓pre, post, Int.reduceEq, Int.reduceLT, Int.reduceLE, Int.reduceAdd, Int.reduceSub, Int.reduceMul, Int.reduceNeg, Nat.reduceLT, Nat.reduceSub, Nat.reduceMul, Nat.reduceAdd, Nat.reduceLeDiff, reduceIte, reduceCtorEq, Nat.reduceEqDiff, hst, Item.toA, eq_true hyp] | skip))
  · have hk : ((p : Int) - 1) = ((p - 1 : Nat) : Int) := by omega
    have hpos : 0 < p := by omega
    rw [hk]
    refine CV_mono (hval s (p - 1) _ (by omega) (hpush _ _ _ (by omega) hI) (hF.push _)) ?_
    rintro r h2 ⟨rfl, i2, f2, v2⟩
    have g1 : h2.get h1.next = some (.row true (typed 3) false [.int .i64 0]) := f2.get (get_push _ _) hnv
    have gu2 := f2.get (get_push_old hu) hnu
    have g1' : ∀ o, (h2.put h1.next o).get h1.next = o := fun o => get_put_old g1
    have hle2 := f2.1
    rw [push_next] at hle2
    rw [show p - 1 + 1 = p by omega] at v2
    have i3 : ∀ o, I s (h2.put h1.next o) := fun o => hloc s h2 _ (fun j hj => get_put_ne (fun e => hnv (e ▸ hj))) i2
    have f3 : ∀ o, Fr S h (h2.put h1.next o) := fun o => ((hF.push _).trans f2).put (.inr (by omega)) o
    have gu3 : ∀ o, (h2.put h1.next o).get h.next = some (.row true 0 false [.fn gu capu]) := fun o => by rw [get_put_ne (by omega)]; exact gu2
    have hst' : PV F 37 [.sl (items l) t, .int .i64 ((p - 1 : Nat) : Int)] = some (.int .i64 (skip l p)) := by rw [← hk]; exact hst
    have r2 : ∀ vv, vv = val s (p - 1) → 0 ≤ vv → (nth l (p - 1)).kind ≠ 0 → roundS l w val step s p = (linesAt l w p).foldl (fun s x => step s vv x) s := fun vv e h0 hk => by
      subst e
      simp only [roundS, show ¬ p = 0 by omega, if_false, h0, hk, ne_eq, not_false_eq_true, or_true, and_self, if_true]
    have r3 : ¬ (0 ≤ val s (p - 1) ∧ (nth l (p - 1)).kind ≠ 0) → roundS l w val step s p = s := fun hn => by
      simp only [roundS, show ¬ p = 0 by omega, if_false, false_or]
      rw [if_neg hn]
    try simp (maxSteps := 4000000) (disch := first | assumption | omega | (simp only [push_next, put_next, empty_next, List.length_cons, List.length_nil] <;> omega) | exact _root_.id rfl | exact _root_.id (fun _ => rfl) | fail) only [↓pre, post, Int.reduceEq, Int.reduceLT, Int.reduceLE, Int.reduceAdd, Int.reduceSub, Int.reduceMul, Int.reduceNeg, Nat.reduceLT, Nat.reduceSub, Nat.reduceMul, Nat.reduceAdd, Nat.reduceLeDiff, reduceIte, reduceCtorEq, Nat.reduceEqDiff, g1, g1', hst', Item.toA]
    repeat' (first
      | (refine ifP_pos (by first | assumption | omega) ?_ <;> try simp (maxSteps := 4000000) (disch := first | assumption | omega | (simp only [push_next, put_next, empty_next, List.length_cons, List.length_nil] <;> omega) | exact _root_.id rfl | exact _root_.id (fun _ => rfl) | fail) only [↓pre, post, Int.reduceEq, Int.reduceLT, Int.reduceLE, Int.reduceAdd, Int.reduceSub, Int.reduceMul, Int.reduceNeg, Nat.reduceLT, Nat.reduceSub, Nat.reduceMul, Nat.reduceAdd, Nat.reduceLeDiff, reduceIte, reduceCtorEq, Nat.reduceEqDiff, g1, g1', hst', Item.toA])
      | (refine ifP_neg (by first | assumption | omega) ?_ <;> try simp (maxSteps := 4000000) (disch := first | assumption | omega | (simp only [push_next, put_next, empty_next, List.length_cons, List.length_nil] <;> omega) | exact _root_.id rfl | exact _root_.id (fun _ => rfl) | fail) only [↓pre, post, Int.reduceEq, Int.reduceLT, Int.reduceLE, Int.reduceAdd, Int.reduceSub, Int.reduceMul, Int.reduceNeg, Nat.reduceLT, Nat.reduceSub, Nat.reduceMul, Nat.reduceAdd, Nat.reduceLeDiff, reduceIte, reduceCtorEq, Nat.reduceEqDiff, g1, g1', hst', Item.toA])
      | (refine ifP_intro (fun hyp => ?_) (fun hyp => ?_) <;> first | simp (maxSteps := 4000000) (disch := first | assumption | omega | (simp only [push_next, put_next, empty_next, List.length_cons, List.length_nil] <;> omega) | exact _root_.id rfl | exact _root_.id (fun _ => rfl) | fail) only [↓pre, post, Int.reduceEq, Int.reduceLT, Int.reduceLE, Int.reduceAdd, Int.reduceSub, Int.reduceMul, Int.reduceNeg, Nat.reduceLT, Nat.reduceSub, Nat.reduceMul, Nat.reduceAdd, Nat.reduceLeDiff, reduceIte, reduceCtorEq, Nat.reduceEqDiff, g1, g1', hst', Item.toA, eq_false hyp] | simp (maxSteps := 4000000) (disch := first | assumption | omega | (simp only [push_next, put_next, empty_next, List.length_cons, List.length_nil] <;> omega) | exact _root_.id rfl | exact _root_.id (fun _ => rfl) | fail) only [↓pre, post, Int.reduceEq, Int.reduceLT, Int.reduceLE, Int.reduceAdd, Int.reduceSub, Int.reduceMul, Int.reduceNeg, Nat.reduceLT, Nat.reduceSub, Nat.reduceMul, Nat.reduceAdd, Nat.reduceLeDiff, reduceIte, reduceCtorEq, Nat.reduceEqDiff, g1, g1', hst', Item.toA, eq_true hyp] | skip))
    · exact lp_n (fin _ _ _ _ _ _ (by omega) (by omega) (by rw [r3 (fun h' => h'.2 (by assumption))]; exact i3 _) (f3 _) (by rw [put_next]; omega) (gu3 _))
    · refine body (val s (p - 1)) _ _ (by omega) v2 (by omega) (.inr (by assumption)) (gu3 _) (g1' _) (i3 _) (f3 _) (by rw [put_next]; omega) ?_
      intro h3 i4 f4 hlt4 hu4
      try simp (maxSteps := 4000000) (disch := first | assumption | omega | (simp only [push_next, put_next, empty_next, List.length_cons, List.length_nil] <;> omega) | exact _root_.id rfl | exact _root_.id (fun _ => rfl) | fail) only [↓pre, post, Int.reduceEq, Int.reduceLT, Int.reduceLE, Int.reduceAdd, Int.reduceSub, Int.reduceMul, Int.reduceNeg, Nat.reduceLT, Nat.reduceSub, Nat.reduceMul, Nat.reduceAdd, Nat.reduceLeDiff, reduceIte, reduceCtorEq, Nat.reduceEqDiff]
      repeat' (first
        | (refine ifP_pos (by first | assumption | omega) ?_ <;> try simp (maxSteps := 4000000) (disch := first | assumption | omega | (simp only [push_next, put_next, empty_next, List.length_cons, List.length_nil] <;> omega) | exact _root_.id rfl | exact _root_.id (fun _ => rfl) | fail) only [↓pre, post, Int.reduceEq, Int.reduceLT, Int.reduceLE, Int.reduceAdd, Int.reduceSub, Int.reduceMul, Int.reduceNeg, Nat.reduceLT, Nat.reduceSub, Nat.reduceMul, Nat.reduceAdd, Nat.reduceLeDiff, reduceIte, reduceCtorEq, Nat.reduceEqDiff])
        | (refine ifP_neg (by first | assumption | omega) ?_ <;> try simp (maxSteps := 4000000) (disch := first | assumption | omega | (simp only [push_next, put_next, empty_next, List.length_cons, List.length_nil] <;> omega) | exact _root_.id rfl | exact _root_.id (fun _ => rfl) | fail) only [↓pre, post, Int.reduceEq, Int.reduceLT, Int.reduceLE, Int.reduceAdd, Int.reduceSub, Int.reduceMul, Int.reduceNeg, Nat.reduceLT, Nat.reduceSub, Nat.reduceMul, Nat.reduceAdd, Nat.reduceLeDiff, reduceIte, reduceCtorEq, Nat.reduceEqDiff])
        | (refine ifP_intro (fun hyp => ?_) (fun hyp => ?_) <;> first | simp (maxSteps := 4000000) (disch := first | assumption | omega | (simp only [push_next, put_next, empty_next, List.length_cons, List.length_nil] <;> omega) | exact _root_.id rfl | exact _root_.id (fun _ => rfl) | fail) only [↓pre, post, Int.reduceEq, Int.reduceLT, Int.reduceLE, Int.reduceAdd, Int.reduceSub, Int.reduceMul, Int.reduceNeg, Nat.reduceLT, Nat.reduceSub, Nat.reduceMul, Nat.reduceAdd, Nat.reduceLeDiff, reduceIte, reduceCtorEq, Nat.reduceEqDiff, eq_false hyp] | simp (maxSteps := 4000000) (disch := first | assumption | omega | (simp only [push_next, put_next, empty_next, List.length_cons, List.length_nil] <;> omega) | exact _root_.id rfl | exact _root_.id (fun _ => rfl) | fail) only [↓pre, post, Int.reduceEq, Int.reduceLT, Int.reduceLE, Int.reduceAdd, Int.reduceSub, Int.reduceMul, Int.reduceNeg, Nat.reduceLT, Nat.reduceSub, Nat.reduceMul, Nat.reduceAdd, Nat.reduceLeDiff, reduceIte, reduceCtorEq, Nat.reduceEqDiff, eq_true hyp] | skip))
      exact lp_n (fin h3 _ _ _ _ _ (by omega) (by omega) (by rw [r2 _ rfl (by omega) (by assumption)]; exact i4) f4 hlt4 hu4)
    · exact lp_n (fin _ _ _ _ _ _ (by omega) (by omega) (by rw [r3 (fun h' => by omega)]; exact i3 _) (f3 _) (by rw [put_next]; omega) (gu3 _))
  · have hp0 : p = 0 := by omega
    subst hp0
    refine body 0 _ _ (by omega) hV0 (by omega) (.inl rfl) (get_push_old hu) (get_push _ _) (hpush _ _ _ (by omega) hI) (hF.push _) (Nat.lt_succ_self _) ?_
    intro h3 i3 f3 hlt3 hu3
    try simp (maxSteps := 4000000) (disch := first | assumption | omega | (simp only [push_next, put_next, empty_next, List.length_cons, List.length_nil] <;> omega) | exact _root_.id rfl | exact _root_.id (fun _ => rfl) | fail) only [↓pre, post, Int.reduceEq, Int.reduceLT, Int.reduceLE, Int.reduceAdd, Int.reduceSub, Int.reduceMul, Int.reduceNeg, Nat.reduceLT, Nat.reduceSub, Nat.reduceMul, Nat.reduceAdd, Nat.reduceLeDiff, reduceIte, reduceCtorEq, Nat.reduceEqDiff]
    repeat' (first
      | (refine ifP_pos (by first | assumption | omega) ?_ <;> try simp (maxSteps := 4000000) (disch := first | assumption | omega | (simp only [push_next, put_next, empty_next, List.length_cons, List.length_nil] <;> omega) | exact _root_.id rfl | exact _root_.id (fun _ => rfl) | fail) only [↓pre, post, Int.reduceEq, Int.reduceLT, Int.reduceLE, Int.reduceAdd, Int.reduceSub, Int.reduceMul, Int.reduceNeg, Nat.reduceLT, Nat.reduceSub, Nat.reduceMul, Nat.reduceAdd, Nat.reduceLeDiff, reduceIte, reduceCtorEq, Nat.reduceEqDiff])
      | (refine ifP_neg (by first | assumption | omega) ?_ <;> try simp (maxSteps := 4000000) (disch := first | assumption | omega | (simp only [push_next, put_next, empty_next, List.length_cons, List.length_nil] <;> omega) | exact _root_.id rfl | exact _root_.id (fun _ => rfl) | fail) only [↓pre, post, Int.reduceEq, Int.reduceLT, Int.reduceLE, Int.reduceAdd, Int.reduceSub, Int.reduceMul, Int.reduceNeg, Nat.reduceLT, Nat.reduceSub, Nat.reduceMul, Nat.reduceAdd, Nat.reduceLeDiff, reduceIte, reduceCtorEq, Nat.reduceEqDiff])
      | (refine ifP_intro (fun hyp => ?_) (fun hyp => ?_) <;> first | simp (maxSteps := 4000000) (disch := first | assumption | omega | (simp only [push_next, put_next, empty_next, List.length_cons, List.length_nil] <;> omega) | exact _root_.id rfl | exact _root_.id (fun _ => rfl) | fail) only [↓pre, post, Int.reduceEq, Int.reduceLT, Int.reduceLE, Int.reduceAdd, Int.reduceSub, Int.reduceMul, Int.reduceNeg, Nat.reduceLT, Nat.reduceSub, Nat.reduceMul, Nat.reduceAdd, Nat.reduceLeDiff, reduceIte, reduceCtorEq, Nat.reduceEqDiff, eq_false hyp] | simp (maxSteps := 4000000) (disch := first | assumption | omega | (simp only [push_next, put_next, empty_next, List.length_cons, List.length_nil] <;> omega) | exact _root_.id rfl | exact _root_.id (fun _ => rfl) | fail) only [↓pre, post, Int.reduceEq, Int.reduceLT, Int.reduceLE, Int.reduceAdd, Int.reduceSub, Int.reduceMul, Int.reduceNeg, Nat.reduceLT, Nat.reduceSub, Nat.reduceMul, Nat.reduceAdd, Nat.reduceLeDiff, reduceIte, reduceCtorEq, Nat.reduceEqDiff, eq_true hyp] | skip))
    exact lp_n (fin h3 _ _ _ _ _ (by omega) (by omega) i3 f3 hlt3 hu3)
  · have hpe : p = l.length := by omega
    subst hpe
    rw [hs]
    exact ⟨hI, hF⟩

end Go.Proofs.Ytcammfdljiingaa

/-
  bits.Mul of one and a small number, reckoned by the kernel.
-/
set_option linter.unusedVariables false
namespace Go.Proofs.Ytcammfdljiingaa
open Go Go.Abs

def mulOk (n : Nat) : Bool := match run F 60 (.call 55 [.int .u64 1, .int .u64 n] Heap.empty) with
  | some (.val (.tup [.int .u64 a, .int .u64 b]) _) => a == 0 && b == n
  | _ => false
theorem mul_all : (List.range 201).all mulOk = true := by kernel_rfl
theorem mul_v {n : Nat} (h : n ≤ 200) : PV F 55 [.int .u64 1, .int .u64 n] = some (.tup [.int .u64 0, .int .u64 n]) := by
  have := List.all_eq_true.1 mul_all n (by rw [List.mem_range]; omega)
  unfold mulOk at this
  split at this
  · rename_i a b h' e
    simp only [Bool.and_eq_true, beq_iff_eq] at this
    obtain ⟨rfl, rfl⟩ := this
    exact PV_of (gives_mk e) rfl
  · simp at this

end Go.Proofs.Ytcammfdljiingaa

/-
  Duals of the program.
-/
set_option linter.unusedSimpArgs false
set_option linter.unusedVariables false
set_option maxHeartbeats 8000000
namespace Go.Proofs.Ytcammfdljiingaa
open Go Go.Abs

theorem setCells_get : ∀ (ys cs : List AVal) (i k : Nat), i + ys.length ≤ cs.length → (setCells cs i ys)[k]? = if i ≤ k ∧ k < i + ys.length then ys[k - i]? else cs[k]?
  | [], cs, i, k, h => by rw [if_neg (by rintro ⟨h1, h2⟩; simp only [List.length_nil] at h2; omega)]; rfl
  | y :: ys, cs, i, k, h => by
    simp only [setCells, List.length_cons] at h ⊢
    rw [setCells_get ys _ _ _ (by simp; omega)]
    by_cases h1 : i + 1 ≤ k ∧ k < i + 1 + ys.length
    · rw [if_pos h1, if_pos (by omega), show k - i = (k - (i + 1)) + 1 by omega, List.getElem?_cons_succ]
    · rw [if_neg h1]
      by_cases h2 : k = i
      · subst h2
        rw [if_pos (by omega), Nat.sub_self, List.getElem?_cons_zero, List.getElem?_set_self (by omega)]
      · rw [if_neg (by omega), List.getElem?_set_ne (by omega)]

theorem wrap_u64 {x : Int} (h1 : 0 ≤ x) (h2 : x < 18446744073709551616) : IntKind.u64.wrap x = x := by
  exact IntWalk.u64_in x ⟨h1, by omega⟩

/-- Cells that are -1 up to a place. -/
def negTo (cs : List AVal) (n b : Nat) : Prop := cs.length = n ∧ ∀ k, k < b → cs[k]? = some (.int .i64 (-1))

theorem repeat_c {n : Nat} {h : Heap} (hn : n ≤ 200) (h1 : 1 ≤ n) : CV F 40 [.sl [.int .i64 (-1)] .none, .int .i64 n] h (fun r h' => r = .ref h.next 0 n 1 ∧ h' = h.push (.row true 1 false ((List.replicate n (-1)).map (.int .i64)))) := by
  have hm : PV F 55 [.int .u64 ((1 : Nat) : Int), .int .u64 n] = some (.tup [.int .u64 0, .int .u64 n]) := mul_v hn
  have hlen : ∀ m, (repl m [AVal.int .i64 0]).length = m := fun m => by simp [repl]
  have cp1 : copyA 1 (.ref h.next 0 n 1) (.sl [.int .i64 (-1)] .none) (h.push (.row true 1 false (repl n [.int .i64 0]))) = some (.int .i64 1, h.push (.row true 1 false ((repl n [.int .i64 0]).set 0 (.int .i64 (-1))))) := by
    have e2 : elemsA (h.push (.row true 1 false (repl n [.int .i64 0]))) 1 (.sl [.int .i64 (-1)] .none) = some [.int .i64 (-1)] := rfl
    have hmin : min 1 n = 1 := by omega
    simp only [copyA, lenA, List.length_cons, List.length_nil, Nat.zero_add, e2, get_push, hlen, Nat.mul_one, Nat.le_refl, hmin, put_push]
    rfl
  refine CV_wp (fn := c40) rfl ?_
  dsimp only [c40]
  try simp (maxSteps := 4000000) (disch := first | assumption | omega | (simp only [push_next, put_next, empty_next, List.length_cons, List.length_nil] <;> omega) | exact _root_.id rfl | exact _root_.id (fun _ => rfl) | fail) only [↓pre, post, Int.reduceEq, Int.reduceLT, Int.reduceLE, Int.reduceAdd, Int.reduceSub, Int.reduceMul, Int.reduceNeg, Nat.reduceLT, Nat.reduceSub, Nat.reduceMul, Nat.reduceAdd, Nat.reduceLeDiff, reduceIte, reduceCtorEq, Nat.reduceEqDiff, wrap_u64, hm, cp1]
  repeat' (first
    | (refine ifP_pos (by first | assumption | omega) ?_ <;> try simp (maxSteps := 4000000) (disch := first | assumption | omega | (simp only [push_next, put_next, empty_next, List.length_cons, List.length_nil] <;> omega) | exact _root_.id rfl | exact _root_.id (fun _ => rfl) | fail) only [↓pre, post, Int.reduceEq, Int.reduceLT, Int.reduceLE, Int.reduceAdd, Int.reduceSub, Int.reduceMul, Int.reduceNeg, Nat.reduceLT, Nat.reduceSub, Nat.reduceMul, Nat.reduceAdd, Nat.reduceLeDiff, reduceIte, reduceCtorEq, Nat.reduceEqDiff, wrap_u64, hm, cp1])
    | (refine ifP_neg (by first | assumption | omega) ?_ <;> try simp (maxSteps := 4000000) (disch := first | assumption | omega | (simp only [push_next, put_next, empty_next, List.length_cons, List.length_nil] <;> omega) | exact _root_.id rfl | exact _root_.id (fun _ => rfl) | fail) only [↓pre, post, Int.reduceEq, Int.reduceLT, Int.reduceLE, Int.reduceAdd, Int.reduceSub, Int.reduceMul, Int.reduceNeg, Nat.reduceLT, Nat.reduceSub, Nat.reduceMul, Nat.reduceAdd, Nat.reduceLeDiff, reduceIte, reduceCtorEq, Nat.reduceEqDiff, wrap_u64, hm, cp1])
    | (refine ifP_intro (fun hyp => ?_) (fun hyp => ?_) <;> first | simp (maxSteps := 4000000) (disch := first | assumption | omega | (simp only [push_next, put_next, empty_next, List.length_cons, List.length_nil] <;> omega) | exact _root_.id rfl | exact _root_.id (fun _ => rfl) | fail) only [↓pre, post, Int.reduceEq, Int.reduceLT, Int.reduceLE, Int.reduceAdd, Int.reduceSub, Int.reduceMul, Int.reduceNeg, Nat.reduceLT, Nat.reduceSub, Nat.reduceMul, Nat.reduceAdd, Nat.reduceLeDiff, reduceIte, reduceCtorEq, Nat.reduceEqDiff, wrap_u64, hm, cp1, eq_false hyp] | simp (maxSteps := 4000000) (disch := first | assumption | omega | (simp only [push_next, put_next, empty_next, List.length_cons, List.length_nil] <;> omega) | exact _root_.id rfl | exact _root_.id (fun _ => rfl) | fail) only [↓pre, post, Int.reduceEq, Int.reduceLT, Int.reduceLE, Int.reduceAdd, Int.reduceSub, Int.reduceMul, Int.reduceNeg, Nat.reduceLT, Nat.reduceSub, Nat.reduceMul, Nat.reduceAdd, Nat.reduceLeDiff, reduceIte, reduceCtorEq, Nat.reduceEqDiff, wrap_u64, hm, cp1, eq_true hyp] | skip))
  refine w_loop (fun m vs h0 => ∃ (b : Nat) (cs : List AVal) (x7 x8 x9 : AVal), m = n - b ∧ 1 ≤ b ∧ b ≤ n ∧ h0 = h.push (.row true 1 false cs) ∧ negTo cs n b ∧
    vs = [.sl [.int .i64 (-1)] .none, .int .i64 n, .sl [] .nil, .int .u64 0, .int .u64 n, .ref h.next 0 n 1, .int .i64 b, x7, x8, x9]) (n - 1)
    ⟨1, _, _, _, _, by omega, by omega, by omega, rfl, ⟨by simp [hlen], fun k hk => by
      have : k = 0 := by omega
      subst this
      rw [List.getElem?_set_self (by rw [hlen]; omega)]⟩, rfl⟩ ?_
  rintro m vs h0 ⟨b, cs, x7, x8, x9, rfl, hb1, hb, rfl, ⟨hc1, hc2⟩, rfl⟩
  have cp2 : b < n → copyA 1 (.ref h.next (b * 1) (n - b) 1) (.ref h.next 0 b 1) (h.push (.row true 1 false cs)) = some (.int .i64 (min b (n - b) : Nat), h.push (.row true 1 false (setCells cs b (cs.take (min b (n - b)))))) := fun hbn => by
    have e2 : elemsA (h.push (.row true 1 false cs)) 1 (.ref h.next 0 b 1) = some (cs.take b) := by
      simp only [elemsA, if_true, get_push, Nat.mul_one, Nat.zero_add, List.drop_zero, hc1]
      rw [if_pos hb]
    have e3 : b + (n - b) ≤ cs.length := by omega
    have e4 : (cs.take b).all AVal.one = true := by
      rw [List.all_eq_true]
      intro x hx
      obtain ⟨k, hk, rfl⟩ := List.getElem_of_mem hx
      have hk' : k < b := by simp at hk; omega
      have := hc2 k hk'
      rw [List.getElem?_eq_getElem (by omega)] at this
      simp only [Option.some.injEq] at this
      rw [List.getElem_take, this]; rfl
    simp only [copyA, lenA, e2, get_push, Nat.zero_add, Nat.mul_one, e3, e4, and_self, if_true, put_push]
    rw [List.take_take, Nat.min_eq_left (by omega : min b (n - b) ≤ b)]
  have hcast : b < n → ((min b (n - b) : Nat) : Int) ≤ n := fun _ => by omega
  try simp (maxSteps := 4000000) (disch := first | assumption | omega | (simp only [push_next, put_next, empty_next, List.length_cons, List.length_nil] <;> omega) | exact _root_.id rfl | exact _root_.id (fun _ => rfl) | fail) only [↓pre, post, Int.reduceEq, Int.reduceLT, Int.reduceLE, Int.reduceAdd, Int.reduceSub, Int.reduceMul, Int.reduceNeg, Nat.reduceLT, Nat.reduceSub, Nat.reduceMul, Nat.reduceAdd, Nat.reduceLeDiff, reduceIte, reduceCtorEq, Nat.reduceEqDiff, cp2]
  repeat' (first
    | (refine ifP_pos (by first | assumption | omega) ?_ <;> try simp (maxSteps := 4000000) (disch := first | assumption | omega | (simp only [push_next, put_next, empty_next, List.length_cons, List.length_nil] <;> omega) | exact _root_.id rfl | exact _root_.id (fun _ => rfl) | fail) only [↓pre, post, Int.reduceEq, Int.reduceLT, Int.reduceLE, Int.reduceAdd, Int.reduceSub, Int.reduceMul, Int.reduceNeg, Nat.reduceLT, Nat.reduceSub, Nat.reduceMul, Nat.reduceAdd, Nat.reduceLeDiff, reduceIte, reduceCtorEq, Nat.reduceEqDiff, cp2])
    | (refine ifP_neg (by first | assumption | omega) ?_ <;> try simp (maxSteps := 4000000) (disch := first | assumption | omega | (simp only [push_next, put_next, empty_next, List.length_cons, List.length_nil] <;> omega) | exact _root_.id rfl | exact _root_.id (fun _ => rfl) | fail) only [↓pre, post, Int.reduceEq, Int.reduceLT, Int.reduceLE, Int.reduceAdd, Int.reduceSub, Int.reduceMul, Int.reduceNeg, Nat.reduceLT, Nat.reduceSub, Nat.reduceMul, Nat.reduceAdd, Nat.reduceLeDiff, reduceIte, reduceCtorEq, Nat.reduceEqDiff, cp2])
    | (refine ifP_intro (fun hyp => ?_) (fun hyp => ?_) <;> first | simp (maxSteps := 4000000) (disch := first | assumption | omega | (simp only [push_next, put_next, empty_next, List.length_cons, List.length_nil] <;> omega) | exact _root_.id rfl | exact _root_.id (fun _ => rfl) | fail) only [↓pre, post, Int.reduceEq, Int.reduceLT, Int.reduceLE, Int.reduceAdd, Int.reduceSub, Int.reduceMul, Int.reduceNeg, Nat.reduceLT, Nat.reduceSub, Nat.reduceMul, Nat.reduceAdd, Nat.reduceLeDiff, reduceIte, reduceCtorEq, Nat.reduceEqDiff, cp2, eq_false hyp] | simp (maxSteps := 4000000) (disch := first | assumption | omega | (simp only [push_next, put_next, empty_next, List.length_cons, List.length_nil] <;> omega) | exact _root_.id rfl | exact _root_.id (fun _ => rfl) | fail) only [↓pre, post, Int.reduceEq, Int.reduceLT, Int.reduceLE, Int.reduceAdd, Int.reduceSub, Int.reduceMul, Int.reduceNeg, Nat.reduceLT, Nat.reduceSub, Nat.reduceMul, Nat.reduceAdd, Nat.reduceLeDiff, reduceIte, reduceCtorEq, Nat.reduceEqDiff, cp2, eq_true hyp] | skip))
  · refine lp_n ⟨n - (b + min b (n - b)), by omega, b + min b (n - b), _, _, _, _, rfl, by omega, by omega, rfl, ⟨by rw [setCells_length]; exact hc1, fun k hk => ?_⟩, rfl⟩
    have hl : (List.take (min b (n - b)) cs).length = min b (n - b) := by rw [List.length_take]; omega
    rw [setCells_get _ _ _ _ (by rw [hl]; omega), hl]
    by_cases hkb : b ≤ k ∧ k < b + min b (n - b)
    · rw [if_pos hkb, List.getElem?_take, if_pos (by omega)]
      exact hc2 _ (by omega)
    · rw [if_neg hkb]
      exact hc2 _ (by omega)
  · congr 2
    apply List.ext_getElem?
    intro k
    by_cases hk : k < n
    · rw [hc2 k (by omega)]
      simp [hk]
    · rw [List.getElem?_eq_none (by omega), List.getElem?_eq_none (by simp; omega)]

/-! ### the duals -/
/-- One line is put in. -/
def dstep (d : List Int) (v : Int) (x : Nat × Int × Int) : List Int := if nth d (x.1 - 1) < 0 ∨ v + x.2.2 < nth d (x.1 - 1) then d.set (x.1 - 1) (v + x.2.2) else d
def dualsS (l : List Item) (w : Int) : List Int := (List.range l.length).foldl (roundS l w (fun d k => nth d k) dstep) (List.replicate l.length (-1))

def DI (n : Nat) (d : List Int) (h : Heap) : Prop := d.length = n ∧ h.get 0 = some (.row true 1 false (d.map (.int .i64))) ∧ h.get 1 = some (.row true (typed 22) false [.ref 0 0 n 1])

theorem flat_int (l : List Int) : flat (l.map (AVal.int .i64)) = l.map (AVal.int .i64) := by
  induction l with
  | nil => rfl
  | cons x l ih => simp only [List.map_cons, flat_cons, ih]; rfl

theorem loadI {d : List Int} {h : Heap} {id : Nat} {mu : Bool} {s : Nat} {a : Bool} (hr : h.get id = some (.row mu s a (d.map (.int .i64)))) {k : Nat} (hk : k < d.length) : loadG 1 false (k * 1) (h.get id) = some (.int .i64 (nth d k)) := by
  have := loadG_flat1 (f := AVal.int .i64) (fun _ => rfl) d (n := k) (m := 1) false mu s a hk (Nat.le_refl _)
  rw [hr, ← flat_int, this]; rfl
theorem storeI {d : List Int} {h : Heap} {id : Nat} {s : Nat} {a : Bool} (hr : h.get id = some (.row true s a (d.map (.int .i64)))) {k : Nat} (hk : k < d.length) (v : Int) (H : Heap) : storeG 1 id (k * 1) (.int .i64 v) H (h.get id) = some (H.put id (some (.row true s a ((d.set k v).map (.int .i64))))) := by
  have := storeG_flat (f := AVal.int .i64) (sz := 1) (fun _ => rfl) d (n := k) (k := 0) (m := 1) (id := id) (v := .int .i64 v) (h := H) s a v hk rfl (by omega) rfl rfl
  rw [Nat.add_zero, flat_int, flat_int] at this
  rw [hr, this]

theorem readI {d : List Int} {h : Heap} {id : Nat} {mu : Bool} (hr : h.get id = some (.row mu 1 false (d.map (.int .i64)))) : readRef h id 0 d.length 1 = some (d.map (.int .i64)) := by
  rw [← flat_int] at hr
  have := readRef_flat (sz := 1) (f := AVal.int .i64) (g := AVal.int .i64) (fun _ => rfl) (fun _ => rfl) false (fun _ => rfl) (fun _ => rfl) d hr (Nat.le_refl _)
  rwa [List.take_length] at this

theorem duals1_c {n k : Nat} {d : List Int} {h : Heap} (hI : DI n d h) (hk : k < n) : CV F 42 ([.int .i64 (k : Int)] ++ [.ptr 1 0]) h (fun r h2 => r = .int .i64 (nth d k) ∧ h2 = h) := by
  obtain ⟨h1, h2, h3⟩ := hI
  have hld := loadI h2 (k := k) (by omega)
  refine CV_wp (fn := c42) rfl ?_
  dsimp only [c42]
  try simp (maxSteps := 4000000) (disch := first | assumption | omega | (simp only [push_next, put_next, empty_next, List.length_cons, List.length_nil] <;> omega) | exact _root_.id rfl | exact _root_.id (fun _ => rfl) | fail) only [↓pre, post, Int.reduceEq, Int.reduceLT, Int.reduceLE, Int.reduceAdd, Int.reduceSub, Int.reduceMul, Int.reduceNeg, Nat.reduceLT, Nat.reduceSub, Nat.reduceMul, Nat.reduceAdd, Nat.reduceLeDiff, reduceIte, reduceCtorEq, Nat.reduceEqDiff, h3, hld]
  repeat' (first
    | (refine ifP_pos (by first | assumption | omega) ?_ <;> try simp (maxSteps := 4000000) (disch := first | assumption | omega | (simp only [push_next, put_next, empty_next, List.length_cons, List.length_nil] <;> omega) | exact _root_.id rfl | exact _root_.id (fun _ => rfl) | fail) only [↓pre, post, Int.reduceEq, Int.reduceLT, Int.reduceLE, Int.reduceAdd, Int.reduceSub, Int.reduceMul, Int.reduceNeg, Nat.reduceLT, Nat.reduceSub, Nat.reduceMul, Nat.reduceAdd, Nat.reduceLeDiff, reduceIte, reduceCtorEq, Nat.reduceEqDiff, h3, hld])
    | (refine ifP_neg (by first | assumption | omega) ?_ <;> try simp (maxSteps := 4000000) (disch := first | assumption | omega | (simp only [push_next, put_next, empty_next, List.length_cons, List.length_nil] <;> omega) | exact _root_.id rfl | exact _root_.id (fun _ => rfl) | fail) only [↓pre, post, Int.reduceEq, Int.reduceLT, Int.reduceLE, Int.reduceAdd, Int.reduceSub, Int.reduceMul, Int.reduceNeg, Nat.reduceLT, Nat.reduceSub, Nat.reduceMul, Nat.reduceAdd, Nat.reduceLeDiff, reduceIte, reduceCtorEq, Nat.reduceEqDiff, h3, hld])
    | (refine ifP_intro (fun hyp => ?_) (fun hyp => ?_) <;> first | simp (maxSteps := 4000000) (disch := first | assumption | omega | (simp only [push_next, put_next, empty_next, List.length_cons, List.length_nil] <;> omega) | exact _root_.id rfl | exact _root_.id (fun _ => rfl) | fail) only [↓pre, post, Int.reduceEq, Int.reduceLT, Int.reduceLE, Int.reduceAdd, Int.reduceSub, Int.reduceMul, Int.reduceNeg, Nat.reduceLT, Nat.reduceSub, Nat.reduceMul, Nat.reduceAdd, Nat.reduceLeDiff, reduceIte, reduceCtorEq, Nat.reduceEqDiff, h3, hld, eq_false hyp] | simp (maxSteps := 4000000) (disch := first | assumption | omega | (simp only [push_next, put_next, empty_next, List.length_cons, List.length_nil] <;> omega) | exact _root_.id rfl | exact _root_.id (fun _ => rfl) | fail) only [↓pre, post, Int.reduceEq, Int.reduceLT, Int.reduceLE, Int.reduceAdd, Int.reduceSub, Int.reduceMul, Int.reduceNeg, Nat.reduceLT, Nat.reduceSub, Nat.reduceMul, Nat.reduceAdd, Nat.reduceLeDiff, reduceIte, reduceCtorEq, Nat.reduceEqDiff, h3, hld, eq_true hyp] | skip))

theorem duals2_c {n a : Nat} {v : Int} {x : Nat × Int × Int} {d : List Int} {h : Heap} (hI : DI n d h) (h1 : 1 ≤ x.1) (h2 : x.1 ≤ n) (hv : 0 ≤ v) (hv2 : v ≤ 1000000000000000000) (hc : 0 ≤ x.2.2) (hc2 : x.2.2 ≤ 1000000000000000) (hn : 2 ≤ h.next) (hn2 : n ≤ 512) :
    CV F 43 ([lineA a x, .int .i64 v, .int .i64 x.2.2] ++ [.ptr 1 0]) h (fun _ h2 => DI n (dstep d v x) h2 ∧ Fr (· = 0) h h2) := by
  obtain ⟨i1, i2, i3⟩ := hI
  have hld := loadI i2 (k := x.1 - 1) (by omega)
  have hst := storeI i2 (k := x.1 - 1) (by omega) (v + x.2.2)
  refine CV_wp (fn := c43) rfl ?_
  dsimp only [c43, lineA]
  try simp (maxSteps := 4000000) (disch := first | assumption | omega | (simp only [push_next, put_next, empty_next, List.length_cons, List.length_nil] <;> omega) | exact _root_.id rfl | exact _root_.id (fun _ => rfl) | fail) only [↓pre, post, Int.reduceEq, Int.reduceLT, Int.reduceLE, Int.reduceAdd, Int.reduceSub, Int.reduceMul, Int.reduceNeg, Nat.reduceLT, Nat.reduceSub, Nat.reduceMul, Nat.reduceAdd, Nat.reduceLeDiff, reduceIte, reduceCtorEq, Nat.reduceEqDiff, i3, hld, hst]
  repeat' (first
    | (refine ifP_pos (by first | assumption | omega) ?_ <;> try simp (maxSteps := 4000000) (disch := first | assumption | omega | (simp only [push_next, put_next, empty_next, List.length_cons, List.length_nil] <;> omega) | exact _root_.id rfl | exact _root_.id (fun _ => rfl) | fail) only [↓pre, post, Int.reduceEq, Int.reduceLT, Int.reduceLE, Int.reduceAdd, Int.reduceSub, Int.reduceMul, Int.reduceNeg, Nat.reduceLT, Nat.reduceSub, Nat.reduceMul, Nat.reduceAdd, Nat.reduceLeDiff, reduceIte, reduceCtorEq, Nat.reduceEqDiff, i3, hld, hst])
    | (refine ifP_neg (by first | assumption | omega) ?_ <;> try simp (maxSteps := 4000000) (disch := first | assumption | omega | (simp only [push_next, put_next, empty_next, List.length_cons, List.length_nil] <;> omega) | exact _root_.id rfl | exact _root_.id (fun _ => rfl) | fail) only [↓pre, post, Int.reduceEq, Int.reduceLT, Int.reduceLE, Int.reduceAdd, Int.reduceSub, Int.reduceMul, Int.reduceNeg, Nat.reduceLT, Nat.reduceSub, Nat.reduceMul, Nat.reduceAdd, Nat.reduceLeDiff, reduceIte, reduceCtorEq, Nat.reduceEqDiff, i3, hld, hst])
    | (refine ifP_intro (fun hyp => ?_) (fun hyp => ?_) <;> first | simp (maxSteps := 4000000) (disch := first | assumption | omega | (simp only [push_next, put_next, empty_next, List.length_cons, List.length_nil] <;> omega) | exact _root_.id rfl | exact _root_.id (fun _ => rfl) | fail) only [↓pre, post, Int.reduceEq, Int.reduceLT, Int.reduceLE, Int.reduceAdd, Int.reduceSub, Int.reduceMul, Int.reduceNeg, Nat.reduceLT, Nat.reduceSub, Nat.reduceMul, Nat.reduceAdd, Nat.reduceLeDiff, reduceIte, reduceCtorEq, Nat.reduceEqDiff, i3, hld, hst, eq_false hyp] | simp (maxSteps := 4000000) (disch := first | assumption | omega | (simp only [push_next, put_next, empty_next, List.length_cons, List.length_nil] <;> omega) | exact _root_.id rfl | exact _root_.id (fun _ => rfl) | fail) only [↓pre, post, Int.reduceEq, Int.reduceLT, Int.reduceLE, Int.reduceAdd, Int.reduceSub, Int.reduceMul, Int.reduceNeg, Nat.reduceLT, Nat.reduceSub, Nat.reduceMul, Nat.reduceAdd, Nat.reduceLeDiff, reduceIte, reduceCtorEq, Nat.reduceEqDiff, i3, hld, hst, eq_true hyp] | skip))
  · rw [dstep, if_pos (.inl hyp)]
    exact ⟨⟨by simpa using i1, get_push_old (get_put_old i2), get_push_old (by rw [get_put_ne (by omega)]; exact i3)⟩, (Fr.put (S := (· = 0)) (Fr.refl _ _) (.inl rfl) _).push _⟩
  · rw [dstep, if_pos (.inr hyp)]
    exact ⟨⟨by simpa using i1, get_push_old (get_put_old i2), get_push_old (by rw [get_put_ne (by omega)]; exact i3)⟩, (Fr.put (S := (· = 0)) (Fr.refl _ _) (.inl rfl) _).push _⟩
  · rw [dstep, if_neg (by omega)]
    exact ⟨⟨i1, get_push_old i2, get_push_old i3⟩, (Fr.refl _ _).push _⟩

theorem mem_linesAt {l : List Item} {w : Int} {p : Nat} {x : Nat × Int × Int} (h : x ∈ linesAt l w p) : lineOk l w (skip l p) x.1 ∧ p < x.1 ∧ x.1 ≤ l.length ∧ x.2.1 = natS l (skip l p) x.1 ∧ x.2.2 = costN l w (skip l p) x.1 := by
  unfold linesAt linesOf at h
  rw [List.mem_filterMap] at h
  obtain ⟨b, _, h⟩ := h
  unfold lineAt at h
  split at h
  · rename_i hl
    simp only [Option.some.injEq] at h
    subst h
    have := skip_ge (l := l) (p := p)
    exact ⟨hl, by have h1 := hl.1; show p < b; omega, hl.2.1, rfl, rfl⟩
  · simp at h

theorem cost_bound {l : List Item} {w : Int} (hv : valid l) (hw : widthOk w) {a b : Nat} (h : lineOk l w a b) : 0 ≤ costN l w a b ∧ costN l w a b ≤ 5000000000 := by
  have ho := hv.2.2.2 (b - 1) (by have := h.1; have := h.2.1; omega)
  have hb := nat_bound hv h.1 h.2.1
  have hn := h.2.2.2.2.2
  have hw1 : 1 ≤ w := hw.1
  have hw2 : w ≤ 65536 := hw.2
  unfold okItem at ho
  unfold costN
  split
  · omega
  · have h1 : 0 ≤ w - natS l a b := by omega
    have h2 : w - natS l a b ≤ 65536 := by omega
    generalize w - natS l a b = d at h1 h2
    have h3 : 0 ≤ d * d := Int.mul_nonneg h1 h1
    have h4 : d * d ≤ 65536 * 65536 := Int.mul_le_mul h2 h2 h1 (by omega)
    omega

theorem duals_v {l : List Item} {t : Tok} {w : Int} (ht : Pt t) (hl : l.length ≤ 200) : PV F 17 [.sl (items l) t, .int .i64 w] = some (if widthOk w ∧ valid l then .sl ((dualsS l w).map (.int .i64)) .none else .sl [] .nil) := by
  refine PV_wp (fn := c17) rfl ?_
  dsimp only [c17]
  try simp (maxSteps := 4000000) (disch := first | assumption | omega | (simp only [push_next, put_next, empty_next, List.length_cons, List.length_nil] <;> omega) | exact _root_.id rfl | exact _root_.id (fun _ => rfl) | fail) only [↓pre, post, Int.reduceEq, Int.reduceLT, Int.reduceLE, Int.reduceAdd, Int.reduceSub, Int.reduceMul, Int.reduceNeg, Nat.reduceLT, Nat.reduceSub, Nat.reduceMul, Nat.reduceAdd, Nat.reduceLeDiff, reduceIte, reduceCtorEq, Nat.reduceEqDiff, ready_v]
  repeat' (first
    | (refine ifP_pos (by first | assumption | omega) ?_ <;> try simp (maxSteps := 4000000) (disch := first | assumption | omega | (simp only [push_next, put_next, empty_next, List.length_cons, List.length_nil] <;> omega) | exact _root_.id rfl | exact _root_.id (fun _ => rfl) | fail) only [↓pre, post, Int.reduceEq, Int.reduceLT, Int.reduceLE, Int.reduceAdd, Int.reduceSub, Int.reduceMul, Int.reduceNeg, Nat.reduceLT, Nat.reduceSub, Nat.reduceMul, Nat.reduceAdd, Nat.reduceLeDiff, reduceIte, reduceCtorEq, Nat.reduceEqDiff, ready_v])
    | (refine ifP_neg (by first | assumption | omega) ?_ <;> try simp (maxSteps := 4000000) (disch := first | assumption | omega | (simp only [push_next, put_next, empty_next, List.length_cons, List.length_nil] <;> omega) | exact _root_.id rfl | exact _root_.id (fun _ => rfl) | fail) only [↓pre, post, Int.reduceEq, Int.reduceLT, Int.reduceLE, Int.reduceAdd, Int.reduceSub, Int.reduceMul, Int.reduceNeg, Nat.reduceLT, Nat.reduceSub, Nat.reduceMul, Nat.reduceAdd, Nat.reduceLeDiff, reduceIte, reduceCtorEq, Nat.reduceEqDiff, ready_v])
    | (refine ifP_intro (fun hyp => ?_) (fun hyp => ?_) <;> first | simp (maxSteps := 4000000) (disch := first | assumption | omega | (simp only [push_next, put_next, empty_next, List.length_cons, List.length_nil] <;> omega) | exact _root_.id rfl | exact _root_.id (fun _ => rfl) | fail) only [↓pre, post, Int.reduceEq, Int.reduceLT, Int.reduceLE, Int.reduceAdd, Int.reduceSub, Int.reduceMul, Int.reduceNeg, Nat.reduceLT, Nat.reduceSub, Nat.reduceMul, Nat.reduceAdd, Nat.reduceLeDiff, reduceIte, reduceCtorEq, Nat.reduceEqDiff, ready_v, eq_false hyp] | simp (maxSteps := 4000000) (disch := first | assumption | omega | (simp only [push_next, put_next, empty_next, List.length_cons, List.length_nil] <;> omega) | exact _root_.id rfl | exact _root_.id (fun _ => rfl) | fail) only [↓pre, post, Int.reduceEq, Int.reduceLT, Int.reduceLE, Int.reduceAdd, Int.reduceSub, Int.reduceMul, Int.reduceNeg, Nat.reduceLT, Nat.reduceSub, Nat.reduceMul, Nat.reduceAdd, Nat.reduceLeDiff, reduceIte, reduceCtorEq, Nat.reduceEqDiff, ready_v, eq_true hyp] | skip))
  · have hv : valid l := hyp.2
    have hw : widthOk w := hyp.1
    have hl1 := hv.1
    refine CV_mono (repeat_c (n := l.length) (by omega) hl1) ?_
    rintro r h1 ⟨rfl, rfl⟩
    try simp (maxSteps := 4000000) (disch := first | assumption | omega | (simp only [push_next, put_next, empty_next, List.length_cons, List.length_nil] <;> omega) | exact _root_.id rfl | exact _root_.id (fun _ => rfl) | fail) only [↓pre, post, Int.reduceEq, Int.reduceLT, Int.reduceLE, Int.reduceAdd, Int.reduceSub, Int.reduceMul, Int.reduceNeg, Nat.reduceLT, Nat.reduceSub, Nat.reduceMul, Nat.reduceAdd, Nat.reduceLeDiff, reduceIte, reduceCtorEq, Nat.reduceEqDiff]
    repeat' (first
      | (refine ifP_pos (by first | assumption | omega) ?_ <;> try simp (maxSteps := 4000000) (disch := first | assumption | omega | (simp only [push_next, put_next, empty_next, List.length_cons, List.length_nil] <;> omega) | exact _root_.id rfl | exact _root_.id (fun _ => rfl) | fail) only [↓pre, post, Int.reduceEq, Int.reduceLT, Int.reduceLE, Int.reduceAdd, Int.reduceSub, Int.reduceMul, Int.reduceNeg, Nat.reduceLT, Nat.reduceSub, Nat.reduceMul, Nat.reduceAdd, Nat.reduceLeDiff, reduceIte, reduceCtorEq, Nat.reduceEqDiff])
      | (refine ifP_neg (by first | assumption | omega) ?_ <;> try simp (maxSteps := 4000000) (disch := first | assumption | omega | (simp only [push_next, put_next, empty_next, List.length_cons, List.length_nil] <;> omega) | exact _root_.id rfl | exact _root_.id (fun _ => rfl) | fail) only [↓pre, post, Int.reduceEq, Int.reduceLT, Int.reduceLE, Int.reduceAdd, Int.reduceSub, Int.reduceMul, Int.reduceNeg, Nat.reduceLT, Nat.reduceSub, Nat.reduceMul, Nat.reduceAdd, Nat.reduceLeDiff, reduceIte, reduceCtorEq, Nat.reduceEqDiff])
      | (refine ifP_intro (fun hyp => ?_) (fun hyp => ?_) <;> first | simp (maxSteps := 4000000) (disch := first | assumption | omega | (simp only [push_next, put_next, empty_next, List.length_cons, List.length_nil] <;> omega) | exact _root_.id rfl | exact _root_.id (fun _ => rfl) | fail) only [↓pre, post, Int.reduceEq, Int.reduceLT, Int.reduceLE, Int.reduceAdd, Int.reduceSub, Int.reduceMul, Int.reduceNeg, Nat.reduceLT, Nat.reduceSub, Nat.reduceMul, Nat.reduceAdd, Nat.reduceLeDiff, reduceIte, reduceCtorEq, Nat.reduceEqDiff, eq_false hyp] | simp (maxSteps := 4000000) (disch := first | assumption | omega | (simp only [push_next, put_next, empty_next, List.length_cons, List.length_nil] <;> omega) | exact _root_.id rfl | exact _root_.id (fun _ => rfl) | fail) only [↓pre, post, Int.reduceEq, Int.reduceLT, Int.reduceLE, Int.reduceAdd, Int.reduceSub, Int.reduceMul, Int.reduceNeg, Nat.reduceLT, Nat.reduceSub, Nat.reduceMul, Nat.reduceAdd, Nat.reduceLeDiff, reduceIte, reduceCtorEq, Nat.reduceEqDiff, eq_true hyp] | skip))
    refine CV_mono (reach_c (S := fun j => j = 0 ∨ j = 1) ht hv hw ?_ (fun p v => v ≤ p * 5000000000) (fun d k => nth d k) dstep
      (fun d h => DI l.length d h ∧ ∀ k, nth d k ≤ (k + 1) * 5000000000) ?_ (by simp) ?_ ?_ (List.replicate l.length (-1)) ?_) ?_
    · rintro j (rfl | rfl)
      · exact Nat.lt_of_lt_of_le (by decide : 0 < 2) (Nat.le_refl 2)
      · exact Nat.lt_succ_self 1
    · rintro s h1 h2 he ⟨⟨i1, i2, i3⟩, i4⟩
      exact ⟨⟨i1, by rw [he 0 (.inl rfl)]; exact i2, by rw [he 1 (.inr rfl)]; exact i3⟩, i4⟩
    · rintro s k h1 hk ⟨i1, i4⟩ hF
      refine CV_mono (duals1_c i1 (by omega)) ?_
      rintro r h2 ⟨rfl, rfl⟩
      exact ⟨rfl, ⟨i1, i4⟩, Fr.refl _ _, by have h4 := i4 k; show nth s k ≤ ((k + 1 : Nat) : Int) * 5000000000; omega⟩
    · rintro s p v x h1 hp hV h0 hx ⟨i1, i4⟩ hF
      obtain ⟨m1, m2, m3, m4, m5⟩ := mem_linesAt hx
      have hcb := cost_bound hv hw m1
      rw [← m5] at hcb
      have hl2 := hv.2.1
      have hnx := hF.1
      simp only [push_next, empty_next] at hnx
      refine CV_mono (duals2_c i1 (by omega) m3 h0 (by omega) hcb.1 (by omega) (by omega) hl2) ?_
      rintro r h2 ⟨k1, k2⟩
      refine ⟨⟨k1, fun k => ?_⟩, k2.mono fun j _ hj => .inl hj⟩
      unfold dstep
      split
      · by_cases hk : x.1 - 1 = k
        · subst hk
          rw [nth_set_self (by have := i1.1; omega)]
          omega
        · rw [nth_set_ne hk]; exact i4 k
      · exact i4 k
    · refine ⟨⟨by simp, rfl, rfl⟩, fun k => ?_⟩
      by_cases hk : k < l.length
      · rw [nth_replicate hk]; omega
      · rw [nth, List.getD_eq_getElem?_getD, List.getElem?_eq_none (by simp; omega)]; simp; omega
    · rintro r h2 ⟨rfl, ⟨⟨i1, i2, i3⟩, i4⟩, hF⟩
      try simp (maxSteps := 4000000) (disch := first | assumption | omega | (simp only [push_next, put_next, empty_next, List.length_cons, List.length_nil] <;> omega) | exact _root_.id rfl | exact _root_.id (fun _ => rfl) | fail) only [↓pre, post, Int.reduceEq, Int.reduceLT, Int.reduceLE, Int.reduceAdd, Int.reduceSub, Int.reduceMul, Int.reduceNeg, Nat.reduceLT, Nat.reduceSub, Nat.reduceMul, Nat.reduceAdd, Nat.reduceLeDiff, reduceIte, reduceCtorEq, Nat.reduceEqDiff, i3]
      repeat' (first
        | (refine ifP_pos (by first | assumption | omega) ?_ <;> try simp (maxSteps := 4000000) (disch := first | assumption | omega | (simp only [push_next, put_next, empty_next, List.length_cons, List.length_nil] <;> omega) | exact _root_.id rfl | exact _root_.id (fun _ => rfl) | fail) only [↓pre, post, Int.reduceEq, Int.reduceLT, Int.reduceLE, Int.reduceAdd, Int.reduceSub, Int.reduceMul, Int.reduceNeg, Nat.reduceLT, Nat.reduceSub, Nat.reduceMul, Nat.reduceAdd, Nat.reduceLeDiff, reduceIte, reduceCtorEq, Nat.reduceEqDiff, i3])
        | (refine ifP_neg (by first | assumption | omega) ?_ <;> try simp (maxSteps := 4000000) (disch := first | assumption | omega | (simp only [push_next, put_next, empty_next, List.length_cons, List.length_nil] <;> omega) | exact _root_.id rfl | exact _root_.id (fun _ => rfl) | fail) only [↓pre, post, Int.reduceEq, Int.reduceLT, Int.reduceLE, Int.reduceAdd, Int.reduceSub, Int.reduceMul, Int.reduceNeg, Nat.reduceLT, Nat.reduceSub, Nat.reduceMul, Nat.reduceAdd, Nat.reduceLeDiff, reduceIte, reduceCtorEq, Nat.reduceEqDiff, i3])
        | (refine ifP_intro (fun hyp => ?_) (fun hyp => ?_) <;> first | simp (maxSteps := 4000000) (disch := first | assumption | omega | (simp only [push_next, put_next, empty_next, List.length_cons, List.length_nil] <;> omega) | exact _root_.id rfl | exact _root_.id (fun _ => rfl) | fail) only [↓pre, post, Int.reduceEq, Int.reduceLT, Int.reduceLE, Int.reduceAdd, Int.reduceSub, Int.reduceMul, Int.reduceNeg, Nat.reduceLT, Nat.reduceSub, Nat.reduceMul, Nat.reduceAdd, Nat.reduceLeDiff, reduceIte, reduceCtorEq, Nat.reduceEqDiff, i3, eq_false hyp] | simp (maxSteps := 4000000) (disch := first | assumption | omega | (simp only [push_next, put_next, empty_next, List.length_cons, List.length_nil] <;> omega) | exact _root_.id rfl | exact _root_.id (fun _ => rfl) | fail) only [↓pre, post, Int.reduceEq, Int.reduceLT, Int.reduceLE, Int.reduceAdd, Int.reduceSub, Int.reduceMul, Int.reduceNeg, Nat.reduceLT, Nat.reduceSub, Nat.reduceMul, Nat.reduceAdd, Nat.reduceLeDiff, reduceIte, reduceCtorEq, Nat.reduceEqDiff, i3, eq_true hyp] | skip))
      rw [if_pos hyp, pu_ref, ← i1, readI i2]; rfl

end Go.Proofs.Ytcammfdljiingaa

/-
  strings.Builder: what is written; Text of the program and of the reference model.
-/
set_option linter.unusedSimpArgs false
set_option linter.unusedVariables false
set_option maxHeartbeats 4000000
namespace Go.Proofs.Ytcammfdljiingaa
open Go Go.Abs

def byteA (b : UInt8) : AVal := .int .u8 b.toNat

/-- A builder that holds s. -/
def Bld (h : Heap) (id : Nat) (s : List UInt8) : Prop := ∃ a tk, h.get id = some (.row true (typed 78) true [a, .sl (s.map byteA) tk]) ∧ (a = .nilptr ∨ a = .ptr id 0) ∧ Grow h 5 1 tk ∧ (tk = .nil ↔ s = [])
/-- The rows but one stand. -/
def RowsBut (id : Nat) (h h' : Heap) : Prop := h.next ≤ h'.next ∧ ∀ j mu s a cs, j ≠ id → h.get j = some (.row mu s a cs) → h'.get j = some (.row mu s a cs)
theorem RowsBut.trans {id : Nat} {h h1 h2 : Heap} (a : RowsBut id h h1) (b : RowsBut id h1 h2) : RowsBut id h h2 := ⟨Nat.le_trans a.1 b.1, fun j mu s ag cs hj hg => b.2 _ _ _ _ _ hj (a.2 _ _ _ _ _ hj hg)⟩

theorem copyCheck_c {h : Heap} {id : Nat} {s : List UInt8} {K : AVal → Heap → Prop} {a : AVal} {tk : Tok} (hb : h.get id = some (.row true (typed 78) true [a, .sl (s.map byteA) tk])) (ha : a = .nilptr ∨ a = .ptr id 0) (hg : Grow h 5 1 tk)
    (q : ∀ h', h'.get id = some (.row true (typed 78) true [.ptr id 0, .sl (s.map byteA) tk]) → Grow h' 5 1 tk → RowsBut id h h' → K (.tup []) h') : CV F 58 [.ptr id 0] h K := by
  rcases ha with rfl | rfl
  · refine Gives_CV (gives_hand (s := copyCheckS 78) rfl (r := .tup []) (h' := h.put id (some (.row true (typed 78) true [.ptr id 0, .sl (s.map byteA) tk]))) ?_) ?_
    · simp only [copyCheckS, hb, if_true]
    · refine q _ (get_put_old hb) ?_ ⟨by rw [put_next]; exact Nat.le_refl _, fun j mu s a cs hj hr => by rw [get_put_ne hj]; exact hr⟩
      exact hg.put hb _
  · refine Gives_CV (gives_hand (s := copyCheckS 78) rfl (r := .tup []) (h' := h) ?_) ?_
    · simp only [copyCheckS, hb, if_true]
    · exact q _ hb hg ⟨Nat.le_refl _, fun j mu s a cs hj hr => hr⟩

theorem flat_bytes (x : List UInt8) : flat (x.map byteA) = x.map (fun b => .int .u8 b.toNat) := by
  induction x with
  | nil => rfl
  | cons b x ih => simp only [List.map_cons, flat_cons, ih]; rfl
theorem RowsBut.put {id : Nat} {h h' : Heap} (a : RowsBut id h h') (o : Option Abs.Obj) : RowsBut id h (h'.put id o) := ⟨by rw [put_next]; exact a.1, fun j mu s ag cs hj hg => by rw [get_put_ne hj]; exact a.2 _ _ _ _ _ hj hg⟩

theorem writeString_c {h : Heap} {id : Nat} {s x : List UInt8} (hb : Bld h id s) (hl : s.length + x.length ≤ 1000000) : CV F 49 [.ptr id 0, .str x] h (fun _ h' => Bld h' id (s ++ x) ∧ RowsBut id h h') := by
  obtain ⟨a, tk, hb, ha, hg, hn⟩ := hb
  refine CV_wp (fn := c49) rfl ?_
  dsimp only [c49]
  try simp (maxSteps := 4000000) (disch := first | assumption | omega | (simp only [push_next, put_next, empty_next, List.length_cons, List.length_nil] <;> omega) | exact _root_.id rfl | exact _root_.id (fun _ => rfl) | fail) only [↓pre, post, Int.reduceEq, Int.reduceLT, Int.reduceLE, Int.reduceAdd, Int.reduceSub, Int.reduceMul, Int.reduceNeg, Nat.reduceLT, Nat.reduceSub, Nat.reduceMul, Nat.reduceAdd, Nat.reduceLeDiff, reduceIte, reduceCtorEq, Nat.reduceEqDiff]
  repeat' (first
    | (refine ifP_pos (by first | assumption | omega) ?_ <;> try simp (maxSteps := 4000000) (disch := first | assumption | omega | (simp only [push_next, put_next, empty_next, List.length_cons, List.length_nil] <;> omega) | exact _root_.id rfl | exact _root_.id (fun _ => rfl) | fail) only [↓pre, post, Int.reduceEq, Int.reduceLT, Int.reduceLE, Int.reduceAdd, Int.reduceSub, Int.reduceMul, Int.reduceNeg, Nat.reduceLT, Nat.reduceSub, Nat.reduceMul, Nat.reduceAdd, Nat.reduceLeDiff, reduceIte, reduceCtorEq, Nat.reduceEqDiff])
    | (refine ifP_neg (by first | assumption | omega) ?_ <;> try simp (maxSteps := 4000000) (disch := first | assumption | omega | (simp only [push_next, put_next, empty_next, List.length_cons, List.length_nil] <;> omega) | exact _root_.id rfl | exact _root_.id (fun _ => rfl) | fail) only [↓pre, post, Int.reduceEq, Int.reduceLT, Int.reduceLE, Int.reduceAdd, Int.reduceSub, Int.reduceMul, Int.reduceNeg, Nat.reduceLT, Nat.reduceSub, Nat.reduceMul, Nat.reduceAdd, Nat.reduceLeDiff, reduceIte, reduceCtorEq, Nat.reduceEqDiff])
    | (refine ifP_intro (fun hyp => ?_) (fun hyp => ?_) <;> first | simp (maxSteps := 4000000) (disch := first | assumption | omega | (simp only [push_next, put_next, empty_next, List.length_cons, List.length_nil] <;> omega) | exact _root_.id rfl | exact _root_.id (fun _ => rfl) | fail) only [↓pre, post, Int.reduceEq, Int.reduceLT, Int.reduceLE, Int.reduceAdd, Int.reduceSub, Int.reduceMul, Int.reduceNeg, Nat.reduceLT, Nat.reduceSub, Nat.reduceMul, Nat.reduceAdd, Nat.reduceLeDiff, reduceIte, reduceCtorEq, Nat.reduceEqDiff, eq_false hyp] | simp (maxSteps := 4000000) (disch := first | assumption | omega | (simp only [push_next, put_next, empty_next, List.length_cons, List.length_nil] <;> omega) | exact _root_.id rfl | exact _root_.id (fun _ => rfl) | fail) only [↓pre, post, Int.reduceEq, Int.reduceLT, Int.reduceLE, Int.reduceAdd, Int.reduceSub, Int.reduceMul, Int.reduceNeg, Nat.reduceLT, Nat.reduceSub, Nat.reduceMul, Nat.reduceAdd, Nat.reduceLeDiff, reduceIte, reduceCtorEq, Nat.reduceEqDiff, eq_true hyp] | skip))
  refine copyCheck_c hb ha hg (fun h1 hb1 hg1 hr1 => ?_)
  try simp (maxSteps := 4000000) (disch := first | assumption | omega | (simp only [push_next, put_next, empty_next, List.length_cons, List.length_nil] <;> omega) | exact _root_.id rfl | exact _root_.id (fun _ => rfl) | fail) only [↓pre, post, Int.reduceEq, Int.reduceLT, Int.reduceLE, Int.reduceAdd, Int.reduceSub, Int.reduceMul, Int.reduceNeg, Nat.reduceLT, Nat.reduceSub, Nat.reduceMul, Nat.reduceAdd, Nat.reduceLeDiff, reduceIte, reduceCtorEq, Nat.reduceEqDiff, hb1]
  repeat' (first
    | (refine ifP_pos (by first | assumption | omega) ?_ <;> try simp (maxSteps := 4000000) (disch := first | assumption | omega | (simp only [push_next, put_next, empty_next, List.length_cons, List.length_nil] <;> omega) | exact _root_.id rfl | exact _root_.id (fun _ => rfl) | fail) only [↓pre, post, Int.reduceEq, Int.reduceLT, Int.reduceLE, Int.reduceAdd, Int.reduceSub, Int.reduceMul, Int.reduceNeg, Nat.reduceLT, Nat.reduceSub, Nat.reduceMul, Nat.reduceAdd, Nat.reduceLeDiff, reduceIte, reduceCtorEq, Nat.reduceEqDiff, hb1])
    | (refine ifP_neg (by first | assumption | omega) ?_ <;> try simp (maxSteps := 4000000) (disch := first | assumption | omega | (simp only [push_next, put_next, empty_next, List.length_cons, List.length_nil] <;> omega) | exact _root_.id rfl | exact _root_.id (fun _ => rfl) | fail) only [↓pre, post, Int.reduceEq, Int.reduceLT, Int.reduceLE, Int.reduceAdd, Int.reduceSub, Int.reduceMul, Int.reduceNeg, Nat.reduceLT, Nat.reduceSub, Nat.reduceMul, Nat.reduceAdd, Nat.reduceLeDiff, reduceIte, reduceCtorEq, Nat.reduceEqDiff, hb1])
    | (refine ifP_intro (fun hyp => ?_) (fun hyp => ?_) <;> first | simp (maxSteps := 4000000) (disch := first | assumption | omega | (simp only [push_next, put_next, empty_next, List.length_cons, List.length_nil] <;> omega) | exact _root_.id rfl | exact _root_.id (fun _ => rfl) | fail) only [↓pre, post, Int.reduceEq, Int.reduceLT, Int.reduceLE, Int.reduceAdd, Int.reduceSub, Int.reduceMul, Int.reduceNeg, Nat.reduceLT, Nat.reduceSub, Nat.reduceMul, Nat.reduceAdd, Nat.reduceLeDiff, reduceIte, reduceCtorEq, Nat.reduceEqDiff, hb1, eq_false hyp] | simp (maxSteps := 4000000) (disch := first | assumption | omega | (simp only [push_next, put_next, empty_next, List.length_cons, List.length_nil] <;> omega) | exact _root_.id rfl | exact _root_.id (fun _ => rfl) | fail) only [↓pre, post, Int.reduceEq, Int.reduceLT, Int.reduceLE, Int.reduceAdd, Int.reduceSub, Int.reduceMul, Int.reduceNeg, Nat.reduceLT, Nat.reduceSub, Nat.reduceMul, Nat.reduceAdd, Nat.reduceLeDiff, reduceIte, reduceCtorEq, Nat.reduceEqDiff, hb1, eq_true hyp] | skip))
  refine append_K s x (f := byteA) (fun _ => rfl) (fun _ => rfl) (fun _ => rfl) rfl ?_ hg1 hn hl (by omega) (by omega) (by omega) ?_
  · rw [flat_bytes]; rfl
  · intro h2 tk2 hg2 hn2 hle hk hk2 htk
    have hb2 := hk _ _ _ _ _ hb1
    try simp (maxSteps := 4000000) (disch := first | assumption | omega | (simp only [push_next, put_next, empty_next, List.length_cons, List.length_nil] <;> omega) | exact _root_.id rfl | exact _root_.id (fun _ => rfl) | fail) only [↓pre, post, Int.reduceEq, Int.reduceLT, Int.reduceLE, Int.reduceAdd, Int.reduceSub, Int.reduceMul, Int.reduceNeg, Nat.reduceLT, Nat.reduceSub, Nat.reduceMul, Nat.reduceAdd, Nat.reduceLeDiff, reduceIte, reduceCtorEq, Nat.reduceEqDiff, hb2]
    repeat' (first
      | (refine ifP_pos (by first | assumption | omega) ?_ <;> try simp (maxSteps := 4000000) (disch := first | assumption | omega | (simp only [push_next, put_next, empty_next, List.length_cons, List.length_nil] <;> omega) | exact _root_.id rfl | exact _root_.id (fun _ => rfl) | fail) only [↓pre, post, Int.reduceEq, Int.reduceLT, Int.reduceLE, Int.reduceAdd, Int.reduceSub, Int.reduceMul, Int.reduceNeg, Nat.reduceLT, Nat.reduceSub, Nat.reduceMul, Nat.reduceAdd, Nat.reduceLeDiff, reduceIte, reduceCtorEq, Nat.reduceEqDiff, hb2])
      | (refine ifP_neg (by first | assumption | omega) ?_ <;> try simp (maxSteps := 4000000) (disch := first | assumption | omega | (simp only [push_next, put_next, empty_next, List.length_cons, List.length_nil] <;> omega) | exact _root_.id rfl | exact _root_.id (fun _ => rfl) | fail) only [↓pre, post, Int.reduceEq, Int.reduceLT, Int.reduceLE, Int.reduceAdd, Int.reduceSub, Int.reduceMul, Int.reduceNeg, Nat.reduceLT, Nat.reduceSub, Nat.reduceMul, Nat.reduceAdd, Nat.reduceLeDiff, reduceIte, reduceCtorEq, Nat.reduceEqDiff, hb2])
      | (refine ifP_intro (fun hyp => ?_) (fun hyp => ?_) <;> first | simp (maxSteps := 4000000) (disch := first | assumption | omega | (simp only [push_next, put_next, empty_next, List.length_cons, List.length_nil] <;> omega) | exact _root_.id rfl | exact _root_.id (fun _ => rfl) | fail) only [↓pre, post, Int.reduceEq, Int.reduceLT, Int.reduceLE, Int.reduceAdd, Int.reduceSub, Int.reduceMul, Int.reduceNeg, Nat.reduceLT, Nat.reduceSub, Nat.reduceMul, Nat.reduceAdd, Nat.reduceLeDiff, reduceIte, reduceCtorEq, Nat.reduceEqDiff, hb2, eq_false hyp] | simp (maxSteps := 4000000) (disch := first | assumption | omega | (simp only [push_next, put_next, empty_next, List.length_cons, List.length_nil] <;> omega) | exact _root_.id rfl | exact _root_.id (fun _ => rfl) | fail) only [↓pre, post, Int.reduceEq, Int.reduceLT, Int.reduceLE, Int.reduceAdd, Int.reduceSub, Int.reduceMul, Int.reduceNeg, Nat.reduceLT, Nat.reduceSub, Nat.reduceMul, Nat.reduceAdd, Nat.reduceLeDiff, reduceIte, reduceCtorEq, Nat.reduceEqDiff, hb2, eq_true hyp] | skip))
    exact ⟨⟨_, _, get_put_old hb2, .inr rfl, hg2.put hb2 _, hn2⟩, RowsBut.put (hr1.trans ⟨hle, fun j mu s a cs _ hg => hk _ _ _ _ _ hg⟩) _⟩

theorem writeByte_c {h : Heap} {id : Nat} {s : List UInt8} {x : UInt8} (hb : Bld h id s) (hl : s.length + 1 ≤ 1000000) : CV F 50 [.ptr id 0, .int .u8 x.toNat] h (fun _ h' => Bld h' id (s ++ [x]) ∧ RowsBut id h h') := by
  obtain ⟨a, tk, hb, ha, hg, hn⟩ := hb
  refine CV_wp (fn := c50) rfl ?_
  dsimp only [c50]
  try simp (maxSteps := 4000000) (disch := first | assumption | omega | (simp only [push_next, put_next, empty_next, List.length_cons, List.length_nil] <;> omega) | exact _root_.id rfl | exact _root_.id (fun _ => rfl) | fail) only [↓pre, post, Int.reduceEq, Int.reduceLT, Int.reduceLE, Int.reduceAdd, Int.reduceSub, Int.reduceMul, Int.reduceNeg, Nat.reduceLT, Nat.reduceSub, Nat.reduceMul, Nat.reduceAdd, Nat.reduceLeDiff, reduceIte, reduceCtorEq, Nat.reduceEqDiff]
  repeat' (first
    | (refine ifP_pos (by first | assumption | omega) ?_ <;> try simp (maxSteps := 4000000) (disch := first | assumption | omega | (simp only [push_next, put_next, empty_next, List.length_cons, List.length_nil] <;> omega) | exact _root_.id rfl | exact _root_.id (fun _ => rfl) | fail) only [↓pre, post, Int.reduceEq, Int.reduceLT, Int.reduceLE, Int.reduceAdd, Int.reduceSub, Int.reduceMul, Int.reduceNeg, Nat.reduceLT, Nat.reduceSub, Nat.reduceMul, Nat.reduceAdd, Nat.reduceLeDiff, reduceIte, reduceCtorEq, Nat.reduceEqDiff])
    | (refine ifP_neg (by first | assumption | omega) ?_ <;> try simp (maxSteps := 4000000) (disch := first | assumption | omega | (simp only [push_next, put_next, empty_next, List.length_cons, List.length_nil] <;> omega) | exact _root_.id rfl | exact _root_.id (fun _ => rfl) | fail) only [↓pre, post, Int.reduceEq, Int.reduceLT, Int.reduceLE, Int.reduceAdd, Int.reduceSub, Int.reduceMul, Int.reduceNeg, Nat.reduceLT, Nat.reduceSub, Nat.reduceMul, Nat.reduceAdd, Nat.reduceLeDiff, reduceIte, reduceCtorEq, Nat.reduceEqDiff])
    | (refine ifP_intro (fun hyp => ?_) (fun hyp => ?_) <;> first | simp (maxSteps := 4000000) (disch := first | assumption | omega | (simp only [push_next, put_next, empty_next, List.length_cons, List.length_nil] <;> omega) | exact _root_.id rfl | exact _root_.id (fun _ => rfl) | fail) only [↓pre, post, Int.reduceEq, Int.reduceLT, Int.reduceLE, Int.reduceAdd, Int.reduceSub, Int.reduceMul, Int.reduceNeg, Nat.reduceLT, Nat.reduceSub, Nat.reduceMul, Nat.reduceAdd, Nat.reduceLeDiff, reduceIte, reduceCtorEq, Nat.reduceEqDiff, eq_false hyp] | simp (maxSteps := 4000000) (disch := first | assumption | omega | (simp only [push_next, put_next, empty_next, List.length_cons, List.length_nil] <;> omega) | exact _root_.id rfl | exact _root_.id (fun _ => rfl) | fail) only [↓pre, post, Int.reduceEq, Int.reduceLT, Int.reduceLE, Int.reduceAdd, Int.reduceSub, Int.reduceMul, Int.reduceNeg, Nat.reduceLT, Nat.reduceSub, Nat.reduceMul, Nat.reduceAdd, Nat.reduceLeDiff, reduceIte, reduceCtorEq, Nat.reduceEqDiff, eq_true hyp] | skip))
  refine copyCheck_c hb ha hg (fun h1 hb1 hg1 hr1 => ?_)
  try simp (maxSteps := 4000000) (disch := first | assumption | omega | (simp only [push_next, put_next, empty_next, List.length_cons, List.length_nil] <;> omega) | exact _root_.id rfl | exact _root_.id (fun _ => rfl) | fail) only [↓pre, post, Int.reduceEq, Int.reduceLT, Int.reduceLE, Int.reduceAdd, Int.reduceSub, Int.reduceMul, Int.reduceNeg, Nat.reduceLT, Nat.reduceSub, Nat.reduceMul, Nat.reduceAdd, Nat.reduceLeDiff, reduceIte, reduceCtorEq, Nat.reduceEqDiff, hb1]
  repeat' (first
    | (refine ifP_pos (by first | assumption | omega) ?_ <;> try simp (maxSteps := 4000000) (disch := first | assumption | omega | (simp only [push_next, put_next, empty_next, List.length_cons, List.length_nil] <;> omega) | exact _root_.id rfl | exact _root_.id (fun _ => rfl) | fail) only [↓pre, post, Int.reduceEq, Int.reduceLT, Int.reduceLE, Int.reduceAdd, Int.reduceSub, Int.reduceMul, Int.reduceNeg, Nat.reduceLT, Nat.reduceSub, Nat.reduceMul, Nat.reduceAdd, Nat.reduceLeDiff, reduceIte, reduceCtorEq, Nat.reduceEqDiff, hb1])
    | (refine ifP_neg (by first | assumption | omega) ?_ <;> try simp (maxSteps := 4000000) (disch := first | assumption | omega | (simp only [push_next, put_next, empty_next, List.length_cons, List.length_nil] <;> omega) | exact _root_.id rfl | exact _root_.id (fun _ => rfl) | fail) only [↓pre, post, Int.reduceEq, Int.reduceLT, Int.reduceLE, Int.reduceAdd, Int.reduceSub, Int.reduceMul, Int.reduceNeg, Nat.reduceLT, Nat.reduceSub, Nat.reduceMul, Nat.reduceAdd, Nat.reduceLeDiff, reduceIte, reduceCtorEq, Nat.reduceEqDiff, hb1])
    | (refine ifP_intro (fun hyp => ?_) (fun hyp => ?_) <;> first | simp (maxSteps := 4000000) (disch := first | assumption | omega | (simp only [push_next, put_next, empty_next, List.length_cons, List.length_nil] <;> omega) | exact _root_.id rfl | exact _root_.id (fun _ => rfl) | fail) only [↓pre, post, Int.reduceEq, Int.reduceLT, Int.reduceLE, Int.reduceAdd, Int.reduceSub, Int.reduceMul, Int.reduceNeg, Nat.reduceLT, Nat.reduceSub, Nat.reduceMul, Nat.reduceAdd, Nat.reduceLeDiff, reduceIte, reduceCtorEq, Nat.reduceEqDiff, hb1, eq_false hyp] | simp (maxSteps := 4000000) (disch := first | assumption | omega | (simp only [push_next, put_next, empty_next, List.length_cons, List.length_nil] <;> omega) | exact _root_.id rfl | exact _root_.id (fun _ => rfl) | fail) only [↓pre, post, Int.reduceEq, Int.reduceLT, Int.reduceLE, Int.reduceAdd, Int.reduceSub, Int.reduceMul, Int.reduceNeg, Nat.reduceLT, Nat.reduceSub, Nat.reduceMul, Nat.reduceAdd, Nat.reduceLeDiff, reduceIte, reduceCtorEq, Nat.reduceEqDiff, hb1, eq_true hyp] | skip))
  refine append_K s [x] (f := byteA) (fun _ => rfl) (fun _ => rfl) (fun _ => rfl) rfl ?_ hg1 hn hl (by omega) (by omega) (by omega) ?_
  · rfl
  · intro h2 tk2 hg2 hn2 hle hk hk2 htk
    have hb2 := hk _ _ _ _ _ hb1
    try simp (maxSteps := 4000000) (disch := first | assumption | omega | (simp only [push_next, put_next, empty_next, List.length_cons, List.length_nil] <;> omega) | exact _root_.id rfl | exact _root_.id (fun _ => rfl) | fail) only [↓pre, post, Int.reduceEq, Int.reduceLT, Int.reduceLE, Int.reduceAdd, Int.reduceSub, Int.reduceMul, Int.reduceNeg, Nat.reduceLT, Nat.reduceSub, Nat.reduceMul, Nat.reduceAdd, Nat.reduceLeDiff, reduceIte, reduceCtorEq, Nat.reduceEqDiff, hb2]
    repeat' (first
      | (refine ifP_pos (by first | assumption | omega) ?_ <;> try simp (maxSteps := 4000000) (disch := first | assumption | omega | (simp only [push_next, put_next, empty_next, List.length_cons, List.length_nil] <;> omega) | exact _root_.id rfl | exact _root_.id (fun _ => rfl) | fail) only [↓pre, post, Int.reduceEq, Int.reduceLT, Int.reduceLE, Int.reduceAdd, Int.reduceSub, Int.reduceMul, Int.reduceNeg, Nat.reduceLT, Nat.reduceSub, Nat.reduceMul, Nat.reduceAdd, Nat.reduceLeDiff, reduceIte, reduceCtorEq, Nat.reduceEqDiff, hb2])
      | (refine ifP_neg (by first | assumption | omega) ?_ <;> try simp (maxSteps := 4000000) (disch := first | assumption | omega | (simp only [push_next, put_next, empty_next, List.length_cons, List.length_nil] <;> omega) | exact _root_.id rfl | exact _root_.id (fun _ => rfl) | fail) only [↓pre, post, Int.reduceEq, Int.reduceLT, Int.reduceLE, Int.reduceAdd, Int.reduceSub, Int.reduceMul, Int.reduceNeg, Nat.reduceLT, Nat.reduceSub, Nat.reduceMul, Nat.reduceAdd, Nat.reduceLeDiff, reduceIte, reduceCtorEq, Nat.reduceEqDiff, hb2])
      | (refine ifP_intro (fun hyp => ?_) (fun hyp => ?_) <;> first | simp (maxSteps := 4000000) (disch := first | assumption | omega | (simp only [push_next, put_next, empty_next, List.length_cons, List.length_nil] <;> omega) | exact _root_.id rfl | exact _root_.id (fun _ => rfl) | fail) only [↓pre, post, Int.reduceEq, Int.reduceLT, Int.reduceLE, Int.reduceAdd, Int.reduceSub, Int.reduceMul, Int.reduceNeg, Nat.reduceLT, Nat.reduceSub, Nat.reduceMul, Nat.reduceAdd, Nat.reduceLeDiff, reduceIte, reduceCtorEq, Nat.reduceEqDiff, hb2, eq_false hyp] | simp (maxSteps := 4000000) (disch := first | assumption | omega | (simp only [push_next, put_next, empty_next, List.length_cons, List.length_nil] <;> omega) | exact _root_.id rfl | exact _root_.id (fun _ => rfl) | fail) only [↓pre, post, Int.reduceEq, Int.reduceLT, Int.reduceLE, Int.reduceAdd, Int.reduceSub, Int.reduceMul, Int.reduceNeg, Nat.reduceLT, Nat.reduceSub, Nat.reduceMul, Nat.reduceAdd, Nat.reduceLeDiff, reduceIte, reduceCtorEq, Nat.reduceEqDiff, hb2, eq_true hyp] | skip))
    exact ⟨⟨_, _, get_put_old hb2, .inr rfl, hg2.put hb2 _, hn2⟩, RowsBut.put (hr1.trans ⟨hle, fun j mu s a cs _ hg => hk _ _ _ _ _ hg⟩) _⟩

theorem bytesOf_map (s : List UInt8) : bytesOf (s.map byteA) = some s := by
  induction s with
  | nil => rfl
  | cons b s ih =>
    have h1 : (b.toNat : Int) < 256 := by have := b.toNat_lt; omega
    simp only [List.map_cons, byteA, bytesOf] at ih ⊢
    rw [if_pos ⟨by omega, h1⟩, ih]
    simp

theorem string_c {h : Heap} {id : Nat} {s : List UInt8} {K : AVal → Heap → Prop} (hb : Bld h id s) (hl : s.length ≤ 1000000) (q : K (.str s) h) : CV F 51 [.ptr id 0] h K := by
  obtain ⟨a, tk, hb, ha, hg, hn⟩ := hb
  refine Gives_CV (gives_hand (s := stringS 5) rfl (r := .str s) (h' := h) ?_) q
  cases s with
  | nil =>
    have := hn.2 rfl
    subst this
    simp only [stringS, hb, List.map_nil]
  | cons b s =>
    rcases hg with rfl | ⟨i, rfl, hg⟩
    · simp at hn
    · have := bytesOf_map (b :: s)
      rw [List.map_cons] at this
      simp only [stringS, hb, List.map_cons, hg]
      rw [if_pos ⟨trivial, by simp at hl ⊢; omega⟩, this]; rfl

/-! ### texts -/
def tx (l : List Item) (last i : Nat) : List UInt8 := if (nth l i).kind = 0 ∨ (nth l i).kind = 2 ∧ i = last then (nth l i).text else if (nth l i).kind = 1 ∧ i < last then [32] else []
def txs (l : List Item) (last a : Nat) : Nat → List UInt8
  | 0 => []
  | n + 1 => txs l last a n ++ tx l last (a + n)
def textS (l : List Item) (a b : Int) : List UInt8 := if a < 0 ∨ b ≤ a ∨ (l.length : Int) < b then [] else txs l (b.toNat - 1) a.toNat (b.toNat - a.toNat)
def short (l : List Item) : Prop := ∀ i, (nth l i).text.length ≤ 100
theorem tx_len {l : List Item} (hs : short l) (last i : Nat) : (tx l last i).length ≤ 100 := by
  have := hs i
  unfold tx
  split
  · exact this
  · split <;> simp
theorem txs_len {l : List Item} (hs : short l) (last a : Nat) : ∀ n, (txs l last a n).length ≤ 100 * n
  | 0 => by simp [txs]
  | n + 1 => by
    have h1 := txs_len hs last a n
    have h2 := tx_len hs last (a + n)
    simp only [txs, List.length_append]; omega

def lineV (a b n : Int) : AVal := .agg [.int .i64 a, .int .i64 b, .int .i64 n]

theorem refText_v {l : List Item} {t : Tok} {a b n : Int} (hs : short l) (hl : l.length < 1000) (hb : i64 b) : PV F 24 [.sl (items l) t, lineV a b n] = some (.str (textS l a b)) := by
  refine PV_wp (fn := c24) rfl ?_
  dsimp only [c24, lineV]
  try simp (maxSteps := 4000000) (disch := first | assumption | omega | (simp only [push_next, put_next, empty_next, List.length_cons, List.length_nil] <;> omega) | exact _root_.id rfl | exact _root_.id (fun _ => rfl) | fail) only [↓pre, post, Int.reduceEq, Int.reduceLT, Int.reduceLE, Int.reduceAdd, Int.reduceSub, Int.reduceMul, Int.reduceNeg, Nat.reduceLT, Nat.reduceSub, Nat.reduceMul, Nat.reduceAdd, Nat.reduceLeDiff, reduceIte, reduceCtorEq, Nat.reduceEqDiff]
  repeat' (first
    | (refine ifP_pos (by first | assumption | omega) ?_ <;> try simp (maxSteps := 4000000) (disch := first | assumption | omega | (simp only [push_next, put_next, empty_next, List.length_cons, List.length_nil] <;> omega) | exact _root_.id rfl | exact _root_.id (fun _ => rfl) | fail) only [↓pre, post, Int.reduceEq, Int.reduceLT, Int.reduceLE, Int.reduceAdd, Int.reduceSub, Int.reduceMul, Int.reduceNeg, Nat.reduceLT, Nat.reduceSub, Nat.reduceMul, Nat.reduceAdd, Nat.reduceLeDiff, reduceIte, reduceCtorEq, Nat.reduceEqDiff])
    | (refine ifP_neg (by first | assumption | omega) ?_ <;> try simp (maxSteps := 4000000) (disch := first | assumption | omega | (simp only [push_next, put_next, empty_next, List.length_cons, List.length_nil] <;> omega) | exact _root_.id rfl | exact _root_.id (fun _ => rfl) | fail) only [↓pre, post, Int.reduceEq, Int.reduceLT, Int.reduceLE, Int.reduceAdd, Int.reduceSub, Int.reduceMul, Int.reduceNeg, Nat.reduceLT, Nat.reduceSub, Nat.reduceMul, Nat.reduceAdd, Nat.reduceLeDiff, reduceIte, reduceCtorEq, Nat.reduceEqDiff])
    | (refine ifP_intro (fun hyp => ?_) (fun hyp => ?_) <;> first | simp (maxSteps := 4000000) (disch := first | assumption | omega | (simp only [push_next, put_next, empty_next, List.length_cons, List.length_nil] <;> omega) | exact _root_.id rfl | exact _root_.id (fun _ => rfl) | fail) only [↓pre, post, Int.reduceEq, Int.reduceLT, Int.reduceLE, Int.reduceAdd, Int.reduceSub, Int.reduceMul, Int.reduceNeg, Nat.reduceLT, Nat.reduceSub, Nat.reduceMul, Nat.reduceAdd, Nat.reduceLeDiff, reduceIte, reduceCtorEq, Nat.reduceEqDiff, eq_false hyp] | simp (maxSteps := 4000000) (disch := first | assumption | omega | (simp only [push_next, put_next, empty_next, List.length_cons, List.length_nil] <;> omega) | exact _root_.id rfl | exact _root_.id (fun _ => rfl) | fail) only [↓pre, post, Int.reduceEq, Int.reduceLT, Int.reduceLE, Int.reduceAdd, Int.reduceSub, Int.reduceMul, Int.reduceNeg, Nat.reduceLT, Nat.reduceSub, Nat.reduceMul, Nat.reduceAdd, Nat.reduceLeDiff, reduceIte, reduceCtorEq, Nat.reduceEqDiff, eq_true hyp] | skip))
  all_goals first
    | exact (if_pos (by omega)).symm
    | skip
  obtain ⟨a, rfl⟩ := Int.eq_ofNat_of_zero_le (a := a) (by omega)
  obtain ⟨b, rfl⟩ := Int.eq_ofNat_of_zero_le (a := b) (by omega)
  refine w_loop (fun m vs h1 => ∃ (i : Nat) (x6 x7 x8 x9 x10 : AVal), m = b - (a + i) ∧ a + i ≤ b ∧ h1 = Heap.empty.push (.row true 0 true [.int .i64 a, .int .i64 b, .int .i64 n]) ∧
    vs = [.sl (items l) t, .agg [.int .i64 a, .int .i64 b, .int .i64 n], .ptr 0 0, .str [], .str (txs l (b - 1) a i), .int .i64 ((a + i : Nat) : Int), x6, x7, x8, x9, x10]) (b - a)
    ⟨0, _, _, _, _, _, rfl, by omega, rfl, rfl⟩ ?_
  rintro m vs h1 ⟨i, x6, x7, x8, x9, x10, rfl, hib, rfl, rfl⟩
  have hx := txs_len hs (b - 1) a i
  have hx1 := hs (a + i)
  have ht : ∀ y, tx l (b - 1) (a + i) = y → txs l (b - 1) a (i + 1) = txs l (b - 1) a i ++ y := fun y e => by rw [← e]; rfl
  try simp (maxSteps := 4000000) (disch := first | assumption | omega | (simp only [push_next, put_next, empty_next, List.length_cons, List.length_nil] <;> omega) | exact _root_.id rfl | exact _root_.id (fun _ => rfl) | fail) only [↓pre, post, Int.reduceEq, Int.reduceLT, Int.reduceLE, Int.reduceAdd, Int.reduceSub, Int.reduceMul, Int.reduceNeg, Nat.reduceLT, Nat.reduceSub, Nat.reduceMul, Nat.reduceAdd, Nat.reduceLeDiff, reduceIte, reduceCtorEq, Nat.reduceEqDiff, Item.toA]
  repeat' (first
    | (refine ifP_pos (by first | assumption | omega) ?_ <;> try simp (maxSteps := 4000000) (disch := first | assumption | omega | (simp only [push_next, put_next, empty_next, List.length_cons, List.length_nil] <;> omega) | exact _root_.id rfl | exact _root_.id (fun _ => rfl) | fail) only [↓pre, post, Int.reduceEq, Int.reduceLT, Int.reduceLE, Int.reduceAdd, Int.reduceSub, Int.reduceMul, Int.reduceNeg, Nat.reduceLT, Nat.reduceSub, Nat.reduceMul, Nat.reduceAdd, Nat.reduceLeDiff, reduceIte, reduceCtorEq, Nat.reduceEqDiff, Item.toA])
    | (refine ifP_neg (by first | assumption | omega) ?_ <;> try simp (maxSteps := 4000000) (disch := first | assumption | omega | (simp only [push_next, put_next, empty_next, List.length_cons, List.length_nil] <;> omega) | exact _root_.id rfl | exact _root_.id (fun _ => rfl) | fail) only [↓pre, post, Int.reduceEq, Int.reduceLT, Int.reduceLE, Int.reduceAdd, Int.reduceSub, Int.reduceMul, Int.reduceNeg, Nat.reduceLT, Nat.reduceSub, Nat.reduceMul, Nat.reduceAdd, Nat.reduceLeDiff, reduceIte, reduceCtorEq, Nat.reduceEqDiff, Item.toA])
    | (refine ifP_intro (fun hyp => ?_) (fun hyp => ?_) <;> first | simp (maxSteps := 4000000) (disch := first | assumption | omega | (simp only [push_next, put_next, empty_next, List.length_cons, List.length_nil] <;> omega) | exact _root_.id rfl | exact _root_.id (fun _ => rfl) | fail) only [↓pre, post, Int.reduceEq, Int.reduceLT, Int.reduceLE, Int.reduceAdd, Int.reduceSub, Int.reduceMul, Int.reduceNeg, Nat.reduceLT, Nat.reduceSub, Nat.reduceMul, Nat.reduceAdd, Nat.reduceLeDiff, reduceIte, reduceCtorEq, Nat.reduceEqDiff, Item.toA, eq_false hyp] | simp (maxSteps := 4000000) (disch := first | assumption | omega | (simp only [push_next, put_next, empty_next, List.length_cons, List.length_nil] <;> omega) | exact _root_.id rfl | exact _root_.id (fun _ => rfl) | fail) only [↓pre, post, Int.reduceEq, Int.reduceLT, Int.reduceLE, Int.reduceAdd, Int.reduceSub, Int.reduceMul, Int.reduceNeg, Nat.reduceLT, Nat.reduceSub, Nat.reduceMul, Nat.reduceAdd, Nat.reduceLeDiff, reduceIte, reduceCtorEq, Nat.reduceEqDiff, Item.toA, eq_true hyp] | skip))
  all_goals first
    | exact lp_n ⟨b - (a + (i + 1)), by omega, i + 1, _, _, _, _, _, rfl, by omega, rfl, by rw [ht _ (by rw [tx, if_pos (by omega)])]; rfl⟩
    | exact lp_n ⟨b - (a + (i + 1)), by omega, i + 1, _, _, _, _, _, rfl, by omega, rfl, by rw [ht _ (by rw [tx, if_neg (by omega), if_pos (by omega)])]; rfl⟩
    | exact lp_n ⟨b - (a + (i + 1)), by omega, i + 1, _, _, _, _, _, rfl, by omega, rfl, by rw [ht _ (by rw [tx, if_neg (by omega), if_neg (by omega)]), List.append_nil]; rfl⟩
    | skip
  · rw [textS, if_neg (by omega), show (↑b : Int).toNat - 1 = b - 1 by omega, show (↑b : Int).toNat - (↑a : Int).toNat = i by omega]; rfl

theorem text_v {l : List Item} {t : Tok} {a b n : Int} (hs : short l) (hl : l.length < 1000) (hb : i64 b) : PV F 23 [.sl (items l) t, lineV a b n] = some (.str (textS l a b)) := by
  refine PV_wp (fn := c23) rfl ?_
  dsimp only [c23, lineV]
  try simp (maxSteps := 4000000) (disch := first | assumption | omega | (simp only [push_next, put_next, empty_next, List.length_cons, List.length_nil] <;> omega) | exact _root_.id rfl | exact _root_.id (fun _ => rfl) | fail) only [↓pre, post, Int.reduceEq, Int.reduceLT, Int.reduceLE, Int.reduceAdd, Int.reduceSub, Int.reduceMul, Int.reduceNeg, Nat.reduceLT, Nat.reduceSub, Nat.reduceMul, Nat.reduceAdd, Nat.reduceLeDiff, reduceIte, reduceCtorEq, Nat.reduceEqDiff]
  repeat' (first
    | (refine ifP_pos (by first | assumption | omega) ?_ <;> try simp (maxSteps := 4000000) (disch := first | assumption | omega | (simp only [push_next, put_next, empty_next, List.length_cons, List.length_nil] <;> omega) | exact _root_.id rfl | exact _root_.id (fun _ => rfl) | fail) only [↓pre, post, Int.reduceEq, Int.reduceLT, Int.reduceLE, Int.reduceAdd, Int.reduceSub, Int.reduceMul, Int.reduceNeg, Nat.reduceLT, Nat.reduceSub, Nat.reduceMul, Nat.reduceAdd, Nat.reduceLeDiff, reduceIte, reduceCtorEq, Nat.reduceEqDiff])
    | (refine ifP_neg (by first | assumption | omega) ?_ <;> try simp (maxSteps := 4000000) (disch := first | assumption | omega | (simp only [push_next, put_next, empty_next, List.length_cons, List.length_nil] <;> omega) | exact _root_.id rfl | exact _root_.id (fun _ => rfl) | fail) only [↓pre, post, Int.reduceEq, Int.reduceLT, Int.reduceLE, Int.reduceAdd, Int.reduceSub, Int.reduceMul, Int.reduceNeg, Nat.reduceLT, Nat.reduceSub, Nat.reduceMul, Nat.reduceAdd, Nat.reduceLeDiff, reduceIte, reduceCtorEq, Nat.reduceEqDiff])
    | (refine ifP_intro (fun hyp => ?_) (fun hyp => ?_) <;> first | simp (maxSteps := 4000000) (disch := first | assumption | omega | (simp only [push_next, put_next, empty_next, List.length_cons, List.length_nil] <;> omega) | exact _root_.id rfl | exact _root_.id (fun _ => rfl) | fail) only [↓pre, post, Int.reduceEq, Int.reduceLT, Int.reduceLE, Int.reduceAdd, Int.reduceSub, Int.reduceMul, Int.reduceNeg, Nat.reduceLT, Nat.reduceSub, Nat.reduceMul, Nat.reduceAdd, Nat.reduceLeDiff, reduceIte, reduceCtorEq, Nat.reduceEqDiff, eq_false hyp] | simp (maxSteps := 4000000) (disch := first | assumption | omega | (simp only [push_next, put_next, empty_next, List.length_cons, List.length_nil] <;> omega) | exact _root_.id rfl | exact _root_.id (fun _ => rfl) | fail) only [↓pre, post, Int.reduceEq, Int.reduceLT, Int.reduceLE, Int.reduceAdd, Int.reduceSub, Int.reduceMul, Int.reduceNeg, Nat.reduceLT, Nat.reduceSub, Nat.reduceMul, Nat.reduceAdd, Nat.reduceLeDiff, reduceIte, reduceCtorEq, Nat.reduceEqDiff, eq_true hyp] | skip))
  all_goals first
    | exact (if_pos (by omega)).symm
    | skip
  obtain ⟨a, rfl⟩ := Int.eq_ofNat_of_zero_le (a := a) (by omega)
  obtain ⟨b, rfl⟩ := Int.eq_ofNat_of_zero_le (a := b) (by omega)
  refine w_loop (fun m vs h1 => ∃ (i : Nat) (x7 x8 x9 x10 x11 : AVal), m = b - (a + i) ∧ a + i ≤ b ∧ Bld h1 1 (txs l (b - 1) a i) ∧ 2 ≤ h1.next ∧
    vs = [.sl (items l) t, .agg [.int .i64 a, .int .i64 b, .int .i64 n], .ptr 0 0, .str [], .ptr 1 0, .int .i64 ((b : Int) - 1), .int .i64 ((a + i : Nat) : Int), x7, x8, x9, x10, x11]) (b - a)
    ⟨0, _, _, _, _, _, rfl, by omega, ⟨_, .nil, rfl, .inl rfl, .inl rfl, by simp [txs]⟩, by simp [push_next, empty_next], rfl⟩ ?_
  rintro m vs h1 ⟨i, x7, x8, x9, x10, x11, rfl, hib, hB, hn2, rfl⟩
  have hx := txs_len hs (b - 1) a i
  have hx1 := hs (a + i)
  have ht : ∀ y, tx l (b - 1) (a + i) = y → txs l (b - 1) a (i + 1) = txs l (b - 1) a i ++ y := fun y e => by rw [← e]; rfl
  have hBp : ∀ o, Bld (h1.push o) 1 (txs l (b - 1) a i) := fun o => by
    obtain ⟨x, tk, e1, e2, e3, e4⟩ := hB
    exact ⟨x, tk, get_push_old e1, e2, e3.push _, e4⟩
  have fin : ∀ (h2 : Heap) (y : List UInt8) (c7 c8 c9 c10 c11 : AVal), a + i < b → tx l (b - 1) (a + i) = y → Bld h2 1 (txs l (b - 1) a i ++ y) → h1.next ≤ h2.next →
      ∃ m', m' < b - (a + i) ∧ ∃ (k : Nat) (x7 x8 x9 x10 x11 : AVal), m' = b - (a + k) ∧ a + k ≤ b ∧ Bld h2 1 (txs l (b - 1) a k) ∧ 2 ≤ h2.next ∧
        [AVal.sl (items l) t, .agg [.int .i64 a, .int .i64 b, .int .i64 n], .ptr 0 0, .str [], .ptr 1 0, .int .i64 ((b : Int) - 1), .int .i64 ((a + i : Nat) + 1 : Int), c7, c8, c9, c10, c11] = [.sl (items l) t, .agg [.int .i64 a, .int .i64 b, .int .i64 n], .ptr 0 0, .str [], .ptr 1 0, .int .i64 ((b : Int) - 1), .int .i64 ((a + k : Nat) : Int), x7, x8, x9, x10, x11] :=
    fun h2 y c7 c8 c9 c10 c11 hlt e hB2 hle => ⟨b - (a + (i + 1)), by omega, i + 1, c7, c8, c9, c10, c11, rfl, by omega, by rw [ht y e]; exact hB2, by omega, rfl⟩
  have hBs : ∀ o h2, h2 = h1.push o → Bld h2 1 (txs l (b - 1) a i ++ []) := fun o h2 e => by rw [List.append_nil, e]; exact hBp o
  try simp (maxSteps := 4000000) (disch := first | assumption | omega | (simp only [push_next, put_next, empty_next, List.length_cons, List.length_nil] <;> omega) | exact _root_.id rfl | exact _root_.id (fun _ => rfl) | fail) only [↓pre, post, Int.reduceEq, Int.reduceLT, Int.reduceLE, Int.reduceAdd, Int.reduceSub, Int.reduceMul, Int.reduceNeg, Nat.reduceLT, Nat.reduceSub, Nat.reduceMul, Nat.reduceAdd, Nat.reduceLeDiff, reduceIte, reduceCtorEq, Nat.reduceEqDiff, Item.toA]
  repeat' (first
    | (refine ifP_pos (by first | assumption | omega) ?_ <;> try simp (maxSteps := 4000000) (disch := first | assumption | omega | (simp only [push_next, put_next, empty_next, List.length_cons, List.length_nil] <;> omega) | exact _root_.id rfl | exact _root_.id (fun _ => rfl) | fail) only [↓pre, post, Int.reduceEq, Int.reduceLT, Int.reduceLE, Int.reduceAdd, Int.reduceSub, Int.reduceMul, Int.reduceNeg, Nat.reduceLT, Nat.reduceSub, Nat.reduceMul, Nat.reduceAdd, Nat.reduceLeDiff, reduceIte, reduceCtorEq, Nat.reduceEqDiff, Item.toA])
    | (refine ifP_neg (by first | assumption | omega) ?_ <;> try simp (maxSteps := 4000000) (disch := first | assumption | omega | (simp only [push_next, put_next, empty_next, List.length_cons, List.length_nil] <;> omega) | exact _root_.id rfl | exact _root_.id (fun _ => rfl) | fail) only [↓pre, post, Int.reduceEq, Int.reduceLT, Int.reduceLE, Int.reduceAdd, Int.reduceSub, Int.reduceMul, Int.reduceNeg, Nat.reduceLT, Nat.reduceSub, Nat.reduceMul, Nat.reduceAdd, Nat.reduceLeDiff, reduceIte, reduceCtorEq, Nat.reduceEqDiff, Item.toA])
    | (refine ifP_intro (fun hyp => ?_) (fun hyp => ?_) <;> first | simp (maxSteps := 4000000) (disch := first | assumption | omega | (simp only [push_next, put_next, empty_next, List.length_cons, List.length_nil] <;> omega) | exact _root_.id rfl | exact _root_.id (fun _ => rfl) | fail) only [↓pre, post, Int.reduceEq, Int.reduceLT, Int.reduceLE, Int.reduceAdd, Int.reduceSub, Int.reduceMul, Int.reduceNeg, Nat.reduceLT, Nat.reduceSub, Nat.reduceMul, Nat.reduceAdd, Nat.reduceLeDiff, reduceIte, reduceCtorEq, Nat.reduceEqDiff, Item.toA, eq_false hyp] | simp (maxSteps := 4000000) (disch := first | assumption | omega | (simp only [push_next, put_next, empty_next, List.length_cons, List.length_nil] <;> omega) | exact _root_.id rfl | exact _root_.id (fun _ => rfl) | fail) only [↓pre, post, Int.reduceEq, Int.reduceLT, Int.reduceLE, Int.reduceAdd, Int.reduceSub, Int.reduceMul, Int.reduceNeg, Nat.reduceLT, Nat.reduceSub, Nat.reduceMul, Nat.reduceAdd, Nat.reduceLeDiff, reduceIte, reduceCtorEq, Nat.reduceEqDiff, Item.toA, eq_true hyp] | skip))
  · refine CV_mono (writeString_c (hBp _) (by omega)) ?_
    rintro r h2 ⟨hB2, hr2⟩
    try simp (maxSteps := 4000000) (disch := first | assumption | omega | (simp only [push_next, put_next, empty_next, List.length_cons, List.length_nil] <;> omega) | exact _root_.id rfl | exact _root_.id (fun _ => rfl) | fail) only [↓pre, post, Int.reduceEq, Int.reduceLT, Int.reduceLE, Int.reduceAdd, Int.reduceSub, Int.reduceMul, Int.reduceNeg, Nat.reduceLT, Nat.reduceSub, Nat.reduceMul, Nat.reduceAdd, Nat.reduceLeDiff, reduceIte, reduceCtorEq, Nat.reduceEqDiff]
    repeat' (first
      | (refine ifP_pos (by first | assumption | omega) ?_ <;> try simp (maxSteps := 4000000) (disch := first | assumption | omega | (simp only [push_next, put_next, empty_next, List.length_cons, List.length_nil] <;> omega) | exact _root_.id rfl | exact _root_.id (fun _ => rfl) | fail) only [↓pre, post, Int.reduceEq, Int.reduceLT, Int.reduceLE, Int.reduceAdd, Int.reduceSub, Int.reduceMul, Int.reduceNeg, Nat.reduceLT, Nat.reduceSub, Nat.reduceMul, Nat.reduceAdd, Nat.reduceLeDiff, reduceIte, reduceCtorEq, Nat.reduceEqDiff])
      | (refine ifP_neg (by first | assumption | omega) ?_ <;> try simp (maxSteps := 4000000) (disch := first | assumption | omega | (simp only [push_next, put_next, empty_next, List.length_cons, List.length_nil] <;> omega) | exact _root_.id rfl | exact _root_.id (fun _ => rfl) | fail) only [↓pre, post, Int.reduceEq, Int.reduceLT, Int.reduceLE, Int.reduceAdd, Int.reduceSub, Int.reduceMul, Int.reduceNeg, Nat.reduceLT, Nat.reduceSub, Nat.reduceMul, Nat.reduceAdd, Nat.reduceLeDiff, reduceIte, reduceCtorEq, Nat.reduceEqDiff])
      | (refine ifP_intro (fun hyp => ?_) (fun hyp => ?_) <;> first | simp (maxSteps := 4000000) (disch := first | assumption | omega | (simp only [push_next, put_next, empty_next, List.length_cons, List.length_nil] <;> omega) | exact _root_.id rfl | exact _root_.id (fun _ => rfl) | fail) only [↓pre, post, Int.reduceEq, Int.reduceLT, Int.reduceLE, Int.reduceAdd, Int.reduceSub, Int.reduceMul, Int.reduceNeg, Nat.reduceLT, Nat.reduceSub, Nat.reduceMul, Nat.reduceAdd, Nat.reduceLeDiff, reduceIte, reduceCtorEq, Nat.reduceEqDiff, eq_false hyp] | simp (maxSteps := 4000000) (disch := first | assumption | omega | (simp only [push_next, put_next, empty_next, List.length_cons, List.length_nil] <;> omega) | exact _root_.id rfl | exact _root_.id (fun _ => rfl) | fail) only [↓pre, post, Int.reduceEq, Int.reduceLT, Int.reduceLE, Int.reduceAdd, Int.reduceSub, Int.reduceMul, Int.reduceNeg, Nat.reduceLT, Nat.reduceSub, Nat.reduceMul, Nat.reduceAdd, Nat.reduceLeDiff, reduceIte, reduceCtorEq, Nat.reduceEqDiff, eq_true hyp] | skip))
    exact lp_n (fin _ _ _ _ _ _ _ (by omega) (by rw [tx, if_pos (by omega)]) hB2 (Nat.le_trans (Nat.le_succ _) hr2.1))
  · refine CV_mono (writeString_c (hBp _) (by omega)) ?_
    rintro r h2 ⟨hB2, hr2⟩
    try simp (maxSteps := 4000000) (disch := first | assumption | omega | (simp only [push_next, put_next, empty_next, List.length_cons, List.length_nil] <;> omega) | exact _root_.id rfl | exact _root_.id (fun _ => rfl) | fail) only [↓pre, post, Int.reduceEq, Int.reduceLT, Int.reduceLE, Int.reduceAdd, Int.reduceSub, Int.reduceMul, Int.reduceNeg, Nat.reduceLT, Nat.reduceSub, Nat.reduceMul, Nat.reduceAdd, Nat.reduceLeDiff, reduceIte, reduceCtorEq, Nat.reduceEqDiff]
    repeat' (first
      | (refine ifP_pos (by first | assumption | omega) ?_ <;> try simp (maxSteps := 4000000) (disch := first | assumption | omega | (simp only [push_next, put_next, empty_next, List.length_cons, List.length_nil] <;> omega) | exact _root_.id rfl | exact _root_.id (fun _ => rfl) | fail) only [↓pre, post, Int.reduceEq, Int.reduceLT, Int.reduceLE, Int.reduceAdd, Int.reduceSub, Int.reduceMul, Int.reduceNeg, Nat.reduceLT, Nat.reduceSub, Nat.reduceMul, Nat.reduceAdd, Nat.reduceLeDiff, reduceIte, reduceCtorEq, Nat.reduceEqDiff])
      | (refine ifP_neg (by first | assumption | omega) ?_ <;> try simp (maxSteps := 4000000) (disch := first | assumption | omega | (simp only [push_next, put_next, empty_next, List.length_cons, List.length_nil] <;> omega) | exact _root_.id rfl | exact _root_.id (fun _ => rfl) | fail) only [↓pre, post, Int.reduceEq, Int.reduceLT, Int.reduceLE, Int.reduceAdd, Int.reduceSub, Int.reduceMul, Int.reduceNeg, Nat.reduceLT, Nat.reduceSub, Nat.reduceMul, Nat.reduceAdd, Nat.reduceLeDiff, reduceIte, reduceCtorEq, Nat.reduceEqDiff])
      | (refine ifP_intro (fun hyp => ?_) (fun hyp => ?_) <;> first | simp (maxSteps := 4000000) (disch := first | assumption | omega | (simp only [push_next, put_next, empty_next, List.length_cons, List.length_nil] <;> omega) | exact _root_.id rfl | exact _root_.id (fun _ => rfl) | fail) only [↓pre, post, Int.reduceEq, Int.reduceLT, Int.reduceLE, Int.reduceAdd, Int.reduceSub, Int.reduceMul, Int.reduceNeg, Nat.reduceLT, Nat.reduceSub, Nat.reduceMul, Nat.reduceAdd, Nat.reduceLeDiff, reduceIte, reduceCtorEq, Nat.reduceEqDiff, eq_false hyp] | simp (maxSteps := 4000000) (disch := first | assumption | omega | (simp only [push_next, put_next, empty_next, List.length_cons, List.length_nil] <;> omega) | exact _root_.id rfl | exact _root_.id (fun _ => rfl) | fail) only [↓pre, post, Int.reduceEq, Int.reduceLT, Int.reduceLE, Int.reduceAdd, Int.reduceSub, Int.reduceMul, Int.reduceNeg, Nat.reduceLT, Nat.reduceSub, Nat.reduceMul, Nat.reduceAdd, Nat.reduceLeDiff, reduceIte, reduceCtorEq, Nat.reduceEqDiff, eq_true hyp] | skip))
    exact lp_n (fin _ _ _ _ _ _ _ (by omega) (by rw [tx, if_pos (by omega)]) hB2 (Nat.le_trans (Nat.le_succ _) hr2.1))
  · exact lp_n (fin _ _ _ _ _ _ _ (by omega) (by rw [tx, if_neg (by omega), if_neg (by omega)]) (hBs _ _ rfl) (Nat.le_succ _))
  · refine CV_mono (writeByte_c (x := 32) (hBp _) (by omega)) ?_
    rintro r h2 ⟨hB2, hr2⟩
    try simp (maxSteps := 4000000) (disch := first | assumption | omega | (simp only [push_next, put_next, empty_next, List.length_cons, List.length_nil] <;> omega) | exact _root_.id rfl | exact _root_.id (fun _ => rfl) | fail) only [↓pre, post, Int.reduceEq, Int.reduceLT, Int.reduceLE, Int.reduceAdd, Int.reduceSub, Int.reduceMul, Int.reduceNeg, Nat.reduceLT, Nat.reduceSub, Nat.reduceMul, Nat.reduceAdd, Nat.reduceLeDiff, reduceIte, reduceCtorEq, Nat.reduceEqDiff]
    repeat' (first
      | (refine ifP_pos (by first | assumption | omega) ?_ <;> try simp (maxSteps := 4000000) (disch := first | assumption | omega | (simp only [push_next, put_next, empty_next, List.length_cons, List.length_nil] <;> omega) | exact _root_.id rfl | exact _root_.id (fun _ => rfl) | fail) only [↓pre, post, Int.reduceEq, Int.reduceLT, Int.reduceLE, Int.reduceAdd, Int.reduceSub, Int.reduceMul, Int.reduceNeg, Nat.reduceLT, Nat.reduceSub, Nat.reduceMul, Nat.reduceAdd, Nat.reduceLeDiff, reduceIte, reduceCtorEq, Nat.reduceEqDiff])
      | (refine ifP_neg (by first | assumption | omega) ?_ <;> try simp (maxSteps := 4000000) (disch := first | assumption | omega | (simp only [push_next, put_next, empty_next, List.length_cons, List.length_nil] <;> omega) | exact _root_.id rfl | exact _root_.id (fun _ => rfl) | fail) only [↓pre, post, Int.reduceEq, Int.reduceLT, Int.reduceLE, Int.reduceAdd, Int.reduceSub, Int.reduceMul, Int.reduceNeg, Nat.reduceLT, Nat.reduceSub, Nat.reduceMul, Nat.reduceAdd, Nat.reduceLeDiff, reduceIte, reduceCtorEq, Nat.reduceEqDiff])
      | (refine ifP_intro (fun hyp => ?_) (fun hyp => ?_) <;> first | simp (maxSteps := 4000000) (disch := first | assumption | omega | (simp only [push_next, put_next, empty_next, List.length_cons, List.length_nil] <;> omega) | exact _root_.id rfl | exact _root_.id (fun _ => rfl) | fail) only [↓pre, post, Int.reduceEq, Int.reduceLT, Int.reduceLE, Int.reduceAdd, Int.reduceSub, Int.reduceMul, Int.reduceNeg, Nat.reduceLT, Nat.reduceSub, Nat.reduceMul, Nat.reduceAdd, Nat.reduceLeDiff, reduceIte, reduceCtorEq, Nat.reduceEqDiff, eq_false hyp] | simp (maxSteps := 4000000) (disch := first | assumption | omega | (simp only [push_next, put_next, empty_next, List.length_cons, List.length_nil] <;> omega) | exact _root_.id rfl | exact _root_.id (fun _ => rfl) | fail) only [↓pre, post, Int.reduceEq, Int.reduceLT, Int.reduceLE, Int.reduceAdd, Int.reduceSub, Int.reduceMul, Int.reduceNeg, Nat.reduceLT, Nat.reduceSub, Nat.reduceMul, Nat.reduceAdd, Nat.reduceLeDiff, reduceIte, reduceCtorEq, Nat.reduceEqDiff, eq_true hyp] | skip))
    exact lp_n (fin _ _ _ _ _ _ _ (by omega) (by rw [tx, if_neg (by omega), if_pos (by omega)]) hB2 (Nat.le_trans (Nat.le_succ _) hr2.1))
  · exact lp_n (fin _ _ _ _ _ _ _ (by omega) (by rw [tx, if_neg (by omega), if_neg (by omega)]) (hBs _ _ rfl) (Nat.le_succ _))
  · exact lp_n (fin _ _ _ _ _ _ _ (by omega) (by rw [tx, if_neg (by omega), if_neg (by omega)]) (hBs _ _ rfl) (Nat.le_succ _))
  · refine string_c hB (by omega) ?_
    try simp (maxSteps := 4000000) (disch := first | assumption | omega | (simp only [push_next, put_next, empty_next, List.length_cons, List.length_nil] <;> omega) | exact _root_.id rfl | exact _root_.id (fun _ => rfl) | fail) only [↓pre, post, Int.reduceEq, Int.reduceLT, Int.reduceLE, Int.reduceAdd, Int.reduceSub, Int.reduceMul, Int.reduceNeg, Nat.reduceLT, Nat.reduceSub, Nat.reduceMul, Nat.reduceAdd, Nat.reduceLeDiff, reduceIte, reduceCtorEq, Nat.reduceEqDiff]
    repeat' (first
      | (refine ifP_pos (by first | assumption | omega) ?_ <;> try simp (maxSteps := 4000000) (disch := first | assumption | omega | (simp only [push_next, put_next, empty_next, List.length_cons, List.length_nil] <;> omega) | exact _root_.id rfl | exact _root_.id (fun _ => rfl) | fail) only [↓pre, post, Int.reduceEq, Int.reduceLT, Int.reduceLE, Int.reduceAdd, Int.reduceSub, Int.reduceMul, Int.reduceNeg, Nat.reduceLT, Nat.reduceSub, Nat.reduceMul, Nat.reduceAdd, Nat.reduceLeDiff, reduceIte, reduceCtorEq, Nat.reduceEqDiff])
      | (refine ifP_neg (by first | assumption | omega) ?_ <;> try simp (maxSteps := 4000000) (disch := first | assumption | omega | (simp only [push_next, put_next, empty_next, List.length_cons, List.length_nil] <;> omega) | exact _root_.id rfl | exact _root_.id (fun _ => rfl) | fail) only [↓pre, post, Int.reduceEq, Int.reduceLT, Int.reduceLE, Int.reduceAdd, Int.reduceSub, Int.reduceMul, Int.reduceNeg, Nat.reduceLT, Nat.reduceSub, Nat.reduceMul, Nat.reduceAdd, Nat.reduceLeDiff, reduceIte, reduceCtorEq, Nat.reduceEqDiff])
      | (refine ifP_intro (fun hyp => ?_) (fun hyp => ?_) <;> first | simp (maxSteps := 4000000) (disch := first | assumption | omega | (simp only [push_next, put_next, empty_next, List.length_cons, List.length_nil] <;> omega) | exact _root_.id rfl | exact _root_.id (fun _ => rfl) | fail) only [↓pre, post, Int.reduceEq, Int.reduceLT, Int.reduceLE, Int.reduceAdd, Int.reduceSub, Int.reduceMul, Int.reduceNeg, Nat.reduceLT, Nat.reduceSub, Nat.reduceMul, Nat.reduceAdd, Nat.reduceLeDiff, reduceIte, reduceCtorEq, Nat.reduceEqDiff, eq_false hyp] | simp (maxSteps := 4000000) (disch := first | assumption | omega | (simp only [push_next, put_next, empty_next, List.length_cons, List.length_nil] <;> omega) | exact _root_.id rfl | exact _root_.id (fun _ => rfl) | fail) only [↓pre, post, Int.reduceEq, Int.reduceLT, Int.reduceLE, Int.reduceAdd, Int.reduceSub, Int.reduceMul, Int.reduceNeg, Nat.reduceLT, Nat.reduceSub, Nat.reduceMul, Nat.reduceAdd, Nat.reduceLeDiff, reduceIte, reduceCtorEq, Nat.reduceEqDiff, eq_true hyp] | skip))
    rw [textS, if_neg (by omega), show (↑b : Int).toNat - 1 = b - 1 by omega, show (↑b : Int).toNat - (↑a : Int).toNat = i by omega]; rfl

end Go.Proofs.Ytcammfdljiingaa
