/-
  Break and Duals of the reference model; lines with one thing changed.
-/
import Derived.Test.YtcammfdljiingaaLbQ
set_option linter.unusedSimpArgs false
set_option linter.unusedVariables false
set_option maxHeartbeats 8000000
namespace Go.Proofs.Ytcammfdljiingaa
open Go Go.Abs

def rdualsS (l : List Item) (w : Int) : List Int := (plansS l w).map fun q => if q.is = true then q.cost else -1

theorem plansS_len (l : List Item) (w : Int) : (plansS l w).length = l.length := by
  have gen : ∀ (xs : List (Nat × Int × Int)) (p : Nat) (q : Pl) (s : List Pl), (xs.foldl (bst l p q) s).length = s.length := by
    intro xs
    induction xs with
    | nil => intros; rfl
    | cons x xs ih => intro p q s; rw [List.foldl_cons, ih]; unfold bst; split <;> simp
  have gen2 : ∀ (ks : List Nat) (s : List Pl), (ks.foldl (rnd l w) s).length = s.length := by
    intro ks
    induction ks with
    | nil => intros; rfl
    | cons k ks ih => intro s; rw [List.foldl_cons, ih]; unfold rnd; split; rfl; exact gen _ _ _ _
  rw [plansS, gen2]; simp

theorem refDuals_v {l : List Item} {t : Tok} {w : Int} (ht : Pt t) (hl : l.length < 100000) : PV F 18 [.sl (items l) t, .int .i64 w] = some (if widthOk w ∧ valid l then .sl ((rdualsS l w).map (.int .i64)) .none else .sl [] .nil) := by
  by_cases hr : widthOk w ∧ valid l
  · have hl1 := hr.2.1
    have hl2 := hr.2.2.1
    obtain ⟨ps, hp, her, hb⟩ := plans_v (w := w) ht hr.2 hr.1
    have hpl : ps.length = l.length := by rw [← plansS_len l w, ← her, List.length_map]
    suffices hs : CV F 18 [.sl (items l) t, .int .i64 w] Heap.empty (fun r h' => ∃ tk, r = .sl ((rdualsS l w).map (.int .i64)) tk ∧ Grow h' 3 1 tk ∧ tk ≠ .nil) by
      obtain ⟨r, h', c, tk, rfl, hg, hne⟩ := hs
      rw [if_pos hr]
      refine PV_of c ?_
      rcases hg with rfl | ⟨id, rfl, _⟩
      · exact absurd rfl hne
      · rfl
    have hdl : rdualsS l w = ps.map fun q => if q.is = true then q.cost else -1 := by rw [rdualsS, ← her, List.map_map]; rfl
    refine CV_wp (fn := c18) rfl ?_
    dsimp only [c18]
    try simp (maxSteps := 4000000) (disch := first | assumption | omega | (simp only [push_next, put_next, empty_next, List.length_cons, List.length_nil] <;> omega) | exact _root_.id rfl | exact _root_.id (fun _ => rfl) | fail) only [↓pre, post, Int.reduceEq, Int.reduceLT, Int.reduceLE, Int.reduceAdd, Int.reduceSub, Int.reduceMul, Int.reduceNeg, Nat.reduceLT, Nat.reduceSub, Nat.reduceMul, Nat.reduceAdd, Nat.reduceLeDiff, reduceIte, reduceCtorEq, Nat.reduceEqDiff, refReady_v, eq_true hr, hp]
    repeat' (first
      | (refine ifP_pos (by first | assumption | omega) ?_ <;> try simp (maxSteps := 4000000) (disch := first | assumption | omega | (simp only [push_next, put_next, empty_next, List.length_cons, List.length_nil] <;> omega) | exact _root_.id rfl | exact _root_.id (fun _ => rfl) | fail) only [↓pre, post, Int.reduceEq, Int.reduceLT, Int.reduceLE, Int.reduceAdd, Int.reduceSub, Int.reduceMul, Int.reduceNeg, Nat.reduceLT, Nat.reduceSub, Nat.reduceMul, Nat.reduceAdd, Nat.reduceLeDiff, reduceIte, reduceCtorEq, Nat.reduceEqDiff, refReady_v, eq_true hr, hp])
      | (refine ifP_neg (by first | assumption | omega) ?_ <;> try simp (maxSteps := 4000000) (disch := first | assumption | omega | (simp only [push_next, put_next, empty_next, List.length_cons, List.length_nil] <;> omega) | exact _root_.id rfl | exact _root_.id (fun _ => rfl) | fail) only [↓pre, post, Int.reduceEq, Int.reduceLT, Int.reduceLE, Int.reduceAdd, Int.reduceSub, Int.reduceMul, Int.reduceNeg, Nat.reduceLT, Nat.reduceSub, Nat.reduceMul, Nat.reduceAdd, Nat.reduceLeDiff, reduceIte, reduceCtorEq, Nat.reduceEqDiff, refReady_v, eq_true hr, hp])
      | (refine ifP_intro (fun hyp => ?_) (fun hyp => ?_) <;> first | simp (maxSteps := 4000000) (disch := first | assumption | omega | (simp only [push_next, put_next, empty_next, List.length_cons, List.length_nil] <;> omega) | exact _root_.id rfl | exact _root_.id (fun _ => rfl) | fail) only [↓pre, post, Int.reduceEq, Int.reduceLT, Int.reduceLE, Int.reduceAdd, Int.reduceSub, Int.reduceMul, Int.reduceNeg, Nat.reduceLT, Nat.reduceSub, Nat.reduceMul, Nat.reduceAdd, Nat.reduceLeDiff, reduceIte, reduceCtorEq, Nat.reduceEqDiff, refReady_v, eq_true hr, hp, eq_false hyp] | simp (maxSteps := 4000000) (disch := first | assumption | omega | (simp only [push_next, put_next, empty_next, List.length_cons, List.length_nil] <;> omega) | exact _root_.id rfl | exact _root_.id (fun _ => rfl) | fail) only [↓pre, post, Int.reduceEq, Int.reduceLT, Int.reduceLE, Int.reduceAdd, Int.reduceSub, Int.reduceMul, Int.reduceNeg, Nat.reduceLT, Nat.reduceSub, Nat.reduceMul, Nat.reduceAdd, Nat.reduceLeDiff, reduceIte, reduceCtorEq, Nat.reduceEqDiff, refReady_v, eq_true hr, hp, eq_true hyp] | skip))
    refine w_loop (fun m vs h0 => ∃ (i : Nat) (tk : Tok) (x6 x7 x8 : AVal), m = l.length - i ∧ i ≤ l.length ∧ Grow h0 3 1 tk ∧ (tk = .nil ↔ i = 0) ∧
      vs = [.sl (items l) t, .int .i64 w, .sl [] .nil, .sl (((rdualsS l w).take i).map (.int .i64)) tk, .sl (ps.map fun q => Pl.toA q.strip) .none, .int .i64 i, x6, x7, x8]) l.length
      ⟨0, .nil, _, _, _, rfl, by omega, .inl rfl, by simp, rfl⟩ ?_
    rintro m vs h0 ⟨i, tk, x6, x7, x8, rfl, hi, hg, hn, rfl⟩
    have hrl : (rdualsS l w).length = l.length := by rw [hdl, List.length_map, hpl]
    have hnil : tk = .nil ↔ (rdualsS l w).take i = [] := by
      rw [hn]
      constructor
      · rintro rfl; rfl
      · intro h
        have := congrArg List.length h
        simp only [List.length_take, List.length_nil] at this
        omega
    have htk : ∀ v, i < l.length → nth (rdualsS l w) i = v → (rdualsS l w).take (i + 1) = (rdualsS l w).take i ++ [v] := fun v h e => by
      rw [List.take_succ_eq_append_getElem (by omega), ← nth_eq (by omega), e]
    have hval : i < l.length → nth (rdualsS l w) i = if (nth ps i).is = true then (nth ps i).cost else -1 := fun h => by rw [hdl, nth_map _ _ (by omega)]
    try simp (maxSteps := 4000000) (disch := first | assumption | omega | (simp only [push_next, put_next, empty_next, List.length_cons, List.length_nil] <;> omega) | exact _root_.id rfl | exact _root_.id (fun _ => rfl) | fail) only [↓pre, post, Int.reduceEq, Int.reduceLT, Int.reduceLE, Int.reduceAdd, Int.reduceSub, Int.reduceMul, Int.reduceNeg, Nat.reduceLT, Nat.reduceSub, Nat.reduceMul, Nat.reduceAdd, Nat.reduceLeDiff, reduceIte, reduceCtorEq, Nat.reduceEqDiff, Pl.toA, Pl.strip, hpl]
    repeat' (first
      | (refine ifP_pos (by first | assumption | omega) ?_ <;> try simp (maxSteps := 4000000) (disch := first | assumption | omega | (simp only [push_next, put_next, empty_next, List.length_cons, List.length_nil] <;> omega) | exact _root_.id rfl | exact _root_.id (fun _ => rfl) | fail) only [↓pre, post, Int.reduceEq, Int.reduceLT, Int.reduceLE, Int.reduceAdd, Int.reduceSub, Int.reduceMul, Int.reduceNeg, Nat.reduceLT, Nat.reduceSub, Nat.reduceMul, Nat.reduceAdd, Nat.reduceLeDiff, reduceIte, reduceCtorEq, Nat.reduceEqDiff, Pl.toA, Pl.strip, hpl])
      | (refine ifP_neg (by first | assumption | omega) ?_ <;> try simp (maxSteps := 4000000) (disch := first | assumption | omega | (simp only [push_next, put_next, empty_next, List.length_cons, List.length_nil] <;> omega) | exact _root_.id rfl | exact _root_.id (fun _ => rfl) | fail) only [↓pre, post, Int.reduceEq, Int.reduceLT, Int.reduceLE, Int.reduceAdd, Int.reduceSub, Int.reduceMul, Int.reduceNeg, Nat.reduceLT, Nat.reduceSub, Nat.reduceMul, Nat.reduceAdd, Nat.reduceLeDiff, reduceIte, reduceCtorEq, Nat.reduceEqDiff, Pl.toA, Pl.strip, hpl])
      | (refine ifP_intro (fun hyp => ?_) (fun hyp => ?_) <;> first | simp (maxSteps := 4000000) (disch := first | assumption | omega | (simp only [push_next, put_next, empty_next, List.length_cons, List.length_nil] <;> omega) | exact _root_.id rfl | exact _root_.id (fun _ => rfl) | fail) only [↓pre, post, Int.reduceEq, Int.reduceLT, Int.reduceLE, Int.reduceAdd, Int.reduceSub, Int.reduceMul, Int.reduceNeg, Nat.reduceLT, Nat.reduceSub, Nat.reduceMul, Nat.reduceAdd, Nat.reduceLeDiff, reduceIte, reduceCtorEq, Nat.reduceEqDiff, Pl.toA, Pl.strip, hpl, eq_false hyp] | simp (maxSteps := 4000000) (disch := first | assumption | omega | (simp only [push_next, put_next, empty_next, List.length_cons, List.length_nil] <;> omega) | exact _root_.id rfl | exact _root_.id (fun _ => rfl) | fail) only [↓pre, post, Int.reduceEq, Int.reduceLT, Int.reduceLE, Int.reduceAdd, Int.reduceSub, Int.reduceMul, Int.reduceNeg, Nat.reduceLT, Nat.reduceSub, Nat.reduceMul, Nat.reduceAdd, Nat.reduceLeDiff, reduceIte, reduceCtorEq, Nat.reduceEqDiff, Pl.toA, Pl.strip, hpl, eq_true hyp] | skip))
    · refine append_K (f := AVal.int .i64) ((rdualsS l w).take i) [(nth ps i).cost] (fun _ => rfl) (fun _ => rfl) (fun _ => rfl) rfl rfl hg hnil (by simp; omega) (by omega) (by omega) (by omega) ?_
      intro h' tk' g' n' _ _ _ _
      try simp (maxSteps := 4000000) (disch := first | assumption | omega | (simp only [push_next, put_next, empty_next, List.length_cons, List.length_nil] <;> omega) | exact _root_.id rfl | exact _root_.id (fun _ => rfl) | fail) only [↓pre, post, Int.reduceEq, Int.reduceLT, Int.reduceLE, Int.reduceAdd, Int.reduceSub, Int.reduceMul, Int.reduceNeg, Nat.reduceLT, Nat.reduceSub, Nat.reduceMul, Nat.reduceAdd, Nat.reduceLeDiff, reduceIte, reduceCtorEq, Nat.reduceEqDiff]
      repeat' (first
        | (refine ifP_pos (by first | assumption | omega) ?_ <;> try simp (maxSteps := 4000000) (disch := first | assumption | omega | (simp only [push_next, put_next, empty_next, List.length_cons, List.length_nil] <;> omega) | exact _root_.id rfl | exact _root_.id (fun _ => rfl) | fail) only [↓pre, post, Int.reduceEq, Int.reduceLT, Int.reduceLE, Int.reduceAdd, Int.reduceSub, Int.reduceMul, Int.reduceNeg, Nat.reduceLT, Nat.reduceSub, Nat.reduceMul, Nat.reduceAdd, Nat.reduceLeDiff, reduceIte, reduceCtorEq, Nat.reduceEqDiff])
        | (refine ifP_neg (by first | assumption | omega) ?_ <;> try simp (maxSteps := 4000000) (disch := first | assumption | omega | (simp only [push_next, put_next, empty_next, List.length_cons, List.length_nil] <;> omega) | exact _root_.id rfl | exact _root_.id (fun _ => rfl) | fail) only [↓pre, post, Int.reduceEq, Int.reduceLT, Int.reduceLE, Int.reduceAdd, Int.reduceSub, Int.reduceMul, Int.reduceNeg, Nat.reduceLT, Nat.reduceSub, Nat.reduceMul, Nat.reduceAdd, Nat.reduceLeDiff, reduceIte, reduceCtorEq, Nat.reduceEqDiff])
        | (refine ifP_intro (fun hyp => ?_) (fun hyp => ?_) <;> first | simp (maxSteps := 4000000) (disch := first | assumption | omega | (simp only [push_next, put_next, empty_next, List.length_cons, List.length_nil] <;> omega) | exact _root_.id rfl | exact _root_.id (fun _ => rfl) | fail) only [↓pre, post, Int.reduceEq, Int.reduceLT, Int.reduceLE, Int.reduceAdd, Int.reduceSub, Int.reduceMul, Int.reduceNeg, Nat.reduceLT, Nat.reduceSub, Nat.reduceMul, Nat.reduceAdd, Nat.reduceLeDiff, reduceIte, reduceCtorEq, Nat.reduceEqDiff, eq_false hyp] | simp (maxSteps := 4000000) (disch := first | assumption | omega | (simp only [push_next, put_next, empty_next, List.length_cons, List.length_nil] <;> omega) | exact _root_.id rfl | exact _root_.id (fun _ => rfl) | fail) only [↓pre, post, Int.reduceEq, Int.reduceLT, Int.reduceLE, Int.reduceAdd, Int.reduceSub, Int.reduceMul, Int.reduceNeg, Nat.reduceLT, Nat.reduceSub, Nat.reduceMul, Nat.reduceAdd, Nat.reduceLeDiff, reduceIte, reduceCtorEq, Nat.reduceEqDiff, eq_true hyp] | skip))
      exact lp_n ⟨l.length - (i + 1), by omega, i + 1, tk', _, _, _, rfl, by omega, g', by rw [n']; simp, by rw [htk _ (by omega) (by rw [hval (by omega), if_pos hyp])]; rfl⟩
    · refine append_K (f := AVal.int .i64) ((rdualsS l w).take i) [-1] (fun _ => rfl) (fun _ => rfl) (fun _ => rfl) rfl rfl hg hnil (by simp; omega) (by omega) (by omega) (by omega) ?_
      intro h' tk' g' n' _ _ _ _
      try simp (maxSteps := 4000000) (disch := first | assumption | omega | (simp only [push_next, put_next, empty_next, List.length_cons, List.length_nil] <;> omega) | exact _root_.id rfl | exact _root_.id (fun _ => rfl) | fail) only [↓pre, post, Int.reduceEq, Int.reduceLT, Int.reduceLE, Int.reduceAdd, Int.reduceSub, Int.reduceMul, Int.reduceNeg, Nat.reduceLT, Nat.reduceSub, Nat.reduceMul, Nat.reduceAdd, Nat.reduceLeDiff, reduceIte, reduceCtorEq, Nat.reduceEqDiff]
      repeat' (first
        | (refine ifP_pos (by first | assumption | omega) ?_ <;> try simp (maxSteps := 4000000) (disch := first | assumption | omega | (simp only [push_next, put_next, empty_next, List.length_cons, List.length_nil] <;> omega) | exact _root_.id rfl | exact _root_.id (fun _ => rfl) | fail) only [↓pre, post, Int.reduceEq, Int.reduceLT, Int.reduceLE, Int.reduceAdd, Int.reduceSub, Int.reduceMul, Int.reduceNeg, Nat.reduceLT, Nat.reduceSub, Nat.reduceMul, Nat.reduceAdd, Nat.reduceLeDiff, reduceIte, reduceCtorEq, Nat.reduceEqDiff])
        | (refine ifP_neg (by first | assumption | omega) ?_ <;> try simp (maxSteps := 4000000) (disch := first | assumption | omega | (simp only [push_next, put_next, empty_next, List.length_cons, List.length_nil] <;> omega) | exact _root_.id rfl | exact _root_.id (fun _ => rfl) | fail) only [↓pre, post, Int.reduceEq, Int.reduceLT, Int.reduceLE, Int.reduceAdd, Int.reduceSub, Int.reduceMul, Int.reduceNeg, Nat.reduceLT, Nat.reduceSub, Nat.reduceMul, Nat.reduceAdd, Nat.reduceLeDiff, reduceIte, reduceCtorEq, Nat.reduceEqDiff])
        | (refine ifP_intro (fun hyp => ?_) (fun hyp => ?_) <;> first | simp (maxSteps := 4000000) (disch := first | assumption | omega | (simp only [push_next, put_next, empty_next, List.length_cons, List.length_nil] <;> omega) | exact _root_.id rfl | exact _root_.id (fun _ => rfl) | fail) only [↓pre, post, Int.reduceEq, Int.reduceLT, Int.reduceLE, Int.reduceAdd, Int.reduceSub, Int.reduceMul, Int.reduceNeg, Nat.reduceLT, Nat.reduceSub, Nat.reduceMul, Nat.reduceAdd, Nat.reduceLeDiff, reduceIte, reduceCtorEq, Nat.reduceEqDiff, eq_false hyp] | simp (maxSteps := 4000000) (disch := first | assumption | omega | (simp only [push_next, put_next, empty_next, List.length_cons, List.length_nil] <;> omega) | exact _root_.id rfl | exact _root_.id (fun _ => rfl) | fail) only [↓pre, post, Int.reduceEq, Int.reduceLT, Int.reduceLE, Int.reduceAdd, Int.reduceSub, Int.reduceMul, Int.reduceNeg, Nat.reduceLT, Nat.reduceSub, Nat.reduceMul, Nat.reduceAdd, Nat.reduceLeDiff, reduceIte, reduceCtorEq, Nat.reduceEqDiff, eq_true hyp] | skip))
      exact lp_n ⟨l.length - (i + 1), by omega, i + 1, tk', _, _, _, rfl, by omega, g', by rw [n']; simp, by rw [htk _ (by omega) (by rw [hval (by omega), if_neg hyp])]; rfl⟩
    · refine ⟨tk, ?_, hg, fun h => by have := hn.1 h; omega⟩
      rw [List.take_of_length_le (by omega)]
  · rw [if_neg hr]
    refine PV_wp (fn := c18) rfl ?_
    dsimp only [c18]
    try simp (maxSteps := 4000000) (disch := first | assumption | omega | (simp only [push_next, put_next, empty_next, List.length_cons, List.length_nil] <;> omega) | exact _root_.id rfl | exact _root_.id (fun _ => rfl) | fail) only [↓pre, post, Int.reduceEq, Int.reduceLT, Int.reduceLE, Int.reduceAdd, Int.reduceSub, Int.reduceMul, Int.reduceNeg, Nat.reduceLT, Nat.reduceSub, Nat.reduceMul, Nat.reduceAdd, Nat.reduceLeDiff, reduceIte, reduceCtorEq, Nat.reduceEqDiff, refReady_v, eq_false hr]
    repeat' (first
      | (refine ifP_pos (by first | assumption | omega) ?_ <;> try simp (maxSteps := 4000000) (disch := first | assumption | omega | (simp only [push_next, put_next, empty_next, List.length_cons, List.length_nil] <;> omega) | exact _root_.id rfl | exact _root_.id (fun _ => rfl) | fail) only [↓pre, post, Int.reduceEq, Int.reduceLT, Int.reduceLE, Int.reduceAdd, Int.reduceSub, Int.reduceMul, Int.reduceNeg, Nat.reduceLT, Nat.reduceSub, Nat.reduceMul, Nat.reduceAdd, Nat.reduceLeDiff, reduceIte, reduceCtorEq, Nat.reduceEqDiff, refReady_v, eq_false hr])
      | (refine ifP_neg (by first | assumption | omega) ?_ <;> try simp (maxSteps := 4000000) (disch := first | assumption | omega | (simp only [push_next, put_next, empty_next, List.length_cons, List.length_nil] <;> omega) | exact _root_.id rfl | exact _root_.id (fun _ => rfl) | fail) only [↓pre, post, Int.reduceEq, Int.reduceLT, Int.reduceLE, Int.reduceAdd, Int.reduceSub, Int.reduceMul, Int.reduceNeg, Nat.reduceLT, Nat.reduceSub, Nat.reduceMul, Nat.reduceAdd, Nat.reduceLeDiff, reduceIte, reduceCtorEq, Nat.reduceEqDiff, refReady_v, eq_false hr])
      | (refine ifP_intro (fun hyp => ?_) (fun hyp => ?_) <;> first | simp (maxSteps := 4000000) (disch := first | assumption | omega | (simp only [push_next, put_next, empty_next, List.length_cons, List.length_nil] <;> omega) | exact _root_.id rfl | exact _root_.id (fun _ => rfl) | fail) only [↓pre, post, Int.reduceEq, Int.reduceLT, Int.reduceLE, Int.reduceAdd, Int.reduceSub, Int.reduceMul, Int.reduceNeg, Nat.reduceLT, Nat.reduceSub, Nat.reduceMul, Nat.reduceAdd, Nat.reduceLeDiff, reduceIte, reduceCtorEq, Nat.reduceEqDiff, refReady_v, eq_false hr, eq_false hyp] | simp (maxSteps := 4000000) (disch := first | assumption | omega | (simp only [push_next, put_next, empty_next, List.length_cons, List.length_nil] <;> omega) | exact _root_.id rfl | exact _root_.id (fun _ => rfl) | fail) only [↓pre, post, Int.reduceEq, Int.reduceLT, Int.reduceLE, Int.reduceAdd, Int.reduceSub, Int.reduceMul, Int.reduceNeg, Nat.reduceLT, Nat.reduceSub, Nat.reduceMul, Nat.reduceAdd, Nat.reduceLeDiff, reduceIte, reduceCtorEq, Nat.reduceEqDiff, refReady_v, eq_false hr, eq_true hyp] | skip))

theorem refBreak_v {l : List Item} {t : Tok} {w : Int} (ht : Pt t) (hl : l.length < 100000) : ∃ tk, Pt tk ∧ PV F 14 [.sl (items l) t, .int .i64 w] = some (if widthOk w ∧ valid l then (if (nth (plansS l w) (l.length - 1)).is = true then .tup [.sl ((nth (plansS l w) (l.length - 1)).lines.map Ln.toA) tk, .int .i64 (nth (plansS l w) (l.length - 1)).cost, .int .i64 0] else .tup [.sl [] .nil, .int .i64 0, .int .i64 18]) else .tup [.sl [] .nil, .int .i64 0, .int .i64 1]) := by
  by_cases hr : widthOk w ∧ valid l
  · have hl1 := hr.2.1
    have hl2 := hr.2.2.1
    obtain ⟨ps, hp, her, hb⟩ := plans_v (w := w) ht hr.2 hr.1
    have hpl : ps.length = l.length := by rw [← plansS_len l w, ← her, List.length_map]
    have hq : nth (plansS l w) (l.length - 1) = (nth ps (l.length - 1)).er := by rw [← her, nth_map _ _ (by omega)]
    have htok : Pt (nth ps (l.length - 1)).strip.tok := by
      simp only [Pl.strip]
      split
      · exact .inr rfl
      · exact .inl rfl
    refine ⟨(nth ps (l.length - 1)).strip.tok, htok, ?_⟩
    rw [if_pos hr, hq]
    generalize hQ : nth ps (l.length - 1) = Q at htok
    have hst : Pl.toA Q.strip = .agg [.sl (Q.lines.map Ln.toA) Q.strip.tok, .int .i64 Q.cost, .bool Q.is] := rfl
    refine PV_wp (fn := c14) rfl ?_
    dsimp only [c14]
    try simp (maxSteps := 4000000) (disch := first | assumption | omega | (simp only [push_next, put_next, empty_next, List.length_cons, List.length_nil] <;> omega) | exact _root_.id rfl | exact _root_.id (fun _ => rfl) | fail) only [↓pre, post, Int.reduceEq, Int.reduceLT, Int.reduceLE, Int.reduceAdd, Int.reduceSub, Int.reduceMul, Int.reduceNeg, Nat.reduceLT, Nat.reduceSub, Nat.reduceMul, Nat.reduceAdd, Nat.reduceLeDiff, reduceIte, reduceCtorEq, Nat.reduceEqDiff, refReady_v, eq_true hr, hp, hpl, hQ, hst]
    repeat' (first
      | (refine ifP_pos (by first | assumption | omega) ?_ <;> try simp (maxSteps := 4000000) (disch := first | assumption | omega | (simp only [push_next, put_next, empty_next, List.length_cons, List.length_nil] <;> omega) | exact _root_.id rfl | exact _root_.id (fun _ => rfl) | fail) only [↓pre, post, Int.reduceEq, Int.reduceLT, Int.reduceLE, Int.reduceAdd, Int.reduceSub, Int.reduceMul, Int.reduceNeg, Nat.reduceLT, Nat.reduceSub, Nat.reduceMul, Nat.reduceAdd, Nat.reduceLeDiff, reduceIte, reduceCtorEq, Nat.reduceEqDiff, refReady_v, eq_true hr, hp, hpl, hQ, hst])
      | (refine ifP_neg (by first | assumption | omega) ?_ <;> try simp (maxSteps := 4000000) (disch := first | assumption | omega | (simp only [push_next, put_next, empty_next, List.length_cons, List.length_nil] <;> omega) | exact _root_.id rfl | exact _root_.id (fun _ => rfl) | fail) only [↓pre, post, Int.reduceEq, Int.reduceLT, Int.reduceLE, Int.reduceAdd, Int.reduceSub, Int.reduceMul, Int.reduceNeg, Nat.reduceLT, Nat.reduceSub, Nat.reduceMul, Nat.reduceAdd, Nat.reduceLeDiff, reduceIte, reduceCtorEq, Nat.reduceEqDiff, refReady_v, eq_true hr, hp, hpl, hQ, hst])
      | (refine ifP_intro (fun hyp => ?_) (fun hyp => ?_) <;> first | simp (maxSteps := 4000000) (disch := first | assumption | omega | (simp only [push_next, put_next, empty_next, List.length_cons, List.length_nil] <;> omega) | exact _root_.id rfl | exact _root_.id (fun _ => rfl) | fail) only [↓pre, post, Int.reduceEq, Int.reduceLT, Int.reduceLE, Int.reduceAdd, Int.reduceSub, Int.reduceMul, Int.reduceNeg, Nat.reduceLT, Nat.reduceSub, Nat.reduceMul, Nat.reduceAdd, Nat.reduceLeDiff, reduceIte, reduceCtorEq, Nat.reduceEqDiff, refReady_v, eq_true hr, hp, hpl, hQ, hst, eq_false hyp] | simp (maxSteps := 4000000) (disch := first | assumption | omega | (simp only [push_next, put_next, empty_next, List.length_cons, List.length_nil] <;> omega) | exact _root_.id rfl | exact _root_.id (fun _ => rfl) | fail) only [↓pre, post, Int.reduceEq, Int.reduceLT, Int.reduceLE, Int.reduceAdd, Int.reduceSub, Int.reduceMul, Int.reduceNeg, Nat.reduceLT, Nat.reduceSub, Nat.reduceMul, Nat.reduceAdd, Nat.reduceLeDiff, reduceIte, reduceCtorEq, Nat.reduceEqDiff, refReady_v, eq_true hr, hp, hpl, hQ, hst, eq_true hyp] | skip))
    · rw [if_pos (by simpa [Pl.er] using hyp)]; rfl
    · rw [if_neg (by simpa [Pl.er] using hyp)]
  · refine ⟨.none, .inl rfl, ?_⟩
    rw [if_neg hr]
    refine PV_wp (fn := c14) rfl ?_
    dsimp only [c14]
    try simp (maxSteps := 4000000) (disch := first | assumption | omega | (simp only [push_next, put_next, empty_next, List.length_cons, List.length_nil] <;> omega) | exact _root_.id rfl | exact _root_.id (fun _ => rfl) | fail) only [↓pre, post, Int.reduceEq, Int.reduceLT, Int.reduceLE, Int.reduceAdd, Int.reduceSub, Int.reduceMul, Int.reduceNeg, Nat.reduceLT, Nat.reduceSub, Nat.reduceMul, Nat.reduceAdd, Nat.reduceLeDiff, reduceIte, reduceCtorEq, Nat.reduceEqDiff, refReady_v, eq_false hr]
    repeat' (first
      | (refine ifP_pos (by first | assumption | omega) ?_ <;> try simp (maxSteps := 4000000) (disch := first | assumption | omega | (simp only [push_next, put_next, empty_next, List.length_cons, List.length_nil] <;> omega) | exact _root_.id rfl | exact _root_.id (fun _ => rfl) | fail) only [↓pre, post, Int.reduceEq, Int.reduceLT, Int.reduceLE, Int.reduceAdd, Int.reduceSub, Int.reduceMul, Int.reduceNeg, Nat.reduceLT, Nat.reduceSub, Nat.reduceMul, Nat.reduceAdd, Nat.reduceLeDiff, reduceIte, reduceCtorEq, Nat.reduceEqDiff, refReady_v, eq_false hr])
      | (refine ifP_neg (by first | assumption | omega) ?_ <;> try simp (maxSteps := 4000000) (disch := first | assumption | omega | (simp only [push_next, put_next, empty_next, List.length_cons, List.length_nil] <;> omega) | exact _root_.id rfl | exact _root_.id (fun _ => rfl) | fail) only [↓pre, post, Int.reduceEq, Int.reduceLT, Int.reduceLE, Int.reduceAdd, Int.reduceSub, Int.reduceMul, Int.reduceNeg, Nat.reduceLT, Nat.reduceSub, Nat.reduceMul, Nat.reduceAdd, Nat.reduceLeDiff, reduceIte, reduceCtorEq, Nat.reduceEqDiff, refReady_v, eq_false hr])
      | (refine ifP_intro (fun hyp => ?_) (fun hyp => ?_) <;> first | simp (maxSteps := 4000000) (disch := first | assumption | omega | (simp only [push_next, put_next, empty_next, List.length_cons, List.length_nil] <;> omega) | exact _root_.id rfl | exact _root_.id (fun _ => rfl) | fail) only [↓pre, post, Int.reduceEq, Int.reduceLT, Int.reduceLE, Int.reduceAdd, Int.reduceSub, Int.reduceMul, Int.reduceNeg, Nat.reduceLT, Nat.reduceSub, Nat.reduceMul, Nat.reduceAdd, Nat.reduceLeDiff, reduceIte, reduceCtorEq, Nat.reduceEqDiff, refReady_v, eq_false hr, eq_false hyp] | simp (maxSteps := 4000000) (disch := first | assumption | omega | (simp only [push_next, put_next, empty_next, List.length_cons, List.length_nil] <;> omega) | exact _root_.id rfl | exact _root_.id (fun _ => rfl) | fail) only [↓pre, post, Int.reduceEq, Int.reduceLT, Int.reduceLE, Int.reduceAdd, Int.reduceSub, Int.reduceMul, Int.reduceNeg, Nat.reduceLT, Nat.reduceSub, Nat.reduceMul, Nat.reduceAdd, Nat.reduceLeDiff, reduceIte, reduceCtorEq, Nat.reduceEqDiff, refReady_v, eq_false hr, eq_true hyp] | skip))

/-- A list of lines with one thing changed: some list. -/
theorem turned_v {ls : List Ln} {t : Tok} {a h b : Int} (ht : Pt t) (h1 : 1 ≤ ls.length) (h2 : ls.length ≤ 1000) (ha : i64 a) (hh : i64 h) (hb : i64 b) (hls : ∀ x ∈ ls, -1000000 ≤ x.a ∧ x.a ≤ 1000000 ∧ -1000000 ≤ x.b ∧ x.b ≤ 1000000 ∧ -100000000 ≤ x.n ∧ x.n ≤ 100000000) :
    ∃ lb : List Ln, PV F 21 [.sl (ls.map Ln.toA) t, .int .i64 a, .int .i64 h, .int .i64 b] = some (.sl (lb.map Ln.toA) .none) ∧ lb.length ≤ 1001 ∧ ∀ x ∈ lb, i64 x.b := by
  suffices hsf : CV F 21 [.sl (ls.map Ln.toA) t, .int .i64 a, .int .i64 h, .int .i64 b] Heap.empty (fun r h' => ∃ (lb : List Ln) (id n : Nat), r = .ref id 0 n 3 ∧ h'.get id = some (.row true 3 true (flat (lb.map Ln.toA))) ∧ n ≤ lb.length ∧ lb.length ≤ 1001 ∧ ∀ x ∈ lb, i64 x.b) by
    obtain ⟨r, h', c, lb, id, n, rfl, e1, e2, e3, e4⟩ := hsf
    refine ⟨lb.take n, PV_of c ?_, by simp; omega, fun x hx => e4 x (List.mem_of_mem_take hx)⟩
    rw [pu_ref, readRef_flat (sz := 3) (f := Ln.toA) (g := Ln.toA) (fun _ => rfl) (fun _ => rfl) true (fun _ => rfl) (fun _ => rfl) lb e1 e2]; rfl
  refine CV_wp (fn := c21) rfl ?_
  have A1 := append_arr_nil (f := Ln.toA) (ty := 41) (bytes := 24) (ag := true) (h := Heap.empty) (t := t) ls (sz := 3) (fun _ => rfl) h1 (by omega) (by omega) (by omega) (by omega)
  have B1 := around_bound a (m := ls.length) (by omega)
  have B2 := around_bound h (m := 6) (by omega)
  have B3 := around_bound b (m := 5) (by omega)
  have B4 := around_bound b (m := 3) (by omega)
  have hfl := flatm_len (f := Ln.toA) (sz := 3) (fun _ => rfl) ls
  generalize hk : aroundS a ls.length = k at B1
  have hkl : k.toNat < ls.length := by omega
  have hx := hls _ (nth_mem hkl)
  have D0 : List.take 1 (List.drop (k.toNat * 3) (flat (ls.map Ln.toA))) = [.int .i64 (nth ls k.toNat).a] := by
    have := flatm_get (f := Ln.toA) (sz := 3) (fun _ => rfl) ls (n := k.toNat) (k := 0) (m := 1) hkl (by omega)
    rw [Nat.add_zero] at this; rw [this]; rfl
  have D1 : List.take 1 (List.drop (k.toNat * 3 + 1) (flat (ls.map Ln.toA))) = [.int .i64 (nth ls k.toNat).b] := by
    rw [flatm_get (f := Ln.toA) (sz := 3) (fun _ => rfl) ls (n := k.toNat) (k := 1) (m := 1) hkl (by omega)]; rfl
  have D2 : List.take 1 (List.drop (k.toNat * 3 + 2) (flat (ls.map Ln.toA))) = [.int .i64 (nth ls k.toNat).n] := by
    rw [flatm_get (f := Ln.toA) (sz := 3) (fun _ => rfl) ls (n := k.toNat) (k := 2) (m := 1) hkl (by omega)]; rfl
  have D3 : List.take 3 (List.drop (k.toNat * 3) (flat (ls.map Ln.toA))) = [.int .i64 (nth ls k.toNat).a, .int .i64 (nth ls k.toNat).b, .int .i64 (nth ls k.toNat).n] := by
    have := flatm_get (f := Ln.toA) (sz := 3) (fun _ => rfl) ls (n := k.toNat) (k := 0) (m := 3) hkl (by omega)
    rw [Nat.add_zero] at this; rw [this]; rfl
  have hall : ∀ x ∈ ls, i64 x.b := fun x hx => by have := hls x hx; unfold i64; omega
  have fin2 : ∀ (off : Nat) (c : AVal) (x' : Ln) (h' : Heap), off < 3 → x'.toA.cells = (nth ls k.toNat).toA.cells.set off c → i64 x'.b → h'.get 0 = some (.row true 3 true ((flat (ls.map Ln.toA)).set (k.toNat * 3 + off) c)) →
      ∃ (lb : List Ln) (id n : Nat), AVal.ref 0 0 ls.length 3 = .ref id 0 n 3 ∧ h'.get id = some (.row true 3 true (flat (lb.map Ln.toA))) ∧ n ≤ lb.length ∧ lb.length ≤ 1001 ∧ ∀ x ∈ lb, i64 x.b := fun off c x' h' ho hx ht hr => by
    refine ⟨ls.set k.toNat x', 0, ls.length, rfl, by rw [hr, set_flat (f := Ln.toA) (sz := 3) (fun _ => rfl) ls x' hkl ho hx], by simp, by simp; omega, fun y hy => ?_⟩
    rcases List.mem_or_eq_of_mem_set hy with hy | rfl
    · exact hall y hy
    · exact ht
  have A2 := append_arr_ref (f := Ln.toA) (sz := 3) (ty := 41) (bytes := 24) (ag := true) (n := ls.length) (id := 0) (j := 1) (ag' := true) (mu := true) (s2 := 3) (a2 := true) (h := (Heap.empty.push (.row true 3 true (flat (ls.map Ln.toA)))).push (.row true 3 true (Ln.toA (nth ls k.toNat)).cells)) ls (nth ls k.toNat) (fun _ => rfl) rfl rfl (by omega) (by omega) (by omega) (by omega) rfl
  have hxb : i64 (nth ls k.toNat).b := by unfold i64; omega
  have hbb := hb
  obtain ⟨hb1, hb2⟩ := hb
  have e0 : (Ln.toA (nth ls k.toNat)).cells = [.int .i64 (nth ls k.toNat).a, .int .i64 (nth ls k.toNat).b, .int .i64 (nth ls k.toNat).n] := rfl
  rw [e0] at A2
  dsimp only [c21]
  try simp (maxSteps := 4000000) (disch := first | assumption | omega | (simp only [push_next, put_next, empty_next, List.length_cons, List.length_nil] <;> omega) | exact _root_.id rfl | exact _root_.id (fun _ => rfl) | fail) only [↓pre, post, Int.reduceEq, Int.reduceLT, Int.reduceLE, Int.reduceAdd, Int.reduceSub, Int.reduceMul, Int.reduceNeg, Nat.reduceLT, Nat.reduceSub, Nat.reduceMul, Nat.reduceAdd, Nat.reduceLeDiff, reduceIte, reduceCtorEq, Nat.reduceEqDiff, A1, around_v, hfl, hk, D0, D1, D2, D3, A2]
  repeat' (first
    | (refine ifP_pos (by first | assumption | omega) ?_ <;> try simp (maxSteps := 4000000) (disch := first | assumption | omega | (simp only [push_next, put_next, empty_next, List.length_cons, List.length_nil] <;> omega) | exact _root_.id rfl | exact _root_.id (fun _ => rfl) | fail) only [↓pre, post, Int.reduceEq, Int.reduceLT, Int.reduceLE, Int.reduceAdd, Int.reduceSub, Int.reduceMul, Int.reduceNeg, Nat.reduceLT, Nat.reduceSub, Nat.reduceMul, Nat.reduceAdd, Nat.reduceLeDiff, reduceIte, reduceCtorEq, Nat.reduceEqDiff, A1, around_v, hfl, hk, D0, D1, D2, D3, A2])
    | (refine ifP_neg (by first | assumption | omega) ?_ <;> try simp (maxSteps := 4000000) (disch := first | assumption | omega | (simp only [push_next, put_next, empty_next, List.length_cons, List.length_nil] <;> omega) | exact _root_.id rfl | exact _root_.id (fun _ => rfl) | fail) only [↓pre, post, Int.reduceEq, Int.reduceLT, Int.reduceLE, Int.reduceAdd, Int.reduceSub, Int.reduceMul, Int.reduceNeg, Nat.reduceLT, Nat.reduceSub, Nat.reduceMul, Nat.reduceAdd, Nat.reduceLeDiff, reduceIte, reduceCtorEq, Nat.reduceEqDiff, A1, around_v, hfl, hk, D0, D1, D2, D3, A2])
    | (refine ifP_intro (fun hyp => ?_) (fun hyp => ?_) <;> first | simp (maxSteps := 4000000) (disch := first | assumption | omega | (simp only [push_next, put_next, empty_next, List.length_cons, List.length_nil] <;> omega) | exact _root_.id rfl | exact _root_.id (fun _ => rfl) | fail) only [↓pre, post, Int.reduceEq, Int.reduceLT, Int.reduceLE, Int.reduceAdd, Int.reduceSub, Int.reduceMul, Int.reduceNeg, Nat.reduceLT, Nat.reduceSub, Nat.reduceMul, Nat.reduceAdd, Nat.reduceLeDiff, reduceIte, reduceCtorEq, Nat.reduceEqDiff, A1, around_v, hfl, hk, D0, D1, D2, D3, A2, eq_false hyp] | simp (maxSteps := 4000000) (disch := first | assumption | omega | (simp only [push_next, put_next, empty_next, List.length_cons, List.length_nil] <;> omega) | exact _root_.id rfl | exact _root_.id (fun _ => rfl) | fail) only [↓pre, post, Int.reduceEq, Int.reduceLT, Int.reduceLE, Int.reduceAdd, Int.reduceSub, Int.reduceMul, Int.reduceNeg, Nat.reduceLT, Nat.reduceSub, Nat.reduceMul, Nat.reduceAdd, Nat.reduceLeDiff, reduceIte, reduceCtorEq, Nat.reduceEqDiff, A1, around_v, hfl, hk, D0, D1, D2, D3, A2, eq_true hyp] | skip))
  · exact fin2 0 _ { nth ls k.toNat with a := b } _ (by omega) rfl hxb rfl
  · exact fin2 1 _ { nth ls k.toNat with b := (nth ls k.toNat).b + aroundS b 5 - 2 } _ (by omega) rfl (by unfold i64; simp only; omega) rfl
  · exact fin2 2 _ { nth ls k.toNat with n := (nth ls k.toNat).n + aroundS b 3 - 1 } _ (by omega) rfl hxb rfl
  · exact ⟨ls, 0, _, rfl, rfl, by omega, by omega, hall⟩
  · refine ⟨ls ++ [nth ls k.toNat], 2, ls.length + 1, rfl, get_push_eq rfl, by simp, by simp; omega, fun y hy => ?_⟩
    rw [List.mem_append] at hy
    rcases hy with hy | hy
    · exact hall y hy
    · simp only [List.mem_singleton] at hy; subst hy; exact hxb
  · exact fin2 0 _ { nth ls k.toNat with a := (nth ls k.toNat).a + aroundS b 3 - 1 } _ (by omega) rfl hxb rfl

end Go.Proofs.Ytcammfdljiingaa
