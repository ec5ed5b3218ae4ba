/-
  The law of texts, on the abstract machine.
-/
import Derived.Test.YtcammfdljiingaaLbF
import Derived.Test.YtcammfdljiingaaLbLives
set_option linter.unusedSimpArgs false
set_option linter.unusedVariables false
set_option maxHeartbeats 4000000
namespace Go.Proofs.Ytcammfdljiingaa
open Go Go.Abs

theorem lives_v : PV F 19 [] = some (.bool true) := by
  obtain ⟨h', e⟩ := isTrue_some lives_run
  exact PV_of (gives_mk e) rfl

structure Ln where
  a : Int
  b : Int
  n : Int
  deriving Inhabited, DecidableEq
def Ln.toA (x : Ln) : AVal := .agg [.int .i64 x.a, .int .i64 x.b, .int .i64 x.n]

theorem texts_run {l : List Int} {tk : Tok} {a b c d e : Int} (htk : Pt tk) (hl : ∀ x ∈ l, i64 x) (ha : i64 a) (hb : i64 b) (hc : i64 c) (hd : i64 d) (he : i64 e) :
    ∃ h', Gives F 5 [.sl (l.map (.int .i64)) tk, .int .i64 a, .int .i64 b, .int .i64 c, .int .i64 d, .int .i64 e] Heap.empty (.bool true) h' := by
  suffices hs : CV F 5 [.sl (l.map (.int .i64)) tk, .int .i64 a, .int .i64 b, .int .i64 c, .int .i64 d, .int .i64 e] Heap.empty (fun r _ => r = .bool true) by
    obtain ⟨r, h', g, rfl⟩ := hs; exact ⟨h', g⟩
  obtain ⟨li, e1, v1, s1, n1⟩ := items_v (t := tk) hl htk
  obtain ⟨lb, e2, s2, n2⟩ := spoilt_v (t := .none) (a := a) (h := b) (b := c) (.inl rfl) s1 v1.1 n1 ha hb hc
  have B1 := around_bound d (m := (lb.length : Int) + 1) (by omega)
  have B2 := around_bound e (m := (lb.length : Int) + 2) (by omega)
  refine CV_wp (fn := c5) rfl ?_
  dsimp only [c5]
  try simp (maxSteps := 4000000) (disch := first | assumption | omega | (simp only [push_next, put_next, empty_next, List.length_cons, List.length_nil] <;> omega) | exact _root_.id rfl | exact _root_.id (fun _ => rfl) | fail) only [↓pre, post, Int.reduceEq, Int.reduceLT, Int.reduceLE, Int.reduceAdd, Int.reduceSub, Int.reduceMul, Int.reduceNeg, Nat.reduceLT, Nat.reduceSub, Nat.reduceMul, Nat.reduceAdd, Nat.reduceLeDiff, reduceIte, reduceCtorEq, Nat.reduceEqDiff, e1, e2, around_v]
  repeat' (first
    | (refine ifP_pos (by first | assumption | omega) ?_ <;> try simp (maxSteps := 4000000) (disch := first | assumption | omega | (simp only [push_next, put_next, empty_next, List.length_cons, List.length_nil] <;> omega) | exact _root_.id rfl | exact _root_.id (fun _ => rfl) | fail) only [↓pre, post, Int.reduceEq, Int.reduceLT, Int.reduceLE, Int.reduceAdd, Int.reduceSub, Int.reduceMul, Int.reduceNeg, Nat.reduceLT, Nat.reduceSub, Nat.reduceMul, Nat.reduceAdd, Nat.reduceLeDiff, reduceIte, reduceCtorEq, Nat.reduceEqDiff, e1, e2, around_v])
    | (refine ifP_neg (by first | assumption | omega) ?_ <;> try simp (maxSteps := 4000000) (disch := first | assumption | omega | (simp only [push_next, put_next, empty_next, List.length_cons, List.length_nil] <;> omega) | exact _root_.id rfl | exact _root_.id (fun _ => rfl) | fail) only [↓pre, post, Int.reduceEq, Int.reduceLT, Int.reduceLE, Int.reduceAdd, Int.reduceSub, Int.reduceMul, Int.reduceNeg, Nat.reduceLT, Nat.reduceSub, Nat.reduceMul, Nat.reduceAdd, Nat.reduceLeDiff, reduceIte, reduceCtorEq, Nat.reduceEqDiff, e1, e2, around_v])
    | (refine ifP_intro (fun hyp => ?_) (fun hyp => ?_) <;> first | simp (maxSteps := 4000000) (disch := first | assumption | omega | (simp only [push_next, put_next, empty_next, List.length_cons, List.length_nil] <;> omega) | exact _root_.id rfl | exact _root_.id (fun _ => rfl) | fail) only [↓pre, post, Int.reduceEq, Int.reduceLT, Int.reduceLE, Int.reduceAdd, Int.reduceSub, Int.reduceMul, Int.reduceNeg, Nat.reduceLT, Nat.reduceSub, Nat.reduceMul, Nat.reduceAdd, Nat.reduceLeDiff, reduceIte, reduceCtorEq, Nat.reduceEqDiff, e1, e2, around_v, eq_false hyp] | simp (maxSteps := 4000000) (disch := first | assumption | omega | (simp only [push_next, put_next, empty_next, List.length_cons, List.length_nil] <;> omega) | exact _root_.id rfl | exact _root_.id (fun _ => rfl) | fail) only [↓pre, post, Int.reduceEq, Int.reduceLT, Int.reduceLE, Int.reduceAdd, Int.reduceSub, Int.reduceMul, Int.reduceNeg, Nat.reduceLT, Nat.reduceSub, Nat.reduceMul, Nat.reduceAdd, Nat.reduceLeDiff, reduceIte, reduceCtorEq, Nat.reduceEqDiff, e1, e2, around_v, eq_true hyp] | skip))
  refine w_loop (fun m vs h0 => ∃ (i : Nat) (x10 x11 : AVal), m = 5 - i ∧ i ≤ 5 ∧
    vs = [.sl (l.map (.int .i64)) tk, .int .i64 a, .int .i64 b, .int .i64 c, .int .i64 d, .int .i64 e, .bool false, .sl (items lb) .none,
      .sl ([⟨aroundS d (lb.length + 1), aroundS e (lb.length + 2), 0⟩, ⟨0, lb.length, 0⟩, ⟨d, e, 0⟩, ⟨-1, 1, 0⟩, ⟨0, 0, 0⟩].map Ln.toA) .none, .int .i64 i, x10, x11]) 5
    ⟨0, _, _, rfl, by omega, rfl⟩ ?_
  rintro m vs h0 ⟨i, x10, x11, rfl, hi, rfl⟩
  generalize hL : ([⟨aroundS d (lb.length + 1), aroundS e (lb.length + 2), 0⟩, ⟨0, lb.length, 0⟩, ⟨d, e, 0⟩, ⟨-1, 1, 0⟩, ⟨0, 0, 0⟩] : List Ln) = L
  have hlen : L.length = 5 := by rw [← hL]; rfl
  have hi64 : i < L.length → i64 (nth L i).b := fun hlt => by
    have hall : ∀ x ∈ L, i64 x.b := by
      intro x hx
      unfold i64 at *
      rw [← hL] at hx
      simp only [List.mem_cons, List.not_mem_nil, or_false] at hx
      rcases hx with rfl | rfl | rfl | rfl | rfl <;> simp <;> omega
    exact hall _ (nth_mem hlt)
  have T1 : i < L.length → PV F 24 [.sl (items lb) .none, .agg [.int .i64 (nth L i).a, .int .i64 (nth L i).b, .int .i64 (nth L i).n]] = some (.str (textS lb (nth L i).a (nth L i).b)) := fun h => refText_v s2 n2 (hi64 h)
  have T2 : i < L.length → PV F 23 [.sl (items lb) .none, .agg [.int .i64 (nth L i).a, .int .i64 (nth L i).b, .int .i64 (nth L i).n]] = some (.str (textS lb (nth L i).a (nth L i).b)) := fun h => text_v s2 n2 (hi64 h)
  try simp (maxSteps := 4000000) (disch := first | assumption | omega | (simp only [push_next, put_next, empty_next, List.length_cons, List.length_nil] <;> omega) | exact _root_.id rfl | exact _root_.id (fun _ => rfl) | fail) only [↓pre, post, Int.reduceEq, Int.reduceLT, Int.reduceLE, Int.reduceAdd, Int.reduceSub, Int.reduceMul, Int.reduceNeg, Nat.reduceLT, Nat.reduceSub, Nat.reduceMul, Nat.reduceAdd, Nat.reduceLeDiff, reduceIte, reduceCtorEq, Nat.reduceEqDiff, Ln.toA, hlen, T1, T2, lives_v]
  repeat' (first
    | (refine ifP_pos (by first | assumption | omega) ?_ <;> try simp (maxSteps := 4000000) (disch := first | assumption | omega | (simp only [push_next, put_next, empty_next, List.length_cons, List.length_nil] <;> omega) | exact _root_.id rfl | exact _root_.id (fun _ => rfl) | fail) only [↓pre, post, Int.reduceEq, Int.reduceLT, Int.reduceLE, Int.reduceAdd, Int.reduceSub, Int.reduceMul, Int.reduceNeg, Nat.reduceLT, Nat.reduceSub, Nat.reduceMul, Nat.reduceAdd, Nat.reduceLeDiff, reduceIte, reduceCtorEq, Nat.reduceEqDiff, Ln.toA, hlen, T1, T2, lives_v])
    | (refine ifP_neg (by first | assumption | omega) ?_ <;> try simp (maxSteps := 4000000) (disch := first | assumption | omega | (simp only [push_next, put_next, empty_next, List.length_cons, List.length_nil] <;> omega) | exact _root_.id rfl | exact _root_.id (fun _ => rfl) | fail) only [↓pre, post, Int.reduceEq, Int.reduceLT, Int.reduceLE, Int.reduceAdd, Int.reduceSub, Int.reduceMul, Int.reduceNeg, Nat.reduceLT, Nat.reduceSub, Nat.reduceMul, Nat.reduceAdd, Nat.reduceLeDiff, reduceIte, reduceCtorEq, Nat.reduceEqDiff, Ln.toA, hlen, T1, T2, lives_v])
    | (refine ifP_intro (fun hyp => ?_) (fun hyp => ?_) <;> first | simp (maxSteps := 4000000) (disch := first | assumption | omega | (simp only [push_next, put_next, empty_next, List.length_cons, List.length_nil] <;> omega) | exact _root_.id rfl | exact _root_.id (fun _ => rfl) | fail) only [↓pre, post, Int.reduceEq, Int.reduceLT, Int.reduceLE, Int.reduceAdd, Int.reduceSub, Int.reduceMul, Int.reduceNeg, Nat.reduceLT, Nat.reduceSub, Nat.reduceMul, Nat.reduceAdd, Nat.reduceLeDiff, reduceIte, reduceCtorEq, Nat.reduceEqDiff, Ln.toA, hlen, T1, T2, lives_v, eq_false hyp] | simp (maxSteps := 4000000) (disch := first | assumption | omega | (simp only [push_next, put_next, empty_next, List.length_cons, List.length_nil] <;> omega) | exact _root_.id rfl | exact _root_.id (fun _ => rfl) | fail) only [↓pre, post, Int.reduceEq, Int.reduceLT, Int.reduceLE, Int.reduceAdd, Int.reduceSub, Int.reduceMul, Int.reduceNeg, Nat.reduceLT, Nat.reduceSub, Nat.reduceMul, Nat.reduceAdd, Nat.reduceLeDiff, reduceIte, reduceCtorEq, Nat.reduceEqDiff, Ln.toA, hlen, T1, T2, lives_v, eq_true hyp] | skip))
  exact lp_n ⟨5 - (i + 1), by omega, i + 1, _, _, rfl, by omega, rfl⟩

end Go.Proofs.Ytcammfdljiingaa
