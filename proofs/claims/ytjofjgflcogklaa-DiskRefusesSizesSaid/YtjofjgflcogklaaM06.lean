/-
  Merged from DkRef5 DkRef6 AbsLaw AbsShape AbsRow DkGlue DkPure: The reference's disk: Image, Clone, New.
-/
import Derived.Test.YtjofjgflcogklaaM05
import Derived.Test.YtjofjgflcogklaaM02
import Derived.Test.YtjofjgflcogklaaM03
import Derived.ProofKit
import Derived.Deep.Slices
import Derived.Test.YtjofjgflcogklaaRows
/-
  The reference's disk: Image, Clone, New.
-/
set_option linter.unusedSimpArgs false
set_option linter.unusedVariables false
set_option maxHeartbeats 4000000
namespace Go.Proofs.Ytjofjgflcogklaa
open Go Go.Abs
variable {h : Heap} {d b p w r s : Nat} {D : Dsk}

theorem take_succ_nth {α : Type} [Inhabited α] (l : List α) {i : Nat} (hi : i < l.length) : l.take (i + 1) = l.take i ++ [nth l i] := by
  rw [List.take_add_one, List.getElem?_eq_getElem hi]
  simp [nth, List.getD_eq_getElem?_getD, hi]

theorem rimage_c (R : RD h r s D) : CV F 40 [.ptr r 0] h (fun v h' => ∃ tk, v = .sl ((imageL D).map strV) tk ∧ Fr (fun _ => False) h h') := by
  have R0 := R
  obtain ⟨ok, hr, hs, ne⟩ := R
  have hlen := ok.len
  refine CV_wp (fn := c40) rfl ?_
  dsimp only [c40]
  try simp (maxSteps := 4000000) (disch := first | assumption | omega | (simp only [push_next, put_next, empty_next, List.length_cons, List.length_nil] <;> omega) | exact _root_.id rfl | exact _root_.id (fun _ => rfl) | fail) only [↓pre, post, Int.reduceEq, Int.reduceLT, Int.reduceLE, Int.reduceAdd, Int.reduceSub, Int.reduceMul, Int.reduceNeg, Nat.reduceLT, Nat.reduceSub, Nat.reduceMul, Nat.reduceAdd, Nat.reduceLeDiff, reduceIte, reduceCtorEq, Nat.reduceEqDiff]
  repeat' (first
    | (refine ifP_pos (by first | assumption | omega) ?_ <;> try simp (maxSteps := 4000000) (disch := first | assumption | omega | (simp only [push_next, put_next, empty_next, List.length_cons, List.length_nil] <;> omega) | exact _root_.id rfl | exact _root_.id (fun _ => rfl) | fail) only [↓pre, post, Int.reduceEq, Int.reduceLT, Int.reduceLE, Int.reduceAdd, Int.reduceSub, Int.reduceMul, Int.reduceNeg, Nat.reduceLT, Nat.reduceSub, Nat.reduceMul, Nat.reduceAdd, Nat.reduceLeDiff, reduceIte, reduceCtorEq, Nat.reduceEqDiff])
    | (refine ifP_neg (by first | assumption | omega) ?_ <;> try simp (maxSteps := 4000000) (disch := first | assumption | omega | (simp only [push_next, put_next, empty_next, List.length_cons, List.length_nil] <;> omega) | exact _root_.id rfl | exact _root_.id (fun _ => rfl) | fail) only [↓pre, post, Int.reduceEq, Int.reduceLT, Int.reduceLE, Int.reduceAdd, Int.reduceSub, Int.reduceMul, Int.reduceNeg, Nat.reduceLT, Nat.reduceSub, Nat.reduceMul, Nat.reduceAdd, Nat.reduceLeDiff, reduceIte, reduceCtorEq, Nat.reduceEqDiff])
    | (refine ifP_intro (fun hyp => ?_) (fun hyp => ?_) <;> first | simp (maxSteps := 4000000) (disch := first | assumption | omega | (simp only [push_next, put_next, empty_next, List.length_cons, List.length_nil] <;> omega) | exact _root_.id rfl | exact _root_.id (fun _ => rfl) | fail) only [↓pre, post, Int.reduceEq, Int.reduceLT, Int.reduceLE, Int.reduceAdd, Int.reduceSub, Int.reduceMul, Int.reduceNeg, Nat.reduceLT, Nat.reduceSub, Nat.reduceMul, Nat.reduceAdd, Nat.reduceLeDiff, reduceIte, reduceCtorEq, Nat.reduceEqDiff, eq_false hyp] | simp (maxSteps := 4000000) (disch := first | assumption | omega | (simp only [push_next, put_next, empty_next, List.length_cons, List.length_nil] <;> omega) | exact _root_.id rfl | exact _root_.id (fun _ => rfl) | fail) only [↓pre, post, Int.reduceEq, Int.reduceLT, Int.reduceLE, Int.reduceAdd, Int.reduceSub, Int.reduceMul, Int.reduceNeg, Nat.reduceLT, Nat.reduceSub, Nat.reduceMul, Nat.reduceAdd, Nat.reduceLeDiff, reduceIte, reduceCtorEq, Nat.reduceEqDiff, eq_true hyp] | skip))
  refine w_loop (fun m vs h3 => ∃ (i : Nat) (tk : Tok) (x1 x2 : AVal), m = D.s.length - i ∧ i ≤ D.s.length ∧ vs = [.ptr r 0, x1, .sl (((D.s.take i).map fun x => x.text.1).map strV) tk, .int .i64 (i : Int), x2] ∧
    Fr (fun _ => False) h h3 ∧ Grow h3 9 1 tk ∧ (tk = .nil ↔ ((D.s.take i).map fun x => x.text.1) = []) ∧ (∀ i s, tk = .own i s → h.next ≤ i)) D.s.length
    ⟨0, .nil, _, _, by omega, by omega, rfl, Fr.refl _ _, .inl rfl, by simp, by simp⟩ ?_
  rintro m vs h3 ⟨i, tk, x1, x2, rfl, hi, rfl, hF, hg, hnil, hown⟩
  have hr3 := hF.get hr (by simp)
  have hs3 := hF.get hs (by simp)
  by_cases hil : i < D.s.length
  · obtain ⟨q0, q1, q2, q3⟩ := sec_ld D.s i hil true 4 true
    have hn : (D.s.take (i + 1)).map (fun x => x.text.1) = (D.s.take i).map (fun x => x.text.1) ++ [(nth D.s i).text.1] := by rw [take_succ_nth _ hil, List.map_append]; rfl
    generalize hL : (D.s.take i).map (fun x => x.text.1) = L at *
    have hLl : L.length ≤ i := by rw [← hL]; simp; omega
    try simp (maxSteps := 4000000) (disch := first | assumption | omega | (simp only [push_next, put_next, empty_next, List.length_cons, List.length_nil] <;> omega) | exact _root_.id rfl | exact _root_.id (fun _ => rfl) | fail) only [↓pre, post, Int.reduceEq, Int.reduceLT, Int.reduceLE, Int.reduceAdd, Int.reduceSub, Int.reduceMul, Int.reduceNeg, Nat.reduceLT, Nat.reduceSub, Nat.reduceMul, Nat.reduceAdd, Nat.reduceLeDiff, reduceIte, reduceCtorEq, Nat.reduceEqDiff, hr3, hs3, q0]
    repeat' (first
      | (refine ifP_pos (by first | assumption | omega) ?_ <;> try simp (maxSteps := 4000000) (disch := first | assumption | omega | (simp only [push_next, put_next, empty_next, List.length_cons, List.length_nil] <;> omega) | exact _root_.id rfl | exact _root_.id (fun _ => rfl) | fail) only [↓pre, post, Int.reduceEq, Int.reduceLT, Int.reduceLE, Int.reduceAdd, Int.reduceSub, Int.reduceMul, Int.reduceNeg, Nat.reduceLT, Nat.reduceSub, Nat.reduceMul, Nat.reduceAdd, Nat.reduceLeDiff, reduceIte, reduceCtorEq, Nat.reduceEqDiff, hr3, hs3, q0])
      | (refine ifP_neg (by first | assumption | omega) ?_ <;> try simp (maxSteps := 4000000) (disch := first | assumption | omega | (simp only [push_next, put_next, empty_next, List.length_cons, List.length_nil] <;> omega) | exact _root_.id rfl | exact _root_.id (fun _ => rfl) | fail) only [↓pre, post, Int.reduceEq, Int.reduceLT, Int.reduceLE, Int.reduceAdd, Int.reduceSub, Int.reduceMul, Int.reduceNeg, Nat.reduceLT, Nat.reduceSub, Nat.reduceMul, Nat.reduceAdd, Nat.reduceLeDiff, reduceIte, reduceCtorEq, Nat.reduceEqDiff, hr3, hs3, q0])
      | (refine ifP_intro (fun hyp => ?_) (fun hyp => ?_) <;> first | simp (maxSteps := 4000000) (disch := first | assumption | omega | (simp only [push_next, put_next, empty_next, List.length_cons, List.length_nil] <;> omega) | exact _root_.id rfl | exact _root_.id (fun _ => rfl) | fail) only [↓pre, post, Int.reduceEq, Int.reduceLT, Int.reduceLE, Int.reduceAdd, Int.reduceSub, Int.reduceMul, Int.reduceNeg, Nat.reduceLT, Nat.reduceSub, Nat.reduceMul, Nat.reduceAdd, Nat.reduceLeDiff, reduceIte, reduceCtorEq, Nat.reduceEqDiff, hr3, hs3, q0, eq_false hyp] | simp (maxSteps := 4000000) (disch := first | assumption | omega | (simp only [push_next, put_next, empty_next, List.length_cons, List.length_nil] <;> omega) | exact _root_.id rfl | exact _root_.id (fun _ => rfl) | fail) only [↓pre, post, Int.reduceEq, Int.reduceLT, Int.reduceLE, Int.reduceAdd, Int.reduceSub, Int.reduceMul, Int.reduceNeg, Nat.reduceLT, Nat.reduceSub, Nat.reduceMul, Nat.reduceAdd, Nat.reduceLeDiff, reduceIte, reduceCtorEq, Nat.reduceEqDiff, hr3, hs3, q0, eq_true hyp] | skip))
    refine append_K (f := strV) (tk := tk) L [(nth D.s i).text.1] (fun _ => rfl) (fun _ => rfl) (fun _ => rfl) rfl rfl hg hnil (by simp; omega) (by omega) (by omega) (by omega) ?_
    intro h4 tk4 g4 n4 le4 k4 f4 o4
    try simp (maxSteps := 4000000) (disch := first | assumption | omega | (simp only [push_next, put_next, empty_next, List.length_cons, List.length_nil] <;> omega) | exact _root_.id rfl | exact _root_.id (fun _ => rfl) | fail) only [↓pre, post, Int.reduceEq, Int.reduceLT, Int.reduceLE, Int.reduceAdd, Int.reduceSub, Int.reduceMul, Int.reduceNeg, Nat.reduceLT, Nat.reduceSub, Nat.reduceMul, Nat.reduceAdd, Nat.reduceLeDiff, reduceIte, reduceCtorEq, Nat.reduceEqDiff]
    repeat' (first
      | (refine ifP_pos (by first | assumption | omega) ?_ <;> try simp (maxSteps := 4000000) (disch := first | assumption | omega | (simp only [push_next, put_next, empty_next, List.length_cons, List.length_nil] <;> omega) | exact _root_.id rfl | exact _root_.id (fun _ => rfl) | fail) only [↓pre, post, Int.reduceEq, Int.reduceLT, Int.reduceLE, Int.reduceAdd, Int.reduceSub, Int.reduceMul, Int.reduceNeg, Nat.reduceLT, Nat.reduceSub, Nat.reduceMul, Nat.reduceAdd, Nat.reduceLeDiff, reduceIte, reduceCtorEq, Nat.reduceEqDiff])
      | (refine ifP_neg (by first | assumption | omega) ?_ <;> try simp (maxSteps := 4000000) (disch := first | assumption | omega | (simp only [push_next, put_next, empty_next, List.length_cons, List.length_nil] <;> omega) | exact _root_.id rfl | exact _root_.id (fun _ => rfl) | fail) only [↓pre, post, Int.reduceEq, Int.reduceLT, Int.reduceLE, Int.reduceAdd, Int.reduceSub, Int.reduceMul, Int.reduceNeg, Nat.reduceLT, Nat.reduceSub, Nat.reduceMul, Nat.reduceAdd, Nat.reduceLeDiff, reduceIte, reduceCtorEq, Nat.reduceEqDiff])
      | (refine ifP_intro (fun hyp => ?_) (fun hyp => ?_) <;> first | simp (maxSteps := 4000000) (disch := first | assumption | omega | (simp only [push_next, put_next, empty_next, List.length_cons, List.length_nil] <;> omega) | exact _root_.id rfl | exact _root_.id (fun _ => rfl) | fail) only [↓pre, post, Int.reduceEq, Int.reduceLT, Int.reduceLE, Int.reduceAdd, Int.reduceSub, Int.reduceMul, Int.reduceNeg, Nat.reduceLT, Nat.reduceSub, Nat.reduceMul, Nat.reduceAdd, Nat.reduceLeDiff, reduceIte, reduceCtorEq, Nat.reduceEqDiff, eq_false hyp] | simp (maxSteps := 4000000) (disch := first | assumption | omega | (simp only [push_next, put_next, empty_next, List.length_cons, List.length_nil] <;> omega) | exact _root_.id rfl | exact _root_.id (fun _ => rfl) | fail) only [↓pre, post, Int.reduceEq, Int.reduceLT, Int.reduceLE, Int.reduceAdd, Int.reduceSub, Int.reduceMul, Int.reduceNeg, Nat.reduceLT, Nat.reduceSub, Nat.reduceMul, Nat.reduceAdd, Nat.reduceLeDiff, reduceIte, reduceCtorEq, Nat.reduceEqDiff, eq_true hyp] | skip))
    refine lp_n ⟨_, by omega, i + 1, tk4, _, _, rfl, by omega, by rw [hn]; push_cast; rfl, ⟨Nat.le_trans hF.1 le4, fun j hj _ => ?_⟩, g4, by rw [hn]; exact n4, fun j z e => ?_⟩
    · rw [f4 j (by have := hF.1; omega) (fun q z e => by have := hown q z e; omega)]; exact hF.2 j hj (by simp)
    · rcases o4 j z e with e | e
      · exact hown j z e
      · have := hF.1; omega
  · have e : i = D.s.length := by omega
    subst e
    try simp (maxSteps := 4000000) (disch := first | assumption | omega | (simp only [push_next, put_next, empty_next, List.length_cons, List.length_nil] <;> omega) | exact _root_.id rfl | exact _root_.id (fun _ => rfl) | fail) only [↓pre, post, Int.reduceEq, Int.reduceLT, Int.reduceLE, Int.reduceAdd, Int.reduceSub, Int.reduceMul, Int.reduceNeg, Nat.reduceLT, Nat.reduceSub, Nat.reduceMul, Nat.reduceAdd, Nat.reduceLeDiff, reduceIte, reduceCtorEq, Nat.reduceEqDiff, hr3, hs3]
    repeat' (first
      | (refine ifP_pos (by first | assumption | omega) ?_ <;> try simp (maxSteps := 4000000) (disch := first | assumption | omega | (simp only [push_next, put_next, empty_next, List.length_cons, List.length_nil] <;> omega) | exact _root_.id rfl | exact _root_.id (fun _ => rfl) | fail) only [↓pre, post, Int.reduceEq, Int.reduceLT, Int.reduceLE, Int.reduceAdd, Int.reduceSub, Int.reduceMul, Int.reduceNeg, Nat.reduceLT, Nat.reduceSub, Nat.reduceMul, Nat.reduceAdd, Nat.reduceLeDiff, reduceIte, reduceCtorEq, Nat.reduceEqDiff, hr3, hs3])
      | (refine ifP_neg (by first | assumption | omega) ?_ <;> try simp (maxSteps := 4000000) (disch := first | assumption | omega | (simp only [push_next, put_next, empty_next, List.length_cons, List.length_nil] <;> omega) | exact _root_.id rfl | exact _root_.id (fun _ => rfl) | fail) only [↓pre, post, Int.reduceEq, Int.reduceLT, Int.reduceLE, Int.reduceAdd, Int.reduceSub, Int.reduceMul, Int.reduceNeg, Nat.reduceLT, Nat.reduceSub, Nat.reduceMul, Nat.reduceAdd, Nat.reduceLeDiff, reduceIte, reduceCtorEq, Nat.reduceEqDiff, hr3, hs3])
      | (refine ifP_intro (fun hyp => ?_) (fun hyp => ?_) <;> first | simp (maxSteps := 4000000) (disch := first | assumption | omega | (simp only [push_next, put_next, empty_next, List.length_cons, List.length_nil] <;> omega) | exact _root_.id rfl | exact _root_.id (fun _ => rfl) | fail) only [↓pre, post, Int.reduceEq, Int.reduceLT, Int.reduceLE, Int.reduceAdd, Int.reduceSub, Int.reduceMul, Int.reduceNeg, Nat.reduceLT, Nat.reduceSub, Nat.reduceMul, Nat.reduceAdd, Nat.reduceLeDiff, reduceIte, reduceCtorEq, Nat.reduceEqDiff, hr3, hs3, eq_false hyp] | simp (maxSteps := 4000000) (disch := first | assumption | omega | (simp only [push_next, put_next, empty_next, List.length_cons, List.length_nil] <;> omega) | exact _root_.id rfl | exact _root_.id (fun _ => rfl) | fail) only [↓pre, post, Int.reduceEq, Int.reduceLT, Int.reduceLE, Int.reduceAdd, Int.reduceSub, Int.reduceMul, Int.reduceNeg, Nat.reduceLT, Nat.reduceSub, Nat.reduceMul, Nat.reduceAdd, Nat.reduceLeDiff, reduceIte, reduceCtorEq, Nat.reduceEqDiff, hr3, hs3, eq_true hyp] | skip))
    exact ⟨tk, by rw [List.take_length]; rfl, hF⟩

theorem rd_fresh (h : Heap) {D : Dsk} (ok : D.ok) :
    RD ((h.push (.row true 4 true (flat (D.s.map secV)))).push (.row true 0 true [.ref h.next 0 D.s.length 4, .bool D.off, .int .i64 (leftI D.left)])) (h.next + 1) h.next D :=
  ⟨ok, get_push_eq (by simp only [push_next]), by rw [get_push_ne (by simp only [push_next]; omega)]; exact get_push_eq rfl, by omega⟩

theorem rclone_c (R : RD h r s D) : CV F 29 [.ptr r 0] h (fun v h' => ∃ r' s', v = .ptr r' 0 ∧ RD h' r' s' D ∧ Fr (fun _ => False) h h' ∧ ∀ j, RS r' s' j → h.next ≤ j) := by
  have R0 := R
  obtain ⟨ok, hr, hs, ne⟩ := R
  have hlen := ok.len
  have hpos := ok.pos
  have hx : evalX (.afresh 54 40 4 true) [.sl [] .full, .ref s 0 D.s.length 4] h = some (.ref h.next 0 D.s.length 4, h.push (.row true 4 true (flat (D.s.map secV)))) := by
    have hfl : (flat (D.s.map secV)).length = D.s.length * 4 := flatm_len secV_len D.s
    have e : elemsA h 4 (.ref s 0 D.s.length 4) = some (flat (D.s.map secV)) := by
      have hle : 0 + D.s.length * 4 ≤ (flat (D.s.map secV)).length := by omega
      simp only [elemsA, if_true, hs, hle, List.drop_zero]
      rw [List.take_of_length_le (by omega)]
    have hr' : (!(roomOk (([] : List AVal).length + D.s.length) 40 && decide (0 < 4) && small 4)) = false := by
      have : roomOk D.s.length 40 = true := by
        simp only [roomOk, Bool.and_eq_true, decide_eq_true_eq]; omega
      have hs : small 4 = true := by first | rfl | decide
      simp [this, hs]
    have hn0 : D.s.length ≠ 0 := by omega
    simp only [evalX, appendA, lenA, e, hr', hn0, Bool.false_eq_true, if_true, if_false]
  refine CV_wp (fn := c29) rfl ?_
  dsimp only [c29]
  try simp (maxSteps := 4000000) (disch := first | assumption | omega | (simp only [push_next, put_next, empty_next, List.length_cons, List.length_nil] <;> omega) | exact _root_.id rfl | exact _root_.id (fun _ => rfl) | fail) only [↓pre, post, Int.reduceEq, Int.reduceLT, Int.reduceLE, Int.reduceAdd, Int.reduceSub, Int.reduceMul, Int.reduceNeg, Nat.reduceLT, Nat.reduceSub, Nat.reduceMul, Nat.reduceAdd, Nat.reduceLeDiff, reduceIte, reduceCtorEq, Nat.reduceEqDiff, hr, evx_elit, hx]
  repeat' (first
    | (refine ifP_pos (by first | assumption | omega) ?_ <;> try simp (maxSteps := 4000000) (disch := first | assumption | omega | (simp only [push_next, put_next, empty_next, List.length_cons, List.length_nil] <;> omega) | exact _root_.id rfl | exact _root_.id (fun _ => rfl) | fail) only [↓pre, post, Int.reduceEq, Int.reduceLT, Int.reduceLE, Int.reduceAdd, Int.reduceSub, Int.reduceMul, Int.reduceNeg, Nat.reduceLT, Nat.reduceSub, Nat.reduceMul, Nat.reduceAdd, Nat.reduceLeDiff, reduceIte, reduceCtorEq, Nat.reduceEqDiff, hr, evx_elit, hx])
    | (refine ifP_neg (by first | assumption | omega) ?_ <;> try simp (maxSteps := 4000000) (disch := first | assumption | omega | (simp only [push_next, put_next, empty_next, List.length_cons, List.length_nil] <;> omega) | exact _root_.id rfl | exact _root_.id (fun _ => rfl) | fail) only [↓pre, post, Int.reduceEq, Int.reduceLT, Int.reduceLE, Int.reduceAdd, Int.reduceSub, Int.reduceMul, Int.reduceNeg, Nat.reduceLT, Nat.reduceSub, Nat.reduceMul, Nat.reduceAdd, Nat.reduceLeDiff, reduceIte, reduceCtorEq, Nat.reduceEqDiff, hr, evx_elit, hx])
    | (refine ifP_intro (fun hyp => ?_) (fun hyp => ?_) <;> first | simp (maxSteps := 4000000) (disch := first | assumption | omega | (simp only [push_next, put_next, empty_next, List.length_cons, List.length_nil] <;> omega) | exact _root_.id rfl | exact _root_.id (fun _ => rfl) | fail) only [↓pre, post, Int.reduceEq, Int.reduceLT, Int.reduceLE, Int.reduceAdd, Int.reduceSub, Int.reduceMul, Int.reduceNeg, Nat.reduceLT, Nat.reduceSub, Nat.reduceMul, Nat.reduceAdd, Nat.reduceLeDiff, reduceIte, reduceCtorEq, Nat.reduceEqDiff, hr, evx_elit, hx, eq_false hyp] | simp (maxSteps := 4000000) (disch := first | assumption | omega | (simp only [push_next, put_next, empty_next, List.length_cons, List.length_nil] <;> omega) | exact _root_.id rfl | exact _root_.id (fun _ => rfl) | fail) only [↓pre, post, Int.reduceEq, Int.reduceLT, Int.reduceLE, Int.reduceAdd, Int.reduceSub, Int.reduceMul, Int.reduceNeg, Nat.reduceLT, Nat.reduceSub, Nat.reduceMul, Nat.reduceAdd, Nat.reduceLeDiff, reduceIte, reduceCtorEq, Nat.reduceEqDiff, hr, evx_elit, hx, eq_true hyp] | skip))
  exact ⟨_, _, rfl, rd_fresh h ok, ((Fr.refl _ _).push _).push _, by rintro j (rfl | rfl) <;> omega⟩
end Go.Proofs.Ytjofjgflcogklaa

/-
  The reference's disk: New.
-/
set_option linter.unusedSimpArgs false
set_option linter.unusedVariables false
set_option maxHeartbeats 4000000
namespace Go.Proofs.Ytjofjgflcogklaa
open Go Go.Abs
variable {h : Heap} {d b p w r s : Nat} {D : Dsk}

theorem zero_bytes : zerosV = (List.replicate 64 (0 : UInt8)).map byteV := by
  rw [List.map_replicate]; rfl
theorem b2s_zero (h : Heap) (mu : Bool) (s : Nat) (a : Bool) : b2sM 0 64 h (some (.row mu s a zerosV)) = some (.str zeroB.1, h) := b2sM_row (by rw [zerosV_len]; omega) (by rw [List.drop_zero, List.take_of_length_le (by rw [zerosV_len]; omega)]; exact zero_bytes)
def zeroS : Sec := ⟨zeroB, none, false⟩
theorem toNat64 : Int.toNat 64 = 64 := rfl
theorem app_first (H : Heap) : appendA true 54 40 4 true (.sl [] .nil) (.sl [.agg [.str zeroB.1, .str [], .bool false, .bool false]] .none) H = some (.ref H.next 0 1 4, H.push (.row true 4 true [.str zeroB.1, .str [], .bool false, .bool false])) := by
  have e : elemsA H 4 (.sl [.agg [.str zeroB.1, .str [], .bool false, .bool false]] .none) = some [.str zeroB.1, .str [], .bool false, .bool false] := by
    simp only [elemsA]
    rw [if_pos]
    · rfl
    · intro y hy; simp at hy; subst hy; rfl
  have hroom : roomOk 1 40 = true := by simp only [roomOk, Bool.and_eq_true, decide_eq_true_eq]; omega
  have hsm : small 4 = true := by first | rfl | decide
  simp [appendA, lenA, e, hroom, hsm]
theorem app_next {H : Heap} {s i : Nat} (h1 : 1 ≤ i) (hi : i < 4096) (hs : H.get s = some (.row true 4 true (flat ((List.replicate i zeroS).map secV)))) : appendA true 54 40 4 true (.ref s 0 i 4) (.sl [.agg [.str zeroB.1, .str [], .bool false, .bool false]] .none) H =
    some (.ref H.next 0 (i + 1) 4, (H.put s none).push (.row true 4 true (flat ((List.replicate (i + 1) zeroS).map secV)))) := by
  have e : elemsA H 4 (.sl [.agg [.str zeroB.1, .str [], .bool false, .bool false]] .none) = some [.str zeroB.1, .str [], .bool false, .bool false] := by
    simp only [elemsA]
    rw [if_pos]
    · rfl
    · intro y hy; simp at hy; subst hy; rfl
  have hfl : (flat ((List.replicate i zeroS).map secV)).length = i * 4 := by rw [flatm_len secV_len]; simp
  have hroom : roomOk (i + 1) 40 = true := by simp only [roomOk, Bool.and_eq_true, decide_eq_true_eq]; omega
  have hsm : small 4 = true := by first | rfl | decide
  have hcs : flat ((List.replicate (i + 1) zeroS).map secV) = flat ((List.replicate i zeroS).map secV) ++ [.str zeroB.1, .str [], .bool false, .bool false] := by
    rw [List.replicate_succ', List.map_append, flat_appendF]; rfl
  rw [hcs]
  simp only [appendA, lenA, e, hs, List.length_cons, List.length_nil, Nat.zero_add]
  rw [List.map_replicate] at hfl
  simp [hfl, hroom, hsm]
theorem repl64a : repl (Int.toNat 64) [AVal.int .u8 0] = zerosV := by rfl
theorem b2s_zeroa (h : Heap) (mu : Bool) (s : Nat) (a : Bool) : b2sM 0 (Int.toNat 64) h (some (.row mu s a zerosV)) = some (.str zeroB.1, h) := b2s_zero h mu s a
theorem repl64 : repl 64 [AVal.int .u8 0] = zerosV := by rfl

/-- The reference's disk while it is made. -/
def Half (h3 : Heap) (r i : Nat) (b : Nat) : Prop := (i = 0 ∧ h3.get r = some (.row true 0 true [.sl [] .nil, .bool false, .int .i64 (-1)])) ∨
  ∃ s, 1 ≤ i ∧ b ≤ s ∧ s ≠ r ∧ h3.get r = some (.row true 0 true [.ref s 0 i 4, .bool false, .int .i64 (-1)]) ∧ h3.get s = some (.row true 4 true (flat ((List.replicate i zeroS).map secV)))

theorem rnew_c (n : Int) (h : Heap) (hn : 1 ≤ n ∧ n ≤ 4096) : CV F 32 [.int .i64 n] h (fun v h' => ∃ r s, v = .tup [.ptr r 0, .int .i64 0] ∧ RD h' r s (freshD n.toNat) ∧ Fr (fun _ => False) h h' ∧ ∀ j, RS r s j → h.next ≤ j) := by
  obtain ⟨k, rfl⟩ : ∃ k : Nat, n = (k : Int) := ⟨n.toNat, by omega⟩
  refine CV_wp (fn := c32) rfl ?_
  dsimp only [c32]
  try simp (maxSteps := 4000000) (disch := first | assumption | omega | (simp only [push_next, put_next, empty_next, List.length_cons, List.length_nil] <;> omega) | exact _root_.id rfl | exact _root_.id (fun _ => rfl) | fail) only [↓pre, post, Int.reduceEq, Int.reduceLT, Int.reduceLE, Int.reduceAdd, Int.reduceSub, Int.reduceMul, Int.reduceNeg, Nat.reduceLT, Nat.reduceSub, Nat.reduceMul, Nat.reduceAdd, Nat.reduceLeDiff, reduceIte, reduceCtorEq, Nat.reduceEqDiff]
  repeat' (first
    | (refine ifP_pos (by first | assumption | omega) ?_ <;> try simp (maxSteps := 4000000) (disch := first | assumption | omega | (simp only [push_next, put_next, empty_next, List.length_cons, List.length_nil] <;> omega) | exact _root_.id rfl | exact _root_.id (fun _ => rfl) | fail) only [↓pre, post, Int.reduceEq, Int.reduceLT, Int.reduceLE, Int.reduceAdd, Int.reduceSub, Int.reduceMul, Int.reduceNeg, Nat.reduceLT, Nat.reduceSub, Nat.reduceMul, Nat.reduceAdd, Nat.reduceLeDiff, reduceIte, reduceCtorEq, Nat.reduceEqDiff])
    | (refine ifP_neg (by first | assumption | omega) ?_ <;> try simp (maxSteps := 4000000) (disch := first | assumption | omega | (simp only [push_next, put_next, empty_next, List.length_cons, List.length_nil] <;> omega) | exact _root_.id rfl | exact _root_.id (fun _ => rfl) | fail) only [↓pre, post, Int.reduceEq, Int.reduceLT, Int.reduceLE, Int.reduceAdd, Int.reduceSub, Int.reduceMul, Int.reduceNeg, Nat.reduceLT, Nat.reduceSub, Nat.reduceMul, Nat.reduceAdd, Nat.reduceLeDiff, reduceIte, reduceCtorEq, Nat.reduceEqDiff])
    | (refine ifP_intro (fun hyp => ?_) (fun hyp => ?_) <;> first | simp (maxSteps := 4000000) (disch := first | assumption | omega | (simp only [push_next, put_next, empty_next, List.length_cons, List.length_nil] <;> omega) | exact _root_.id rfl | exact _root_.id (fun _ => rfl) | fail) only [↓pre, post, Int.reduceEq, Int.reduceLT, Int.reduceLE, Int.reduceAdd, Int.reduceSub, Int.reduceMul, Int.reduceNeg, Nat.reduceLT, Nat.reduceSub, Nat.reduceMul, Nat.reduceAdd, Nat.reduceLeDiff, reduceIte, reduceCtorEq, Nat.reduceEqDiff, eq_false hyp] | simp (maxSteps := 4000000) (disch := first | assumption | omega | (simp only [push_next, put_next, empty_next, List.length_cons, List.length_nil] <;> omega) | exact _root_.id rfl | exact _root_.id (fun _ => rfl) | fail) only [↓pre, post, Int.reduceEq, Int.reduceLT, Int.reduceLE, Int.reduceAdd, Int.reduceSub, Int.reduceMul, Int.reduceNeg, Nat.reduceLT, Nat.reduceSub, Nat.reduceMul, Nat.reduceAdd, Nat.reduceLeDiff, reduceIte, reduceCtorEq, Nat.reduceEqDiff, eq_true hyp] | skip))
  refine w_loop (fun m vs h3 => ∃ (i : Nat) (x1 x2 x3 x4 : AVal), m = k - i ∧ i ≤ k ∧ vs = [.int .i64 (k : Int), x1, x2, .ptr h.next 0, .int .i64 (i : Int), x3, x4] ∧
    Fr (fun _ => False) h h3 ∧ h.next < h3.next ∧ Half h3 h.next i h.next) k
    ⟨0, _, _, _, _, by omega, by omega, rfl, (Fr.refl _ _).push _, by simp only [push_next]; omega, .inl ⟨rfl, get_push_eq rfl⟩⟩ ?_
  rintro m vs h3 ⟨i, x1, x2, x3, x4, rfl, hi, rfl, hF, hn3, hH⟩
  by_cases hik : i < k
  · rcases hH with ⟨rfl, q1⟩ | ⟨s, hi1, hbs, hsr, q1, q2⟩
    · try simp (maxSteps := 4000000) (disch := first | assumption | omega | (simp only [push_next, put_next, empty_next, List.length_cons, List.length_nil] <;> omega) | exact _root_.id rfl | exact _root_.id (fun _ => rfl) | fail) only [↓pre, post, Int.reduceEq, Int.reduceLT, Int.reduceLE, Int.reduceAdd, Int.reduceSub, Int.reduceMul, Int.reduceNeg, Nat.reduceLT, Nat.reduceSub, Nat.reduceMul, Nat.reduceAdd, Nat.reduceLeDiff, reduceIte, reduceCtorEq, Nat.reduceEqDiff, q1, repl64a, b2s_zeroa, zerosV_len, zerosV_one, app_first]
      repeat' (first
        | (refine ifP_pos (by first | assumption | omega) ?_ <;> try simp (maxSteps := 4000000) (disch := first | assumption | omega | (simp only [push_next, put_next, empty_next, List.length_cons, List.length_nil] <;> omega) | exact _root_.id rfl | exact _root_.id (fun _ => rfl) | fail) only [↓pre, post, Int.reduceEq, Int.reduceLT, Int.reduceLE, Int.reduceAdd, Int.reduceSub, Int.reduceMul, Int.reduceNeg, Nat.reduceLT, Nat.reduceSub, Nat.reduceMul, Nat.reduceAdd, Nat.reduceLeDiff, reduceIte, reduceCtorEq, Nat.reduceEqDiff, q1, repl64a, b2s_zeroa, zerosV_len, zerosV_one, app_first])
        | (refine ifP_neg (by first | assumption | omega) ?_ <;> try simp (maxSteps := 4000000) (disch := first | assumption | omega | (simp only [push_next, put_next, empty_next, List.length_cons, List.length_nil] <;> omega) | exact _root_.id rfl | exact _root_.id (fun _ => rfl) | fail) only [↓pre, post, Int.reduceEq, Int.reduceLT, Int.reduceLE, Int.reduceAdd, Int.reduceSub, Int.reduceMul, Int.reduceNeg, Nat.reduceLT, Nat.reduceSub, Nat.reduceMul, Nat.reduceAdd, Nat.reduceLeDiff, reduceIte, reduceCtorEq, Nat.reduceEqDiff, q1, repl64a, b2s_zeroa, zerosV_len, zerosV_one, app_first])
        | (refine ifP_intro (fun hyp => ?_) (fun hyp => ?_) <;> first | simp (maxSteps := 4000000) (disch := first | assumption | omega | (simp only [push_next, put_next, empty_next, List.length_cons, List.length_nil] <;> omega) | exact _root_.id rfl | exact _root_.id (fun _ => rfl) | fail) only [↓pre, post, Int.reduceEq, Int.reduceLT, Int.reduceLE, Int.reduceAdd, Int.reduceSub, Int.reduceMul, Int.reduceNeg, Nat.reduceLT, Nat.reduceSub, Nat.reduceMul, Nat.reduceAdd, Nat.reduceLeDiff, reduceIte, reduceCtorEq, Nat.reduceEqDiff, q1, repl64a, b2s_zeroa, zerosV_len, zerosV_one, app_first, eq_false hyp] | simp (maxSteps := 4000000) (disch := first | assumption | omega | (simp only [push_next, put_next, empty_next, List.length_cons, List.length_nil] <;> omega) | exact _root_.id rfl | exact _root_.id (fun _ => rfl) | fail) only [↓pre, post, Int.reduceEq, Int.reduceLT, Int.reduceLE, Int.reduceAdd, Int.reduceSub, Int.reduceMul, Int.reduceNeg, Nat.reduceLT, Nat.reduceSub, Nat.reduceMul, Nat.reduceAdd, Nat.reduceLeDiff, reduceIte, reduceCtorEq, Nat.reduceEqDiff, q1, repl64a, b2s_zeroa, zerosV_len, zerosV_one, app_first, eq_true hyp] | skip))
      refine lp_n ⟨k - 1, by omega, 1, _, _, _, _, rfl, by omega, rfl, ((hF.put (.inr (Nat.le_refl _)) _).push _).push _, by simp only [push_next, put_next]; omega, .inr ⟨h3.next + 1, by omega, by omega, by omega, ?_, get_push_eq (by simp only [push_next, put_next])⟩⟩
      rw [get_push_ne (by simp only [push_next, put_next]; omega), get_push_ne (by simp only [put_next]; omega)]
      exact get_put_old q1
    · have hsl := get_lt q2
      have hA := app_next (H := h3.push (.row true 1 false zerosV)) hi1 (by omega) (by rw [get_push_ne (Nat.ne_of_lt hsl)]; exact q2)
      try simp (maxSteps := 4000000) (disch := first | assumption | omega | (simp only [push_next, put_next, empty_next, List.length_cons, List.length_nil] <;> omega) | exact _root_.id rfl | exact _root_.id (fun _ => rfl) | fail) only [↓pre, post, Int.reduceEq, Int.reduceLT, Int.reduceLE, Int.reduceAdd, Int.reduceSub, Int.reduceMul, Int.reduceNeg, Nat.reduceLT, Nat.reduceSub, Nat.reduceMul, Nat.reduceAdd, Nat.reduceLeDiff, reduceIte, reduceCtorEq, Nat.reduceEqDiff, q1, repl64a, b2s_zeroa, zerosV_len, zerosV_one, hA]
      repeat' (first
        | (refine ifP_pos (by first | assumption | omega) ?_ <;> try simp (maxSteps := 4000000) (disch := first | assumption | omega | (simp only [push_next, put_next, empty_next, List.length_cons, List.length_nil] <;> omega) | exact _root_.id rfl | exact _root_.id (fun _ => rfl) | fail) only [↓pre, post, Int.reduceEq, Int.reduceLT, Int.reduceLE, Int.reduceAdd, Int.reduceSub, Int.reduceMul, Int.reduceNeg, Nat.reduceLT, Nat.reduceSub, Nat.reduceMul, Nat.reduceAdd, Nat.reduceLeDiff, reduceIte, reduceCtorEq, Nat.reduceEqDiff, q1, repl64a, b2s_zeroa, zerosV_len, zerosV_one, hA])
        | (refine ifP_neg (by first | assumption | omega) ?_ <;> try simp (maxSteps := 4000000) (disch := first | assumption | omega | (simp only [push_next, put_next, empty_next, List.length_cons, List.length_nil] <;> omega) | exact _root_.id rfl | exact _root_.id (fun _ => rfl) | fail) only [↓pre, post, Int.reduceEq, Int.reduceLT, Int.reduceLE, Int.reduceAdd, Int.reduceSub, Int.reduceMul, Int.reduceNeg, Nat.reduceLT, Nat.reduceSub, Nat.reduceMul, Nat.reduceAdd, Nat.reduceLeDiff, reduceIte, reduceCtorEq, Nat.reduceEqDiff, q1, repl64a, b2s_zeroa, zerosV_len, zerosV_one, hA])
        | (refine ifP_intro (fun hyp => ?_) (fun hyp => ?_) <;> first | simp (maxSteps := 4000000) (disch := first | assumption | omega | (simp only [push_next, put_next, empty_next, List.length_cons, List.length_nil] <;> omega) | exact _root_.id rfl | exact _root_.id (fun _ => rfl) | fail) only [↓pre, post, Int.reduceEq, Int.reduceLT, Int.reduceLE, Int.reduceAdd, Int.reduceSub, Int.reduceMul, Int.reduceNeg, Nat.reduceLT, Nat.reduceSub, Nat.reduceMul, Nat.reduceAdd, Nat.reduceLeDiff, reduceIte, reduceCtorEq, Nat.reduceEqDiff, q1, repl64a, b2s_zeroa, zerosV_len, zerosV_one, hA, eq_false hyp] | simp (maxSteps := 4000000) (disch := first | assumption | omega | (simp only [push_next, put_next, empty_next, List.length_cons, List.length_nil] <;> omega) | exact _root_.id rfl | exact _root_.id (fun _ => rfl) | fail) only [↓pre, post, Int.reduceEq, Int.reduceLT, Int.reduceLE, Int.reduceAdd, Int.reduceSub, Int.reduceMul, Int.reduceNeg, Nat.reduceLT, Nat.reduceSub, Nat.reduceMul, Nat.reduceAdd, Nat.reduceLeDiff, reduceIte, reduceCtorEq, Nat.reduceEqDiff, q1, repl64a, b2s_zeroa, zerosV_len, zerosV_one, hA, eq_true hyp] | skip))
      refine lp_n ⟨k - (i + 1), by omega, i + 1, _, _, _, _, rfl, by omega, by push_cast; rfl, (((hF.put (.inr hbs) none).put (.inr (Nat.le_refl _)) _).push _).push _, by simp only [push_next, put_next]; omega, .inr ⟨h3.next + 1, by omega, by omega, by omega, ?_, get_push_eq (by simp only [push_next, put_next])⟩⟩
      rw [get_push_ne (by simp only [push_next, put_next]; omega), get_push_ne (by simp only [put_next]; omega)]
      exact get_put_old (o1 := .row true 0 true [.ref s 0 i 4, .bool false, .int .i64 (-1)]) (by rw [get_put_ne (Ne.symm hsr)]; exact q1)
  · have e : i = k := by omega
    subst e
    rcases hH with ⟨rfl, q1⟩ | ⟨s, hi1, hbs, hsr, q1, q2⟩
    · omega
    · try simp (maxSteps := 4000000) (disch := first | assumption | omega | (simp only [push_next, put_next, empty_next, List.length_cons, List.length_nil] <;> omega) | exact _root_.id rfl | exact _root_.id (fun _ => rfl) | fail) only [↓pre, post, Int.reduceEq, Int.reduceLT, Int.reduceLE, Int.reduceAdd, Int.reduceSub, Int.reduceMul, Int.reduceNeg, Nat.reduceLT, Nat.reduceSub, Nat.reduceMul, Nat.reduceAdd, Nat.reduceLeDiff, reduceIte, reduceCtorEq, Nat.reduceEqDiff]
      repeat' (first
        | (refine ifP_pos (by first | assumption | omega) ?_ <;> try simp (maxSteps := 4000000) (disch := first | assumption | omega | (simp only [push_next, put_next, empty_next, List.length_cons, List.length_nil] <;> omega) | exact _root_.id rfl | exact _root_.id (fun _ => rfl) | fail) only [↓pre, post, Int.reduceEq, Int.reduceLT, Int.reduceLE, Int.reduceAdd, Int.reduceSub, Int.reduceMul, Int.reduceNeg, Nat.reduceLT, Nat.reduceSub, Nat.reduceMul, Nat.reduceAdd, Nat.reduceLeDiff, reduceIte, reduceCtorEq, Nat.reduceEqDiff])
        | (refine ifP_neg (by first | assumption | omega) ?_ <;> try simp (maxSteps := 4000000) (disch := first | assumption | omega | (simp only [push_next, put_next, empty_next, List.length_cons, List.length_nil] <;> omega) | exact _root_.id rfl | exact _root_.id (fun _ => rfl) | fail) only [↓pre, post, Int.reduceEq, Int.reduceLT, Int.reduceLE, Int.reduceAdd, Int.reduceSub, Int.reduceMul, Int.reduceNeg, Nat.reduceLT, Nat.reduceSub, Nat.reduceMul, Nat.reduceAdd, Nat.reduceLeDiff, reduceIte, reduceCtorEq, Nat.reduceEqDiff])
        | (refine ifP_intro (fun hyp => ?_) (fun hyp => ?_) <;> first | simp (maxSteps := 4000000) (disch := first | assumption | omega | (simp only [push_next, put_next, empty_next, List.length_cons, List.length_nil] <;> omega) | exact _root_.id rfl | exact _root_.id (fun _ => rfl) | fail) only [↓pre, post, Int.reduceEq, Int.reduceLT, Int.reduceLE, Int.reduceAdd, Int.reduceSub, Int.reduceMul, Int.reduceNeg, Nat.reduceLT, Nat.reduceSub, Nat.reduceMul, Nat.reduceAdd, Nat.reduceLeDiff, reduceIte, reduceCtorEq, Nat.reduceEqDiff, eq_false hyp] | simp (maxSteps := 4000000) (disch := first | assumption | omega | (simp only [push_next, put_next, empty_next, List.length_cons, List.length_nil] <;> omega) | exact _root_.id rfl | exact _root_.id (fun _ => rfl) | fail) only [↓pre, post, Int.reduceEq, Int.reduceLT, Int.reduceLE, Int.reduceAdd, Int.reduceSub, Int.reduceMul, Int.reduceNeg, Nat.reduceLT, Nat.reduceSub, Nat.reduceMul, Nat.reduceAdd, Nat.reduceLeDiff, reduceIte, reduceCtorEq, Nat.reduceEqDiff, eq_true hyp] | skip))
      have hok := freshD_ok (n := i) (by omega) (by omega)
      refine ⟨_, _, rfl, ⟨hok, by simpa [freshD, leftI] using q1, by simpa [freshD, zeroS] using q2, Ne.symm hsr⟩, hF, ?_⟩
      rintro j (rfl | rfl) <;> omega
end Go.Proofs.Ytjofjgflcogklaa

/-
  From a run of the abstract machine to a row: the law answers true, and each argument reads as it read.
-/
set_option linter.unusedSimpArgs false
set_option linter.unusedVariables false
namespace Go.Abs
open Go.ChangeShapes Go.WideShapes Go.ChangeAt Go.RowKit

variable {P : Program} {H : Type} {enc : TypeId × Value → H}

/-- The ghost at the start: nothing is owned, every cell stands. -/
def G0 : Ghost := ⟨0, fun _ => 0, fun _ => 0, fun _ => none⟩

theorem hrel0 (W : World) : HRel W G0 Heap.empty := ⟨rfl, fun id o h => by rw [Heap.get_empty] at h; simp at h, fun id o h => by rw [Heap.get_empty] at h; simp at h, fun i j oi oj h => by rw [Heap.get_empty] at h; simp at h⟩

theorem stab0 (b k : Nat) : stab G0 b k := fun m h => by simp [G0] at h

/-- The kinds of arguments. -/
inductive Arg where
  | int (n : Int)
  | ints (l : List Int) (t : Tok)

def Arg.val : Arg → AVal
  | .int n => .int .i64 n
  | .ints l t => .sl (l.map (.int .i64)) t

/-- A slice of integers and the token that it comes with, and the bounds that its size implies. -/
def Arg.wf : Arg → Prop
  | .int n => -9223372036854775808 ≤ n ∧ n < 9223372036854775808
  | .ints l t => (t = .none ∨ t = .nil ∧ l = []) ∧ l.length ≤ maxLen ∧ ∀ n ∈ l, -9223372036854775808 ≤ n ∧ n < 9223372036854775808

theorem wf_i64 {n : Int} (h : (Lit.int .i64 n).wf = true) : -9223372036854775808 ≤ n ∧ n < 9223372036854775808 := by
  simp only [Lit.wf, Bool.and_eq_true, decide_eq_true_eq] at h
  have h1 : IntKind.i64.min = -9223372036854775808 := rfl
  have h2 : IntKind.i64.max = 9223372036854775807 := rfl
  omega

theorem flat_ints (l : List Int) : flat (l.map (AVal.int .i64)) = l.map (AVal.int .i64) := by
  induction l with
  | nil => rfl
  | cons x l ih => simp only [flat, List.map_cons, List.flatMap_cons, AVal.cells] at ih ⊢; rw [ih]; rfl

theorem arg_int {W : World} {t : TypeId} {v : Value} {d : DataW H} {ps : List MemPlace} {base : Nat} (ht : P.underlying t = some (.int .i64)) (hval : Value.okWide P W .any base t v) (hd : DataW.Trod enc P W 0 (fun _ => true) true t v d ps) :
    ∃ n, VRel W G0 v (Arg.val (.int n)) ∧ (Arg.int n).wf := by
  obtain ⟨n, rfl, rfl, rfl, hw⟩ := open_int ht hval hd
  exact ⟨n, .int _ _, wf_i64 hw⟩

theorem arg_ints {W : World} {t e : TypeId} {v : Value} {d : DataW H} {ps : List MemPlace} {base : Nat} (ht : P.underlying t = some (.slice e)) (he : P.underlying e = some (.int .i64)) (hc : P.cellsOf e = 1) (hval : Value.okWide P W .any base t v) (hd : DataW.Trod enc P W 0 (fun _ => true) true t v d ps) :
    ∃ l tk, VRel W G0 v (Arg.val (.ints l tk)) ∧ (Arg.ints l tk).wf := by
  obtain ⟨a0, len0, cap0, rfl⟩ := okWide_slice ht hval
  obtain ⟨fuel, hf⟩ := hd
  rcases open_ints ht he hc hf with ⟨h1, h2⟩ | ⟨a, len, cap, zs, h1, h2, h3, h4, h5, h6, h7, h8⟩
  · simp [Value.cells] at h1
    obtain ⟨rfl, rfl, rfl⟩ := h1
    exact ⟨[], .nil, .nilsl _ (.inl rfl), .inr ⟨rfl, rfl⟩, by simp, by simp⟩
  · simp [Value.cells] at h1
    obtain ⟨rfl, rfl, rfl⟩ := h1
    simp only [if_true] at h5
    simp only [Value.okWide, ht, Cell.okWide, Cell.ok] at hval
    obtain ⟨b, off, sp⟩ := a
    obtain rfl : sp = none := hval.2.2.2.1
    have hl : (zs.take len0).length = len0 := by rw [List.length_take]; omega
    refine ⟨zs.take len0, .none, ?_, .inl rfl, by omega, fun n hn => wf_i64 (h8 n (List.mem_of_mem_take hn))⟩
    have hfl := flat_ints (zs.take len0)
    have key : VRel W G0 (.slice (some ⟨b, off, none⟩) ((zs.take len0).map (AVal.int .i64)).length cap0) (.sl ((zs.take len0).map (AVal.int .i64)) .none) := by
      refine .sl b off cap0 1 _ .none (fun k => .int .i64 (zs.getD k 0)) (fun x hx => ?_) (fun k c hk => ?_) (fun k c hk => ?_) (fun k hk => stab0 _ _) (fun c hc' => ?_) (fun c hc' => ?_) (by rw [List.length_map, hl]; exact h3) (by simp) (by simp)
      · simp only [List.mem_map] at hx
        obtain ⟨n, _, rfl⟩ := hx
        rfl
      · rw [hfl] at hk
        have hlt := (List.getElem?_eq_some_iff.1 hk).1
        rw [List.length_map, hl] at hlt
        have := h7 k (by omega)
        rw [Addr.add_lit] at this
        exact this
      · rw [hfl] at hk
        have hlt := (List.getElem?_eq_some_iff.1 hk).1
        rw [List.length_map, hl] at hlt
        simp only [List.getElem?_map, List.getElem?_take, hlt, if_true, Option.map_eq_some_iff] at hk
        obtain ⟨n, hn, rfl⟩ := hk
        rw [List.getD_eq_getElem?_getD, hn]
        exact .int _ _
      · rw [hfl] at hc'
        simp only [List.mem_map] at hc'
        obtain ⟨n, _, rfl⟩ := hc'
        rfl
      · rw [hfl] at hc'
        simp only [List.mem_map] at hc'
        obtain ⟨n, _, rfl⟩ := hc'
        rfl
    rw [List.length_map, hl] at key
    exact key

theorem Below.trodAll (hl : laidOutB P = true) {W W' : World} (hb : Below W.heap.size W W') : ∀ {ts : List TypeId} {vs : List Value} {ds : List (DataW H)} {ps : List MemPlace}, (∀ t ∈ ts, P.readableRec t = true ∧ t < P.types.size) →
    (∀ x ∈ ps, x.block < W.heap.size) → DataW.TrodAll enc P W 0 (fun _ => true) true ts vs ds ps → DataW.TrodAll enc P W' 0 (fun b => decide (b < W.heap.size)) true ts vs ds ps
  | [], [], [], _, _, _, h => h
  | t :: ts, v :: vs, d :: ds, ps, ht, hp, h => by
    obtain ⟨p, q, h1, h2, rfl⟩ := h
    exact ⟨p, q, RowKit.Below.trod hl (ht t (by simp)).1 (ht t (by simp)).2 h1 hb (fun x hx => hp x (by simp [hx])), Below.trodAll hl hb (fun t' h' => ht t' (by simp [h'])) (fun x hx => hp x (by simp [hx])) h2, rfl⟩
  | [], _ :: _, _, _, _, _, h => h.elim
  | [], [], _ :: _, _, _, _, h => h.elim
  | _ :: _, [], _, _, _, _, h => h.elim
  | _ :: _, _ :: _, [], _, _, _, h => h.elim

/-- Behind a law that answers true and writes nothing that stood before. -/
theorem law_post {f : Func} {s : ChangeSpec} {W W' : World} {args : Array Value} {ds gs : List (DataW H)} {before : List MemPlace} {tb : TypeId} (hl : laidOutB P = true) (hts : ∀ t ∈ f.params.toList, P.readableRec t = true ∧ t < P.types.size)
    (hv : s.vars = []) (hr : f.resultTypes = #[tb]) (hb : P.underlying tb = some .bool) (hW : DataW.Whole enc P f.params.toList s.vars false W args.toList ds gs before) (hB : Below W.heap.size W W')
    (hs : s.fn H (ds ++ gs) = { results := [.lit (.bool true)], args := ds }) : s.post enc P f false true false false W args (.bool true) W' := by
  have hlt := hW.lt
  have hW0 := hW
  obtain ⟨p, q, hA, hV, rfl, hfz, hnd⟩ := hW
  rw [hv] at hV
  have hq : q = [] := by
    match gs, hV with
    | [], h => exact h
  subst hq
  refine ⟨ds, gs, p ++ [], [], p, [], hW0, ?_, ?_, ?_, hB.frame _, fun h => by simp at h⟩
  · rw [hr, hs]
    exact ⟨[], [], RowKit.shut_bool hb true, rfl, rfl⟩
  · rw [hs]
    exact Below.trodAll hl hB hts (fun x hx => hlt x (by simp [hx])) hA
  · rw [hv, hs]
    rfl

/-- The run on related arguments, from outside. -/
theorem law_calls {F : Nat → Option AEnt} {Hh : Hints} (hmix : P.follows .mixedOrders = true) (hT : Table P Hh F) {g : Nat} {W : World} {cargs : Array Value} {args : List Arg} (hp : Pts W G0 cargs (args.map Arg.val)) {h' : Heap}
    (c : Gives F g (args.map Arg.val) Heap.empty (.bool true) h') : Calls P g cargs W fun e W' => e = .returned (.bool true) ∧ Below W.heap.size W W' := by
  obtain ⟨n, hn⟩ := gives_run c
  refine (sound hmix hT hn W G0 cargs (hrel0 W) hp).mono ?_
  rintro e W' ⟨v, G', rfl, hX, hH, hV⟩
  cases hV with
  | bool =>
    refine ⟨rfl, hX.os, hX.tape, hX.out, hX.size, fun k hk => (hX.keep k hk ?_).1⟩
    rintro ⟨id, o, h1, _⟩
    rw [Heap.get_empty] at h1
    simp at h1

end Go.Abs

/-
  Arguments of whatever shape (bools, ints, strings, structs, slices of these): what reads as such an argument has its abstract value.
-/
set_option linter.unusedSimpArgs false
set_option linter.unusedVariables false
namespace Go.Abs
open Go.ChangeShapes Go.WideShapes Go.ChangeAt Go.RowKit Go.Deep

/-- Types whose values the abstract machine can be handed. -/
def shapeOk (P : Program) : Nat → TypeId → Bool
  | 0, _ => false
  | n + 1, t => match P.underlying t with
    | some .bool | some (.int _) | some .string => P.cellsOf t == 1
    | some (.slice e) => P.cellsOf t == 1 && decide (0 < P.cellsOf e) && shapeOk P n e
    | some (.struct fs) => P.cellsOf t == fs.size && (List.range fs.size).all fun i => match fs[i]? with
      | some f => f.offset == i && P.cellsOf f.type == 1 && shapeOk P n f.type
      | none => false
    | _ => false

def isSt (P : Program) (t : TypeId) : Bool := match P.underlying t with
  | some (.struct _) => true
  | _ => false

/-- The cells of an argument of a type. -/
def okA (P : Program) : Nat → TypeId → List AVal → Prop
  | 0, _, _ => False
  | n + 1, t, asx => match P.underlying t with
    | some .bool => ∃ b, asx = [.bool b]
    | some (.int k) => ∃ z, asx = [.int k z] ∧ (Lit.int k z).wf = true
    | some .string => ∃ s, asx = [.str s] ∧ s.length ≤ maxLen
    | some (.slice e) => ∃ xs tk, asx = [.sl xs tk] ∧ (tk = .none ∨ tk = .nil ∧ xs = []) ∧ xs.length ≤ maxLen ∧ ∀ x ∈ xs, mk (isSt P e) x.cells = some x ∧ okA P n e x.cells
    | some (.struct fs) => asx.length = fs.size ∧ ∀ (i : Nat) (f : Field), fs[i]? = some f → ∃ y, asx[i]? = some y ∧ okA P n f.type [y]
    | _ => False

variable {P : Program} {H : Type} {enc : TypeId × Value → H} {W : World}

theorem flat_find {sz : Nat} : ∀ {xs : List AVal}, (∀ x ∈ xs, x.cells.length = sz) → ∀ {k : Nat} {c : AVal}, (flat xs)[k]? = some c → ∃ (i j : Nat) (x : AVal), xs[i]? = some x ∧ x.cells[j]? = some c ∧ k = i * sz + j ∧ j < sz
  | [], _, k, c, h => by simp [flat] at h
  | x :: xs, h0, k, c, h => by
    have hx := h0 x (by simp)
    have hf : flat (x :: xs) = x.cells ++ flat xs := rfl
    rw [hf] at h
    by_cases hk : k < x.cells.length
    · rw [List.getElem?_append_left hk] at h
      exact ⟨0, k, x, rfl, h, by omega, by omega⟩
    · rw [List.getElem?_append_right (by omega)] at h
      obtain ⟨i, j, y, h1, h2, h3, h4⟩ := flat_find (fun y hy => h0 y (by simp [hy])) h
      exact ⟨i + 1, j, y, by simpa using h1, h2, by rw [Nat.add_mul]; omega, h4⟩

theorem pts1 {G : Ghost} {c : Value} {a : AVal} (h : VRel W G c a) : Pts W G #[c] [a] := ⟨rfl, fun k c' a' h1 h2 => by
  match k with
  | 0 => simp at h1 h2; subst h1; subst h2; exact h
  | k + 1 => simp at h2⟩

theorem cells_of_mk {ag : Bool} {cs : List AVal} {x : AVal} (h : mk ag cs = some x) (h1 : ∀ c ∈ cs, c.one = true) : x.cells = cs := by
  unfold mk at h
  split at h
  · simp at h; subst h; rfl
  · split at h
    · rename_i c
      simp at h; subst h
      have := h1 c (by simp)
      cases c <;> simp [AVal.one] at this <;> rfl
    · simp at h

theorem trod_cells : ∀ (n : Nat) {fuel : Nat} {t : TypeId} {cs : List Value} {x : DataW H × List MemPlace}, shapeOk P n t = true → DataW.trod enc P W 0 (fun _ => true) true fuel t cs = some x →
    ∃ asx, Pts W G0 ⟨cs⟩ asx ∧ okA P n t asx ∧ (∀ a ∈ asx, a.one = true) ∧ (∀ a ∈ asx, strip a = some a) ∧ cs.length = P.cellsOf t ∧ (isSt P t = false → asx.length = 1)
  | 0, fuel, t, cs, x, hs, h => by simp [shapeOk] at hs
  | n + 1, fuel, t, cs, x, hs, h => by
    simp only [shapeOk] at hs
    split at hs
    · -- a bool
      rename_i hu
      cases fuel with
      | zero => simp [DataW.trod] at h
      | succ fuel =>
        unfold DataW.trod at h
        rw [hu] at h
        split at h <;> simp_all
        rename_i b
        exact ⟨[.bool b], pts1 (.bool b), by simp [okA, hu], by simp [AVal.one], by simp [strip], fun _ => rfl⟩
    · -- an int
      rename_i k hu
      cases fuel with
      | zero => simp [DataW.trod] at h
      | succ fuel =>
        unfold DataW.trod at h
        rw [hu] at h
        split at h <;> simp_all
        rename_i z _
        obtain ⟨⟨h1, h2⟩, _⟩ := h
        subst h1
        exact ⟨[.int _ z], pts1 (.int _ z), by simp [okA, hu, h2], by simp [AVal.one], by simp [strip], fun _ => rfl⟩
    · -- a string
      rename_i hu
      cases fuel with
      | zero => simp [DataW.trod] at h
      | succ fuel =>
        unfold DataW.trod at h
        rw [hu] at h
        split at h <;> simp_all
        rename_i s
        exact ⟨[.str s.data.toList], pts1 (.str s), by simp only [okA, hu]; exact ⟨_, rfl, by simpa using h.1⟩, by simp [AVal.one], by simp [strip], fun _ => rfl⟩
    · -- a slice
      rename_i e hu
      simp only [Bool.and_eq_true, beq_iff_eq, decide_eq_true_eq] at hs
      obtain ⟨⟨hc1, hpos⟩, hse⟩ := hs
      have hst : isSt P t = false := by simp [isSt, hu]
      rcases open_slice hu h with ⟨rfl, _⟩ | ⟨a, len, cap, m, f, D, Pl, rfl, _, hlc, hcm, hm, _, hel⟩
      · refine ⟨[.sl [] .nil], pts1 (.nilsl _ (.inl rfl)), ?_, by simp [AVal.one], by simp [strip], by simp [hc1], by simp⟩
        simp only [okA, hu]
        exact ⟨[], .nil, rfl, .inr ⟨rfl, rfl⟩, by simp, by simp⟩
      · simp only [if_true] at hm
        subst hm
        have hcells : ∀ i, i < m → ∃ xc : AVal × List AVal, mk (isSt P e) xc.1.cells = some xc.1 ∧ okA P n e xc.1.cells ∧ (∀ a ∈ xc.1.cells, a.one = true) ∧ (∀ a ∈ xc.1.cells, strip a = some a) ∧ xc.1.cells.length = P.cellsOf e ∧
            ∀ j c, xc.1.cells[j]? = some c → ∃ u, W.cell? ((a.add (i * P.cellsOf e)).add j) = some u ∧ VRel W G0 u c := by
          intro i hi
          obtain ⟨cs', h1, h2⟩ := hel i hi
          obtain ⟨asx, p1, p2, p3, p4, p5, p6⟩ := trod_cells n hse h2
          obtain ⟨_, q1, q2⟩ := World.cells?_some h1
          have hlen : asx.length = P.cellsOf e := by rw [← p1.len]; simpa using q1
          obtain ⟨x, hx⟩ : ∃ x, mk (isSt P e) asx = some x := by
            unfold mk
            cases hst : isSt P e with
            | true => exact ⟨_, rfl⟩
            | false =>
              have := p6 hst
              match asx, this with
              | [y], _ => exact ⟨y, rfl⟩
          have hxc := cells_of_mk hx p3
          refine ⟨(x, []), ?_⟩
          simp only [hxc]
          refine ⟨hx, p2, p3, p4, hlen, fun j c hj => ?_⟩
          have hjl : j < P.cellsOf e := by rw [← hlen]; exact (List.getElem?_eq_some_iff.1 hj).1
          obtain ⟨u, hu'⟩ : ∃ u, cs'[j]? = some u := ⟨_, List.getElem?_eq_getElem (by omega)⟩
          exact ⟨u, by rw [q2 j hjl, hu'], p1.rel j u c (by simpa using hu') hj⟩
        obtain ⟨A, hA⟩ := choose_lt (α := AVal × List AVal) hcells
        have hok : ∀ x ∈ (List.range len).map (fun i => (A i).1), mk (isSt P e) x.cells = some x ∧ okA P n e x.cells := by
          intro x hx
          obtain ⟨i, hi, rfl⟩ := List.mem_map.1 hx
          have := hA i (by have := List.mem_range.1 hi; omega)
          exact ⟨this.1, this.2.1⟩
        by_cases hcap : m = 0
        · have hl0 : len = 0 := by omega
          subst hl0; subst hcap
          refine ⟨[.sl [] .none], pts1 (.emp a .none (.inl rfl)), ?_, by simp [AVal.one], by simp [strip], by simp [hc1], by simp⟩
          simp only [okA, hu]
          exact ⟨[], .none, rfl, .inl rfl, by simp, by simp⟩
        · -- the place is one of cells
          have hspot : a.spot = none := by
            obtain ⟨_, _, _, _, hl, hc⟩ := hA 0 (by omega)
            obtain ⟨c, hc'⟩ : ∃ c, (A 0).1.cells[0]? = some c := ⟨_, List.getElem?_eq_getElem (by omega)⟩
            obtain ⟨u, hu', _⟩ := hc 0 c hc'
            rw [Nat.zero_mul] at hu'
            have : (a.add 0).add 0 = a := by simp [Addr.add]
            rw [this] at hu'
            unfold World.cell? at hu'
            split at hu'
            · split at hu'
              · simp at hu'
              · rename_i q; simpa using q
            · simp at hu'
          obtain ⟨b, off, sp⟩ := a
          simp only at hspot
          subst hspot
          have hsz : ∀ x ∈ (List.range len).map (fun i => (A i).1), x.cells.length = P.cellsOf e := by
            intro x hx
            obtain ⟨i, hi, rfl⟩ := List.mem_map.1 hx
            exact (hA i (by have := List.mem_range.1 hi; omega)).2.2.2.2.1
          have hfind : ∀ (k : Nat) (c : AVal), (flat ((List.range len).map (fun i => (A i).1)))[k]? = some c → (∃ u, W.cell? ⟨b, off + k, none⟩ = some u ∧ VRel W G0 u c) ∧ c.one = true ∧ strip c = some c := by
            intro k c hk
            obtain ⟨i, j, x, h1, h2, h3, h4⟩ := flat_find hsz hk
            rw [List.getElem?_map, Option.map_eq_some_iff] at h1
            obtain ⟨i', h1, rfl⟩ := h1
            have hi' : i = i' := by
              have := List.getElem?_eq_some_iff.1 h1
              obtain ⟨_, h⟩ := this
              simpa using h
            subst hi'
            have hil : i < len := by have := (List.getElem?_eq_some_iff.1 h1).1; simpa using this
            obtain ⟨a1, a2, a3, a4, a5, a6⟩ := hA i (by omega)
            obtain ⟨u, hu1, hu2⟩ := a6 j c h2
            have hmem : c ∈ (A i).1.cells := List.mem_of_getElem? h2
            refine ⟨⟨u, ?_, hu2⟩, a3 c hmem, a4 c hmem⟩
            rw [h3, ← hu1, Addr.add_lit, Addr.add_lit, Nat.add_assoc]
          refine ⟨[.sl ((List.range len).map (fun i => (A i).1)) .none], pts1 ?_, ?_, by simp [AVal.one], by simp [strip], by simp [hc1], by simp⟩
          · have hll : ((List.range len).map (fun i => (A i).1)).length = len := by simp
            have key : VRel W G0 (.slice (some ⟨b, off, none⟩) ((List.range len).map (fun i => (A i).1)).length m) (.sl ((List.range len).map (fun i => (A i).1)) .none) := by
              refine .sl b off m (P.cellsOf e) _ .none (fun k => (W.cell? ⟨b, off + k, none⟩).getD (.bool false)) hsz (fun k c hk => ?_) (fun k c hk => ?_) (fun k hk => stab0 _ _) (fun c hc' => ?_) (fun c hc' => ?_) (by rw [hll]; exact hlc) (by simp) (by simp)
              · obtain ⟨⟨u, q1, q2⟩, _⟩ := hfind k c hk
                simp [q1]
              · obtain ⟨⟨u, q1, q2⟩, _⟩ := hfind k c hk
                simp [q1]; exact q2
              · obtain ⟨k, hk⟩ := List.getElem?_of_mem hc'
                exact (hfind k c hk).2.1
              · obtain ⟨k, hk⟩ := List.getElem?_of_mem hc'
                exact (hfind k c hk).2.2
            rwa [hll] at key
          · simp only [okA, hu]
            exact ⟨_, .none, rfl, .inl rfl, by simp; omega, hok⟩
    · -- a struct
      rename_i fs hu
      simp only [Bool.and_eq_true, beq_iff_eq, List.all_eq_true, List.mem_range] at hs
      obtain ⟨hc1, hfs⟩ := hs
      obtain ⟨xs, f, _, _, hl, hxl, hel⟩ := DataW.trod_struct hu h
      have hfield : ∀ i, i < fs.size → ∃ y : AVal, (∃ c, cs[i]? = some c ∧ VRel W G0 c y) ∧ (∀ fd, fs[i]? = some fd → okA P n fd.type [y]) ∧ y.one = true ∧ strip y = some y := by
        intro i hi
        have hfi := hfs i hi
        obtain ⟨fd, hfd⟩ : ∃ fd, fs[i]? = some fd := ⟨_, Array.getElem?_eq_getElem hi⟩
        rw [hfd] at hfi
        simp only [Bool.and_eq_true, beq_iff_eq] at hfi
        obtain ⟨⟨f1, f2⟩, f3⟩ := hfi
        have hh := hel i fd hfd
        rw [f1, f2] at hh
        obtain ⟨c, hc⟩ : ∃ c, cs[i]? = some c := ⟨_, List.getElem?_eq_getElem (by omega)⟩
        have hcs : (cs.drop i).take 1 = [c] := by
          rw [List.take_one, List.head?_drop, hc]; rfl
        rw [hcs] at hh
        obtain ⟨y, hy⟩ : ∃ y, xs[i]? = some y := ⟨_, List.getElem?_eq_getElem (by omega)⟩
        rw [hy] at hh
        obtain ⟨asx, p1, p2, p3, p4, p5, p6⟩ := trod_cells n f3 hh
        have hl1 : asx.length = 1 := by rw [← p1.len]; rfl
        match asx, hl1 with
        | [y], _ =>
          refine ⟨y, ⟨c, hc, p1.rel 0 c y rfl rfl⟩, fun fd' hfd' => ?_, p3 y (by simp), p4 y (by simp)⟩
          rw [hfd] at hfd'
          obtain rfl := Option.some.inj hfd'
          exact p2
      obtain ⟨A, hA⟩ := choose_lt (α := AVal) hfield
      have hlen : cs.length = fs.size := by rw [hl, hc1]
      refine ⟨(List.range fs.size).map A, ⟨by simp [hlen], fun k c a h1 h2 => ?_⟩, ?_, fun a ha => ?_, fun a ha => ?_, hl, fun q => by simp [isSt, hu] at q⟩
      · rw [List.getElem?_map, Option.map_eq_some_iff] at h2
        obtain ⟨k', h2, rfl⟩ := h2
        obtain ⟨hk1, hk2⟩ := List.getElem?_eq_some_iff.1 h2
        simp at hk1 hk2
        subst hk2
        obtain ⟨⟨c', q1, q2⟩, _⟩ := hA k hk1
        have : c' = c := by
          have h1' : cs[k]? = some c := by simpa using h1
          rw [h1'] at q1; exact (Option.some.inj q1).symm
        subst this
        exact q2
      · simp only [okA, hu]
        refine ⟨by simp, fun i fd hfd => ?_⟩
        have hi : i < fs.size := (Array.getElem?_eq_some_iff.1 hfd).1
        exact ⟨A i, by simp [hi], (hA i hi).2.1 fd hfd⟩
      · obtain ⟨i, hi, rfl⟩ := List.mem_map.1 ha
        exact (hA i (by simpa using hi)).2.2.1
      · obtain ⟨i, hi, rfl⟩ := List.mem_map.1 ha
        exact (hA i (by simpa using hi)).2.2.2
    · simp at hs

/-- An argument. -/
theorem arg_shape (n : Nat) {t : TypeId} {v : Value} {d : DataW H} {ps : List MemPlace} {base : Nat} (hs : shapeOk P n t = true) (hval : Value.okWide P W .any base t v) (hd : DataW.Trod enc P W 0 (fun _ => true) true t v d ps) :
    ∃ x, VRel W G0 v x ∧ mk (isSt P t) x.cells = some x ∧ okA P n t x.cells := by
  obtain ⟨fuel, hf⟩ := hd
  obtain ⟨asx, p1, p2, p3, p4, p5, p6⟩ := trod_cells n hs hf
  cases hst : isSt P t with
  | true =>
    refine ⟨.agg asx, ?_, rfl, p2⟩
    unfold isSt at hst
    split at hst
    · rename_i fs hu
      simp only [Value.okWide, hu] at hval
      obtain ⟨cs, rfl, _⟩ := hval
      exact .agg _ _ p1.len p1.rel p3
    · simp at hst
  | false =>
    have hl := p6 hst
    match asx, hl with
    | [y], _ =>
      have hc : y.cells = [y] := by
        have := p3 y (by simp)
        cases y <;> simp [AVal.one] at this <;> rfl
      refine ⟨y, ?_, by rw [hc]; rfl, by rw [hc]; exact p2⟩
      have hv : v.cells = #[v] := by
        cases v <;> first | rfl | skip
        rename_i cs
        cases n with
        | zero => simp [shapeOk] at hs
        | succ n =>
          simp only [shapeOk] at hs
          split at hs
          all_goals first
            | (simp at hs; done)
            | (rename_i hu; simp [isSt, hu] at hst; done)
            | (rename_i hu; simp [Value.okWide, Cell.okWide, Cell.ok, hu] at hval; done)
      have hr := p1.rel 0 v y (by simp [hv]) rfl
      exact hr

end Go.Abs

/-
  From a run of the abstract machine on arguments of whatever shape to a row.
-/
set_option linter.unusedSimpArgs false
set_option linter.unusedVariables false
namespace Go.Abs
open Go.ChangeShapes Go.WideShapes Go.ChangeAt Go.RowKit Go.Deep

/-- Arguments that fit their types. -/
inductive ShArgs (P : Program) (n : Nat) : List TypeId → List AVal → Prop
  | nil : ShArgs P n [] []
  | cons {t : TypeId} {x : AVal} {ts : List TypeId} {xs : List AVal} (h1 : mk (isSt P t) x.cells = some x) (h2 : okA P n t x.cells) (h3 : ShArgs P n ts xs) : ShArgs P n (t :: ts) (x :: xs)

variable {P : Program} {H : Type} {enc : TypeId × Value → H} {W : World}

theorem pts_cons {v : Value} {vs : List Value} {x : AVal} {xs : List AVal} (h1 : VRel W G0 v x) (h2 : Pts W G0 ⟨vs⟩ xs) : Pts W G0 ⟨v :: vs⟩ (x :: xs) := by
  refine ⟨by have := h2.1; simpa using this, fun k c a hc ha => ?_⟩
  cases k with
  | zero => simp at hc ha; subst hc; subst ha; exact h1
  | succ k => exact h2.2 k c a (by simpa using hc) (by simpa using ha)

theorem sh_args {n base : Nat} : ∀ {ts : List TypeId} {vs : List Value} {ds : List (DataW H)} {p : List MemPlace}, (∀ t ∈ ts, shapeOk P n t = true) → (∀ (j : Nat) t v, ts[j]? = some t → vs[j]? = some v → Value.okWide P W .any base t v) →
    DataW.TrodAll enc P W 0 (fun _ => true) true ts vs ds p → ∃ xs, ShArgs P n ts xs ∧ Pts W G0 ⟨vs⟩ xs ∧ ds.length = ts.length
  | [], [], [], _, _, _, _ => ⟨[], .nil, ⟨rfl, fun k c a hc _ => by simp at hc⟩, rfl⟩
  | t :: ts, v :: vs, d :: ds, p, hs, hv, h => by
    obtain ⟨p0, q0, h1, h2, _⟩ := h
    obtain ⟨x, r1, r2, r3⟩ := arg_shape n (hs t (by simp)) (hv 0 t v rfl rfl) h1
    obtain ⟨xs, r4, r5, r6⟩ := sh_args (fun t' h' => hs t' (by simp [h'])) (fun j t' v' q1 q2 => hv (j + 1) t' v' (by simpa using q1) (by simpa using q2)) h2
    exact ⟨x :: xs, .cons r2 r3 r4, pts_cons r1 r5, by simp [r6]⟩
  | [], _ :: _, _, _, _, _, h => h.elim
  | [], [], _ :: _, _, _, _, h => h.elim
  | _ :: _, [], _, _, _, _, h => h.elim
  | _ :: _, _ :: _, [], _, _, _, h => h.elim

theorem law_callsA {F : Nat → Option AEnt} {Hh : Hints} (hmix : P.follows .mixedOrders = true) (hT : Table P Hh F) {g : Nat} {cargs : Array Value} {args : List AVal} (hp : Pts W G0 cargs args) {h' : Heap}
    (c : Gives F g args Heap.empty (.bool true) h') : Calls P g cargs W fun e W' => e = .returned (.bool true) ∧ Below W.heap.size W W' := by
  obtain ⟨n, hn⟩ := gives_run c
  refine (sound hmix hT hn W G0 cargs (hrel0 W) hp).mono ?_
  rintro e W' ⟨v, G', rfl, hX, hH, hV⟩
  cases hV with
  | bool =>
    refine ⟨rfl, hX.os, hX.tape, hX.out, hX.size, fun k hk => (hX.keep k hk ?_).1⟩
    rintro ⟨id, o, h1, _⟩
    rw [Heap.get_empty] at h1
    simp at h1

/-- What a row asks, from a run. -/
theorem row_calls {F : Nat → Option AEnt} {Hh : Hints} (hmix : P.follows .mixedOrders = true) (hT : Table P Hh F) (hl : laidOutB P = true) {g n : Nat} {f : Func} {ts : List TypeId} {tb : TypeId} {s : ChangeSpec}
    (hp : f.params.toList = ts) (hts : ∀ t ∈ ts, P.readableRec t = true ∧ t < P.types.size) (hsh : ∀ t ∈ ts, shapeOk P n t = true) (hr : f.resultTypes = #[tb]) (hb : P.underlying tb = some .bool) (hv : s.vars = [])
    (hs : ∀ (H : Type) (ds : List (DataW H)), ds.length = ts.length → s.fn H ds = { results := [.lit (.bool true)], args := ds })
    (hg : ∀ xs, ShArgs P n ts xs → ∃ h', Gives F g xs Heap.empty (.bool true) h')
    (base : Nat) (args : Array Value) (ds gs : List (DataW H)) (before : List MemPlace) (hval : ∀ (j : Nat) t v, f.params[j]? = some t → args[j]? = some v → Value.okWide P W .any base t v)
    (hW : DataW.Whole enc P f.params.toList s.vars false W args.toList ds gs before) :
    Calls P g args W fun e W' => ∃ v, e = .returned v ∧ s.post enc P f false true false false W args v W' := by
  have hW' := hW
  obtain ⟨p, q, hA, hV, hpq, hfz, hnd⟩ := hW
  rw [hp] at hA
  obtain ⟨lst⟩ := args
  obtain ⟨xs, r1, r2, r3⟩ := sh_args hsh (fun j t v q1 q2 => hval j t v (by rw [← hp] at q1; simpa using q1) (by simpa using q2)) hA
  obtain ⟨h', hh⟩ := hg xs r1
  refine (law_callsA hmix hT r2 hh).mono ?_
  rintro e W' ⟨rfl, hB⟩
  refine ⟨_, rfl, law_post hl (by rw [hp]; exact hts) hv hr hb hW' hB ?_⟩
  rw [hv] at hV
  match gs, hV with
  | [], _ => rw [List.append_nil]; exact hs H ds r3

end Go.Abs

/-
  The arguments of the disk's statements: operations, numbers, texts.
-/
set_option linter.unusedSimpArgs false
set_option linter.unusedVariables false
set_option linter.constructorNameAsVariable false
namespace Go.Proofs.Ytjofjgflcogklaa
open Go Go.Abs Go.ChangeShapes Go.WideShapes Go.ChangeAt Go.RowKit

def I64 (n : Int) : Prop := -9223372036854775808 ≤ n ∧ n < 9223372036854775808

/-- An operation of a script. -/
structure Op where
  kind : Int
  i : Int
  bit : Int
  text : List UInt8
  picks : List Int
  tk : Tok

def Op.cells (o : Op) : List AVal := [.int .i64 o.kind, .int .i64 o.i, .int .i64 o.bit, .str o.text, .sl (o.picks.map (.int .i64)) o.tk]
def Op.val (o : Op) : AVal := .agg o.cells

structure Op.ok (o : Op) : Prop where
  kind : I64 o.kind
  i : I64 o.i
  bit : I64 o.bit
  text : o.text.length ≤ 9223372036854775807
  picks : ∀ p ∈ o.picks, I64 p
  plen : o.picks.length ≤ 9223372036854775807
  tk : o.tk = .none ∨ o.tk = .nil ∧ o.picks = []

theorem own : ownKnob Try.prog.godebug = none := by kernel_rfl
theorem laidOut : laidOutB Try.prog = true := by kernel_rfl
theorem mixed : Try.prog.follows .mixedOrders = true := by kernel_rfl
theorem read3 : Try.prog.readableRec 3 = true ∧ 3 < Try.prog.types.size := ⟨by kernel_rfl, of_decide_eq_true (by kernel_rfl)⟩
theorem read9 : Try.prog.readableRec 9 = true ∧ 9 < Try.prog.types.size := ⟨by kernel_rfl, of_decide_eq_true (by kernel_rfl)⟩
theorem read22 : Try.prog.readableRec 22 = true ∧ 22 < Try.prog.types.size := ⟨by kernel_rfl, of_decide_eq_true (by kernel_rfl)⟩
theorem read31 : Try.prog.readableRec 31 = true ∧ 31 < Try.prog.types.size := ⟨by kernel_rfl, of_decide_eq_true (by kernel_rfl)⟩
theorem shape3 : shapeOk Try.prog 5 3 = true := by kernel_rfl
theorem shape9 : shapeOk Try.prog 5 9 = true := by kernel_rfl
theorem shape22 : shapeOk Try.prog 5 22 = true := by kernel_rfl
theorem shape31 : shapeOk Try.prog 5 31 = true := by kernel_rfl

theorem maxLen_eq : maxLen = 9223372036854775807 := by unfold maxLen; first | rfl | decide

attribute [local irreducible] okA

theorem mk_one {ag : Bool} {x c : AVal} (h : mk false x.cells = some x) (hc : x.cells = [c]) : x = c := by
  rw [hc] at h; simpa [mk] using h.symm

theorem arg3 {n : Nat} {x : AVal} (h1 : mk (isSt Try.prog 3) x.cells = some x) (h2 : okA Try.prog (n + 1) 3 x.cells) : ∃ z, x = .int .i64 z ∧ I64 z := by
  have hst : isSt Try.prog 3 = false := by kernel_rfl
  rw [hst] at h1
  rw [okA] at h2
  simp only [Try.underlying3] at h2
  obtain ⟨z, hz, hw⟩ := h2
  exact ⟨z, mk_one (ag := false) h1 hz, wf_i64 hw⟩

theorem arg9 {n : Nat} {x : AVal} (h1 : mk (isSt Try.prog 9) x.cells = some x) (h2 : okA Try.prog (n + 1) 9 x.cells) : ∃ s, x = .str s ∧ s.length ≤ 9223372036854775807 := by
  have hst : isSt Try.prog 9 = false := by kernel_rfl
  rw [hst] at h1
  rw [okA] at h2
  simp only [Try.underlying9] at h2
  obtain ⟨z, hz, hw⟩ := h2
  rw [maxLen_eq] at hw
  exact ⟨z, mk_one (ag := false) h1 hz, hw⟩

theorem list_of {α : Type} {p : AVal → Prop} {f : α → AVal} {q : α → Prop} (hp : ∀ x, p x → ∃ a, x = f a ∧ q a) : ∀ {xs : List AVal}, (∀ x ∈ xs, p x) → ∃ l : List α, xs = l.map f ∧ ∀ a ∈ l, q a
  | [], _ => ⟨[], rfl, by simp⟩
  | x :: xs, h => by
    obtain ⟨z, rfl, hz⟩ := hp x (h x (by simp))
    obtain ⟨l, rfl, hl⟩ := list_of hp (xs := xs) (fun y hy => h y (by simp [hy]))
    exact ⟨z :: l, rfl, fun p hp => by
      rcases List.mem_cons.1 hp with rfl | hp
      · exact hz
      · exact hl p hp⟩

theorem ints_of {n : Nat} {xs : List AVal} (h : ∀ x ∈ xs, mk (isSt Try.prog 3) x.cells = some x ∧ okA Try.prog (n + 1) 3 x.cells) : ∃ l : List Int, xs = l.map (.int .i64) ∧ ∀ p ∈ l, I64 p :=
  list_of (fun x hx => arg3 hx.1 hx.2) h

theorem arg31 {n : Nat} {x : AVal} (h1 : mk (isSt Try.prog 31) x.cells = some x) (h2 : okA Try.prog (n + 2) 31 x.cells) : ∃ (l : List Int) (tk : Tok), x = .sl (l.map (.int .i64)) tk ∧ (∀ p ∈ l, I64 p) ∧ l.length ≤ 9223372036854775807 ∧ (tk = .none ∨ tk = .nil ∧ l = []) := by
  have hst : isSt Try.prog 31 = false := by kernel_rfl
  rw [hst] at h1
  rw [okA] at h2
  simp only [Try.underlying31] at h2
  obtain ⟨xs, tk, hx, htk, hlen, hall⟩ := h2
  rw [maxLen_eq] at hlen
  obtain ⟨l, rfl, hl⟩ := ints_of hall
  refine ⟨l, tk, mk_one (ag := false) h1 hx, hl, by simpa using hlen, ?_⟩
  rcases htk with rfl | ⟨rfl, h⟩
  · exact .inl rfl
  · exact .inr ⟨rfl, by simpa using h⟩

theorem arg33 {n : Nat} {x : AVal} (h1 : mk (isSt Try.prog 33) x.cells = some x) (h2 : okA Try.prog (n + 3) 33 x.cells) : ∃ o : Op, x = o.val ∧ o.ok := by
  have hst : isSt Try.prog 33 = true := by kernel_rfl
  rw [hst] at h1
  rw [okA] at h2
  simp only [Try.underlying33] at h2
  obtain ⟨hlen, hf⟩ := h2
  have hx : x = .agg x.cells := by simpa [mk] using h1.symm
  obtain ⟨y0, e0, q0⟩ := hf 0 _ rfl
  obtain ⟨y1, e1, q1⟩ := hf 1 _ rfl
  obtain ⟨y2, e2, q2⟩ := hf 2 _ rfl
  obtain ⟨y3, e3, q3⟩ := hf 3 _ rfl
  obtain ⟨y4, e4, q4⟩ := hf 4 _ rfl
  have hl : x.cells = [y0, y1, y2, y3, y4] := by
    generalize x.cells = l at hlen e0 e1 e2 e3 e4
    match l, hlen with
    | [a, b, c, d, e], _ => simp at e0 e1 e2 e3 e4; subst e0; subst e1; subst e2; subst e3; subst e4; rfl
  replace q0 : okA Try.prog (n + 2) 3 [y0] := q0
  replace q1 : okA Try.prog (n + 2) 3 [y1] := q1
  replace q2 : okA Try.prog (n + 2) 3 [y2] := q2
  replace q3 : okA Try.prog (n + 2) 9 [y3] := q3
  replace q4 : okA Try.prog (n + 2) 31 [y4] := q4
  rw [okA] at q0 q1 q2 q3 q4
  simp only [Try.underlying3] at q0 q1 q2
  simp only [Try.underlying9] at q3
  simp only [Try.underlying31] at q4
  obtain ⟨z0, h0, w0⟩ := q0
  obtain ⟨z1, h1', w1⟩ := q1
  obtain ⟨z2, h2', w2⟩ := q2
  obtain ⟨s, h3, w3⟩ := q3
  obtain ⟨xs, tk, h4, htk, hln, hall⟩ := q4
  rw [maxLen_eq] at w3 hln
  obtain ⟨l, rfl, hl'⟩ := ints_of hall
  simp at h0 h1' h2' h3 h4
  subst h0; subst h1'; subst h2'; subst h3; subst h4
  refine ⟨⟨z0, z1, z2, s, l, tk⟩, by rw [hx, hl]; rfl, wf_i64 w0, wf_i64 w1, wf_i64 w2, w3, hl', by simpa using hln, ?_⟩
  rcases htk with rfl | ⟨rfl, h⟩
  · exact .inl rfl
  · exact .inr ⟨rfl, by simpa using h⟩

theorem ops_of {n : Nat} {xs : List AVal} (h : ∀ x ∈ xs, mk (isSt Try.prog 33) x.cells = some x ∧ okA Try.prog (n + 3) 33 x.cells) : ∃ l : List Op, xs = l.map Op.val ∧ ∀ o ∈ l, o.ok :=
  list_of (fun x hx => arg33 hx.1 hx.2) h

/-- A script and how it comes. -/
structure Script (ops : List Op) (tk : Tok) : Prop where
  ok : ∀ o ∈ ops, o.ok
  len : ops.length ≤ 9223372036854775807
  tk : tk = .none ∨ tk = .nil ∧ ops = []

theorem arg22 {n : Nat} {x : AVal} (h1 : mk (isSt Try.prog 22) x.cells = some x) (h2 : okA Try.prog (n + 4) 22 x.cells) : ∃ (l : List Op) (tk : Tok), x = .sl (l.map Op.val) tk ∧ Script l tk := by
  have hst : isSt Try.prog 22 = false := by kernel_rfl
  rw [hst] at h1
  rw [okA] at h2
  simp only [Try.underlying22] at h2
  obtain ⟨xs, tk, hx, htk, hlen, hall⟩ := h2
  rw [maxLen_eq] at hlen
  obtain ⟨l, rfl, hl⟩ := ops_of hall
  refine ⟨l, tk, mk_one (ag := false) h1 hx, hl, by simpa using hlen, ?_⟩
  rcases htk with rfl | ⟨rfl, h⟩
  · exact .inl rfl
  · exact .inr ⟨rfl, by simpa using h⟩
end Go.Proofs.Ytjofjgflcogklaa

/-
  The pure helpers: Text, SameTexts, SameInts, full.
-/
set_option linter.unusedSimpArgs false
set_option linter.unusedVariables false
set_option maxHeartbeats 4000000
namespace Go.Proofs.Ytjofjgflcogklaa
open Go Go.Abs

/-- The sector that an operation writes. -/
def fillT : Nat → List UInt8 → List UInt8
  | 0, t => t
  | n + 1, t => fillT n (t ++ t.drop (t.length - 1))
def textT (t : List UInt8) : List UInt8 := if 0 < t.length ∧ t.length < 64 then fillT (64 - t.length) t else t

theorem textT_step {t : List UInt8} (h0 : 0 < t.length) (h1 : t.length < 64) : textT (t ++ t.drop (t.length - 1)) = textT t := by
  have hl : (t ++ t.drop (t.length - 1)).length = t.length + 1 := by simp; omega
  have e1 : textT t = fillT (64 - t.length) t := if_pos ⟨h0, h1⟩
  obtain ⟨n, hn⟩ : ∃ n, 64 - t.length = n + 1 := ⟨64 - t.length - 1, by omega⟩
  rw [e1, hn]
  by_cases h : t.length + 1 < 64
  · rw [show textT (t ++ t.drop (t.length - 1)) = fillT (64 - (t.length + 1)) (t ++ t.drop (t.length - 1)) by unfold textT; rw [hl, if_pos ⟨by omega, h⟩], show 64 - (t.length + 1) = n by omega]; rfl
  · have hn0 : n = 0 := by omega
    subst hn0
    rw [show textT (t ++ t.drop (t.length - 1)) = t ++ t.drop (t.length - 1) by unfold textT; rw [hl, if_neg (by omega)]]; rfl
theorem textT_done {t : List UInt8} (h : ¬ (0 < t.length ∧ t.length < 64)) : textT t = t := if_neg h

theorem text_v (o : Op) (h : o.ok) : PV F 24 [o.val] = some (.str (textT o.text)) := by
  have htl := h.text
  refine PV_wp (fn := c24) rfl ?_
  dsimp only [c24, Op.val, Op.cells]
  try simp (maxSteps := 4000000) (disch := first | assumption | omega | (simp only [push_next, put_next, empty_next, List.length_cons, List.length_nil] <;> omega) | exact _root_.id rfl | exact _root_.id (fun _ => rfl) | fail) only [↓pre, post, Int.reduceEq, Int.reduceLT, Int.reduceLE, Int.reduceAdd, Int.reduceSub, Int.reduceMul, Int.reduceNeg, Nat.reduceLT, Nat.reduceSub, Nat.reduceMul, Nat.reduceAdd, Nat.reduceLeDiff, reduceIte, reduceCtorEq, Nat.reduceEqDiff]
  repeat' (first
    | (refine ifP_pos (by first | assumption | omega) ?_ <;> try simp (maxSteps := 4000000) (disch := first | assumption | omega | (simp only [push_next, put_next, empty_next, List.length_cons, List.length_nil] <;> omega) | exact _root_.id rfl | exact _root_.id (fun _ => rfl) | fail) only [↓pre, post, Int.reduceEq, Int.reduceLT, Int.reduceLE, Int.reduceAdd, Int.reduceSub, Int.reduceMul, Int.reduceNeg, Nat.reduceLT, Nat.reduceSub, Nat.reduceMul, Nat.reduceAdd, Nat.reduceLeDiff, reduceIte, reduceCtorEq, Nat.reduceEqDiff])
    | (refine ifP_neg (by first | assumption | omega) ?_ <;> try simp (maxSteps := 4000000) (disch := first | assumption | omega | (simp only [push_next, put_next, empty_next, List.length_cons, List.length_nil] <;> omega) | exact _root_.id rfl | exact _root_.id (fun _ => rfl) | fail) only [↓pre, post, Int.reduceEq, Int.reduceLT, Int.reduceLE, Int.reduceAdd, Int.reduceSub, Int.reduceMul, Int.reduceNeg, Nat.reduceLT, Nat.reduceSub, Nat.reduceMul, Nat.reduceAdd, Nat.reduceLeDiff, reduceIte, reduceCtorEq, Nat.reduceEqDiff])
    | (refine ifP_intro (fun hyp => ?_) (fun hyp => ?_) <;> first | simp (maxSteps := 4000000) (disch := first | assumption | omega | (simp only [push_next, put_next, empty_next, List.length_cons, List.length_nil] <;> omega) | exact _root_.id rfl | exact _root_.id (fun _ => rfl) | fail) only [↓pre, post, Int.reduceEq, Int.reduceLT, Int.reduceLE, Int.reduceAdd, Int.reduceSub, Int.reduceMul, Int.reduceNeg, Nat.reduceLT, Nat.reduceSub, Nat.reduceMul, Nat.reduceAdd, Nat.reduceLeDiff, reduceIte, reduceCtorEq, Nat.reduceEqDiff, eq_false hyp] | simp (maxSteps := 4000000) (disch := first | assumption | omega | (simp only [push_next, put_next, empty_next, List.length_cons, List.length_nil] <;> omega) | exact _root_.id rfl | exact _root_.id (fun _ => rfl) | fail) only [↓pre, post, Int.reduceEq, Int.reduceLT, Int.reduceLE, Int.reduceAdd, Int.reduceSub, Int.reduceMul, Int.reduceNeg, Nat.reduceLT, Nat.reduceSub, Nat.reduceMul, Nat.reduceAdd, Nat.reduceLeDiff, reduceIte, reduceCtorEq, Nat.reduceEqDiff, eq_true hyp] | skip))
  refine w_loop (fun m vs h3 => ∃ (t : List UInt8) (x1 x2 x3 : AVal), m = 64 - t.length ∧ t.length ≤ 9223372036854775807 ∧ textT t = textT o.text ∧ vs = [x1, .ptr 0 0, x2, .str t, x3]) (64 - o.text.length)
    ⟨o.text, _, _, _, rfl, htl, rfl, rfl⟩ ?_
  rintro m vs h3 ⟨t, x1, x2, x3, rfl, htl', hT, rfl⟩
  by_cases hc : 0 < t.length ∧ t.length < 64
  · have q1 := ss_drop t .i64 ((t.length : Int) - 1) (by omega) (by omega)
    have e1 : ((t.length : Int) - 1).toNat = t.length - 1 := by omega
    rw [e1] at q1
    have q2 := bin_add_s t (t.drop (t.length - 1)) (by simp; omega)
    try simp (maxSteps := 4000000) (disch := first | assumption | omega | (simp only [push_next, put_next, empty_next, List.length_cons, List.length_nil] <;> omega) | exact _root_.id rfl | exact _root_.id (fun _ => rfl) | fail) only [↓pre, post, Int.reduceEq, Int.reduceLT, Int.reduceLE, Int.reduceAdd, Int.reduceSub, Int.reduceMul, Int.reduceNeg, Nat.reduceLT, Nat.reduceSub, Nat.reduceMul, Nat.reduceAdd, Nat.reduceLeDiff, reduceIte, reduceCtorEq, Nat.reduceEqDiff, q1, q2]
    repeat' (first
      | (refine ifP_pos (by first | assumption | omega) ?_ <;> try simp (maxSteps := 4000000) (disch := first | assumption | omega | (simp only [push_next, put_next, empty_next, List.length_cons, List.length_nil] <;> omega) | exact _root_.id rfl | exact _root_.id (fun _ => rfl) | fail) only [↓pre, post, Int.reduceEq, Int.reduceLT, Int.reduceLE, Int.reduceAdd, Int.reduceSub, Int.reduceMul, Int.reduceNeg, Nat.reduceLT, Nat.reduceSub, Nat.reduceMul, Nat.reduceAdd, Nat.reduceLeDiff, reduceIte, reduceCtorEq, Nat.reduceEqDiff, q1, q2])
      | (refine ifP_neg (by first | assumption | omega) ?_ <;> try simp (maxSteps := 4000000) (disch := first | assumption | omega | (simp only [push_next, put_next, empty_next, List.length_cons, List.length_nil] <;> omega) | exact _root_.id rfl | exact _root_.id (fun _ => rfl) | fail) only [↓pre, post, Int.reduceEq, Int.reduceLT, Int.reduceLE, Int.reduceAdd, Int.reduceSub, Int.reduceMul, Int.reduceNeg, Nat.reduceLT, Nat.reduceSub, Nat.reduceMul, Nat.reduceAdd, Nat.reduceLeDiff, reduceIte, reduceCtorEq, Nat.reduceEqDiff, q1, q2])
      | (refine ifP_intro (fun hyp => ?_) (fun hyp => ?_) <;> first | simp (maxSteps := 4000000) (disch := first | assumption | omega | (simp only [push_next, put_next, empty_next, List.length_cons, List.length_nil] <;> omega) | exact _root_.id rfl | exact _root_.id (fun _ => rfl) | fail) only [↓pre, post, Int.reduceEq, Int.reduceLT, Int.reduceLE, Int.reduceAdd, Int.reduceSub, Int.reduceMul, Int.reduceNeg, Nat.reduceLT, Nat.reduceSub, Nat.reduceMul, Nat.reduceAdd, Nat.reduceLeDiff, reduceIte, reduceCtorEq, Nat.reduceEqDiff, q1, q2, eq_false hyp] | simp (maxSteps := 4000000) (disch := first | assumption | omega | (simp only [push_next, put_next, empty_next, List.length_cons, List.length_nil] <;> omega) | exact _root_.id rfl | exact _root_.id (fun _ => rfl) | fail) only [↓pre, post, Int.reduceEq, Int.reduceLT, Int.reduceLE, Int.reduceAdd, Int.reduceSub, Int.reduceMul, Int.reduceNeg, Nat.reduceLT, Nat.reduceSub, Nat.reduceMul, Nat.reduceAdd, Nat.reduceLeDiff, reduceIte, reduceCtorEq, Nat.reduceEqDiff, q1, q2, eq_true hyp] | skip))
    exact lp_n ⟨64 - (t.length + 1), by omega, _, _, _, _, by simp; omega, by simp; omega, by rw [textT_step hc.1 hc.2]; exact hT, rfl⟩
  · rw [← hT, textT_done hc]
    by_cases h0 : 0 < t.length
    · try simp (maxSteps := 4000000) (disch := first | assumption | omega | (simp only [push_next, put_next, empty_next, List.length_cons, List.length_nil] <;> omega) | exact _root_.id rfl | exact _root_.id (fun _ => rfl) | fail) only [↓pre, post, Int.reduceEq, Int.reduceLT, Int.reduceLE, Int.reduceAdd, Int.reduceSub, Int.reduceMul, Int.reduceNeg, Nat.reduceLT, Nat.reduceSub, Nat.reduceMul, Nat.reduceAdd, Nat.reduceLeDiff, reduceIte, reduceCtorEq, Nat.reduceEqDiff]
      repeat' (first
        | (refine ifP_pos (by first | assumption | omega) ?_ <;> try simp (maxSteps := 4000000) (disch := first | assumption | omega | (simp only [push_next, put_next, empty_next, List.length_cons, List.length_nil] <;> omega) | exact _root_.id rfl | exact _root_.id (fun _ => rfl) | fail) only [↓pre, post, Int.reduceEq, Int.reduceLT, Int.reduceLE, Int.reduceAdd, Int.reduceSub, Int.reduceMul, Int.reduceNeg, Nat.reduceLT, Nat.reduceSub, Nat.reduceMul, Nat.reduceAdd, Nat.reduceLeDiff, reduceIte, reduceCtorEq, Nat.reduceEqDiff])
        | (refine ifP_neg (by first | assumption | omega) ?_ <;> try simp (maxSteps := 4000000) (disch := first | assumption | omega | (simp only [push_next, put_next, empty_next, List.length_cons, List.length_nil] <;> omega) | exact _root_.id rfl | exact _root_.id (fun _ => rfl) | fail) only [↓pre, post, Int.reduceEq, Int.reduceLT, Int.reduceLE, Int.reduceAdd, Int.reduceSub, Int.reduceMul, Int.reduceNeg, Nat.reduceLT, Nat.reduceSub, Nat.reduceMul, Nat.reduceAdd, Nat.reduceLeDiff, reduceIte, reduceCtorEq, Nat.reduceEqDiff])
        | (refine ifP_intro (fun hyp => ?_) (fun hyp => ?_) <;> first | simp (maxSteps := 4000000) (disch := first | assumption | omega | (simp only [push_next, put_next, empty_next, List.length_cons, List.length_nil] <;> omega) | exact _root_.id rfl | exact _root_.id (fun _ => rfl) | fail) only [↓pre, post, Int.reduceEq, Int.reduceLT, Int.reduceLE, Int.reduceAdd, Int.reduceSub, Int.reduceMul, Int.reduceNeg, Nat.reduceLT, Nat.reduceSub, Nat.reduceMul, Nat.reduceAdd, Nat.reduceLeDiff, reduceIte, reduceCtorEq, Nat.reduceEqDiff, eq_false hyp] | simp (maxSteps := 4000000) (disch := first | assumption | omega | (simp only [push_next, put_next, empty_next, List.length_cons, List.length_nil] <;> omega) | exact _root_.id rfl | exact _root_.id (fun _ => rfl) | fail) only [↓pre, post, Int.reduceEq, Int.reduceLT, Int.reduceLE, Int.reduceAdd, Int.reduceSub, Int.reduceMul, Int.reduceNeg, Nat.reduceLT, Nat.reduceSub, Nat.reduceMul, Nat.reduceAdd, Nat.reduceLeDiff, reduceIte, reduceCtorEq, Nat.reduceEqDiff, eq_true hyp] | skip))
    · try simp (maxSteps := 4000000) (disch := first | assumption | omega | (simp only [push_next, put_next, empty_next, List.length_cons, List.length_nil] <;> omega) | exact _root_.id rfl | exact _root_.id (fun _ => rfl) | fail) only [↓pre, post, Int.reduceEq, Int.reduceLT, Int.reduceLE, Int.reduceAdd, Int.reduceSub, Int.reduceMul, Int.reduceNeg, Nat.reduceLT, Nat.reduceSub, Nat.reduceMul, Nat.reduceAdd, Nat.reduceLeDiff, reduceIte, reduceCtorEq, Nat.reduceEqDiff]
      repeat' (first
        | (refine ifP_pos (by first | assumption | omega) ?_ <;> try simp (maxSteps := 4000000) (disch := first | assumption | omega | (simp only [push_next, put_next, empty_next, List.length_cons, List.length_nil] <;> omega) | exact _root_.id rfl | exact _root_.id (fun _ => rfl) | fail) only [↓pre, post, Int.reduceEq, Int.reduceLT, Int.reduceLE, Int.reduceAdd, Int.reduceSub, Int.reduceMul, Int.reduceNeg, Nat.reduceLT, Nat.reduceSub, Nat.reduceMul, Nat.reduceAdd, Nat.reduceLeDiff, reduceIte, reduceCtorEq, Nat.reduceEqDiff])
        | (refine ifP_neg (by first | assumption | omega) ?_ <;> try simp (maxSteps := 4000000) (disch := first | assumption | omega | (simp only [push_next, put_next, empty_next, List.length_cons, List.length_nil] <;> omega) | exact _root_.id rfl | exact _root_.id (fun _ => rfl) | fail) only [↓pre, post, Int.reduceEq, Int.reduceLT, Int.reduceLE, Int.reduceAdd, Int.reduceSub, Int.reduceMul, Int.reduceNeg, Nat.reduceLT, Nat.reduceSub, Nat.reduceMul, Nat.reduceAdd, Nat.reduceLeDiff, reduceIte, reduceCtorEq, Nat.reduceEqDiff])
        | (refine ifP_intro (fun hyp => ?_) (fun hyp => ?_) <;> first | simp (maxSteps := 4000000) (disch := first | assumption | omega | (simp only [push_next, put_next, empty_next, List.length_cons, List.length_nil] <;> omega) | exact _root_.id rfl | exact _root_.id (fun _ => rfl) | fail) only [↓pre, post, Int.reduceEq, Int.reduceLT, Int.reduceLE, Int.reduceAdd, Int.reduceSub, Int.reduceMul, Int.reduceNeg, Nat.reduceLT, Nat.reduceSub, Nat.reduceMul, Nat.reduceAdd, Nat.reduceLeDiff, reduceIte, reduceCtorEq, Nat.reduceEqDiff, eq_false hyp] | simp (maxSteps := 4000000) (disch := first | assumption | omega | (simp only [push_next, put_next, empty_next, List.length_cons, List.length_nil] <;> omega) | exact _root_.id rfl | exact _root_.id (fun _ => rfl) | fail) only [↓pre, post, Int.reduceEq, Int.reduceLT, Int.reduceLE, Int.reduceAdd, Int.reduceSub, Int.reduceMul, Int.reduceNeg, Nat.reduceLT, Nat.reduceSub, Nat.reduceMul, Nat.reduceAdd, Nat.reduceLeDiff, reduceIte, reduceCtorEq, Nat.reduceEqDiff, eq_true hyp] | skip))

theorem same_upto {α : Type} [Inhabited α] [DecidableEq α] {xs ys : List α} {i : Nat} (hl : xs.length = ys.length) (hi : i < xs.length) (h : xs.take i = ys.take i) (he : nth xs i = nth ys i) : xs.take (i + 1) = ys.take (i + 1) := by
  rw [take_succ_nth _ hi, take_succ_nth _ (by omega), h, he]

theorem sameTexts_v (xs ys : List (List UInt8)) (t t' : Tok) (hl : xs.length ≤ 1000000) : PV F 21 [.sl (xs.map strV) t, .sl (ys.map strV) t'] = some (.bool (decide (xs = ys))) := by
  refine PV_wp (fn := c21) rfl ?_
  dsimp only [c21]
  by_cases hne : xs.length = ys.length
  · try simp (maxSteps := 4000000) (disch := first | assumption | omega | (simp only [push_next, put_next, empty_next, List.length_cons, List.length_nil] <;> omega) | exact _root_.id rfl | exact _root_.id (fun _ => rfl) | fail) only [↓pre, post, Int.reduceEq, Int.reduceLT, Int.reduceLE, Int.reduceAdd, Int.reduceSub, Int.reduceMul, Int.reduceNeg, Nat.reduceLT, Nat.reduceSub, Nat.reduceMul, Nat.reduceAdd, Nat.reduceLeDiff, reduceIte, reduceCtorEq, Nat.reduceEqDiff]
    repeat' (first
      | (refine ifP_pos (by first | assumption | omega) ?_ <;> try simp (maxSteps := 4000000) (disch := first | assumption | omega | (simp only [push_next, put_next, empty_next, List.length_cons, List.length_nil] <;> omega) | exact _root_.id rfl | exact _root_.id (fun _ => rfl) | fail) only [↓pre, post, Int.reduceEq, Int.reduceLT, Int.reduceLE, Int.reduceAdd, Int.reduceSub, Int.reduceMul, Int.reduceNeg, Nat.reduceLT, Nat.reduceSub, Nat.reduceMul, Nat.reduceAdd, Nat.reduceLeDiff, reduceIte, reduceCtorEq, Nat.reduceEqDiff])
      | (refine ifP_neg (by first | assumption | omega) ?_ <;> try simp (maxSteps := 4000000) (disch := first | assumption | omega | (simp only [push_next, put_next, empty_next, List.length_cons, List.length_nil] <;> omega) | exact _root_.id rfl | exact _root_.id (fun _ => rfl) | fail) only [↓pre, post, Int.reduceEq, Int.reduceLT, Int.reduceLE, Int.reduceAdd, Int.reduceSub, Int.reduceMul, Int.reduceNeg, Nat.reduceLT, Nat.reduceSub, Nat.reduceMul, Nat.reduceAdd, Nat.reduceLeDiff, reduceIte, reduceCtorEq, Nat.reduceEqDiff])
      | (refine ifP_intro (fun hyp => ?_) (fun hyp => ?_) <;> first | simp (maxSteps := 4000000) (disch := first | assumption | omega | (simp only [push_next, put_next, empty_next, List.length_cons, List.length_nil] <;> omega) | exact _root_.id rfl | exact _root_.id (fun _ => rfl) | fail) only [↓pre, post, Int.reduceEq, Int.reduceLT, Int.reduceLE, Int.reduceAdd, Int.reduceSub, Int.reduceMul, Int.reduceNeg, Nat.reduceLT, Nat.reduceSub, Nat.reduceMul, Nat.reduceAdd, Nat.reduceLeDiff, reduceIte, reduceCtorEq, Nat.reduceEqDiff, eq_false hyp] | simp (maxSteps := 4000000) (disch := first | assumption | omega | (simp only [push_next, put_next, empty_next, List.length_cons, List.length_nil] <;> omega) | exact _root_.id rfl | exact _root_.id (fun _ => rfl) | fail) only [↓pre, post, Int.reduceEq, Int.reduceLT, Int.reduceLE, Int.reduceAdd, Int.reduceSub, Int.reduceMul, Int.reduceNeg, Nat.reduceLT, Nat.reduceSub, Nat.reduceMul, Nat.reduceAdd, Nat.reduceLeDiff, reduceIte, reduceCtorEq, Nat.reduceEqDiff, eq_true hyp] | skip))
    refine w_loop (fun m vs h3 => ∃ (i : Nat) (x1 x2 x3 x4 : AVal), m = xs.length - i ∧ i ≤ xs.length ∧ xs.take i = ys.take i ∧ vs = [.sl (xs.map strV) t, .sl (ys.map strV) t', x1, .int .i64 (i : Int), x2, x3, x4]) xs.length
      ⟨0, _, _, _, _, by omega, by omega, rfl, rfl⟩ ?_
    rintro m vs h3 ⟨i, x1, x2, x3, x4, rfl, hi, hS, rfl⟩
    by_cases hil : i < xs.length
    · by_cases he : nth xs i = nth ys i
      · try simp (maxSteps := 4000000) (disch := first | assumption | omega | (simp only [push_next, put_next, empty_next, List.length_cons, List.length_nil] <;> omega) | exact _root_.id rfl | exact _root_.id (fun _ => rfl) | fail) only [↓pre, post, Int.reduceEq, Int.reduceLT, Int.reduceLE, Int.reduceAdd, Int.reduceSub, Int.reduceMul, Int.reduceNeg, Nat.reduceLT, Nat.reduceSub, Nat.reduceMul, Nat.reduceAdd, Nat.reduceLeDiff, reduceIte, reduceCtorEq, Nat.reduceEqDiff, strV, he]
        repeat' (first
          | (refine ifP_pos (by first | assumption | omega) ?_ <;> try simp (maxSteps := 4000000) (disch := first | assumption | omega | (simp only [push_next, put_next, empty_next, List.length_cons, List.length_nil] <;> omega) | exact _root_.id rfl | exact _root_.id (fun _ => rfl) | fail) only [↓pre, post, Int.reduceEq, Int.reduceLT, Int.reduceLE, Int.reduceAdd, Int.reduceSub, Int.reduceMul, Int.reduceNeg, Nat.reduceLT, Nat.reduceSub, Nat.reduceMul, Nat.reduceAdd, Nat.reduceLeDiff, reduceIte, reduceCtorEq, Nat.reduceEqDiff, strV, he])
          | (refine ifP_neg (by first | assumption | omega) ?_ <;> try simp (maxSteps := 4000000) (disch := first | assumption | omega | (simp only [push_next, put_next, empty_next, List.length_cons, List.length_nil] <;> omega) | exact _root_.id rfl | exact _root_.id (fun _ => rfl) | fail) only [↓pre, post, Int.reduceEq, Int.reduceLT, Int.reduceLE, Int.reduceAdd, Int.reduceSub, Int.reduceMul, Int.reduceNeg, Nat.reduceLT, Nat.reduceSub, Nat.reduceMul, Nat.reduceAdd, Nat.reduceLeDiff, reduceIte, reduceCtorEq, Nat.reduceEqDiff, strV, he])
          | (refine ifP_intro (fun hyp => ?_) (fun hyp => ?_) <;> first | simp (maxSteps := 4000000) (disch := first | assumption | omega | (simp only [push_next, put_next, empty_next, List.length_cons, List.length_nil] <;> omega) | exact _root_.id rfl | exact _root_.id (fun _ => rfl) | fail) only [↓pre, post, Int.reduceEq, Int.reduceLT, Int.reduceLE, Int.reduceAdd, Int.reduceSub, Int.reduceMul, Int.reduceNeg, Nat.reduceLT, Nat.reduceSub, Nat.reduceMul, Nat.reduceAdd, Nat.reduceLeDiff, reduceIte, reduceCtorEq, Nat.reduceEqDiff, strV, he, eq_false hyp] | simp (maxSteps := 4000000) (disch := first | assumption | omega | (simp only [push_next, put_next, empty_next, List.length_cons, List.length_nil] <;> omega) | exact _root_.id rfl | exact _root_.id (fun _ => rfl) | fail) only [↓pre, post, Int.reduceEq, Int.reduceLT, Int.reduceLE, Int.reduceAdd, Int.reduceSub, Int.reduceMul, Int.reduceNeg, Nat.reduceLT, Nat.reduceSub, Nat.reduceMul, Nat.reduceAdd, Nat.reduceLeDiff, reduceIte, reduceCtorEq, Nat.reduceEqDiff, strV, he, eq_true hyp] | skip))
        exact lp_n ⟨_, by omega, i + 1, _, _, _, _, rfl, by omega, same_upto hne hil hS he, by push_cast; rfl⟩
      · try simp (maxSteps := 4000000) (disch := first | assumption | omega | (simp only [push_next, put_next, empty_next, List.length_cons, List.length_nil] <;> omega) | exact _root_.id rfl | exact _root_.id (fun _ => rfl) | fail) only [↓pre, post, Int.reduceEq, Int.reduceLT, Int.reduceLE, Int.reduceAdd, Int.reduceSub, Int.reduceMul, Int.reduceNeg, Nat.reduceLT, Nat.reduceSub, Nat.reduceMul, Nat.reduceAdd, Nat.reduceLeDiff, reduceIte, reduceCtorEq, Nat.reduceEqDiff, strV, he]
        repeat' (first
          | (refine ifP_pos (by first | assumption | omega) ?_ <;> try simp (maxSteps := 4000000) (disch := first | assumption | omega | (simp only [push_next, put_next, empty_next, List.length_cons, List.length_nil] <;> omega) | exact _root_.id rfl | exact _root_.id (fun _ => rfl) | fail) only [↓pre, post, Int.reduceEq, Int.reduceLT, Int.reduceLE, Int.reduceAdd, Int.reduceSub, Int.reduceMul, Int.reduceNeg, Nat.reduceLT, Nat.reduceSub, Nat.reduceMul, Nat.reduceAdd, Nat.reduceLeDiff, reduceIte, reduceCtorEq, Nat.reduceEqDiff, strV, he])
          | (refine ifP_neg (by first | assumption | omega) ?_ <;> try simp (maxSteps := 4000000) (disch := first | assumption | omega | (simp only [push_next, put_next, empty_next, List.length_cons, List.length_nil] <;> omega) | exact _root_.id rfl | exact _root_.id (fun _ => rfl) | fail) only [↓pre, post, Int.reduceEq, Int.reduceLT, Int.reduceLE, Int.reduceAdd, Int.reduceSub, Int.reduceMul, Int.reduceNeg, Nat.reduceLT, Nat.reduceSub, Nat.reduceMul, Nat.reduceAdd, Nat.reduceLeDiff, reduceIte, reduceCtorEq, Nat.reduceEqDiff, strV, he])
          | (refine ifP_intro (fun hyp => ?_) (fun hyp => ?_) <;> first | simp (maxSteps := 4000000) (disch := first | assumption | omega | (simp only [push_next, put_next, empty_next, List.length_cons, List.length_nil] <;> omega) | exact _root_.id rfl | exact _root_.id (fun _ => rfl) | fail) only [↓pre, post, Int.reduceEq, Int.reduceLT, Int.reduceLE, Int.reduceAdd, Int.reduceSub, Int.reduceMul, Int.reduceNeg, Nat.reduceLT, Nat.reduceSub, Nat.reduceMul, Nat.reduceAdd, Nat.reduceLeDiff, reduceIte, reduceCtorEq, Nat.reduceEqDiff, strV, he, eq_false hyp] | simp (maxSteps := 4000000) (disch := first | assumption | omega | (simp only [push_next, put_next, empty_next, List.length_cons, List.length_nil] <;> omega) | exact _root_.id rfl | exact _root_.id (fun _ => rfl) | fail) only [↓pre, post, Int.reduceEq, Int.reduceLT, Int.reduceLE, Int.reduceAdd, Int.reduceSub, Int.reduceMul, Int.reduceNeg, Nat.reduceLT, Nat.reduceSub, Nat.reduceMul, Nat.reduceAdd, Nat.reduceLeDiff, reduceIte, reduceCtorEq, Nat.reduceEqDiff, strV, he, eq_true hyp] | skip))
        have : ¬ xs = ys := fun e => he (by rw [e])
        simp [this]
    · have : xs = ys := by
        rw [List.take_of_length_le (by omega), List.take_of_length_le (by omega)] at hS
        exact hS
      try simp (maxSteps := 4000000) (disch := first | assumption | omega | (simp only [push_next, put_next, empty_next, List.length_cons, List.length_nil] <;> omega) | exact _root_.id rfl | exact _root_.id (fun _ => rfl) | fail) only [↓pre, post, Int.reduceEq, Int.reduceLT, Int.reduceLE, Int.reduceAdd, Int.reduceSub, Int.reduceMul, Int.reduceNeg, Nat.reduceLT, Nat.reduceSub, Nat.reduceMul, Nat.reduceAdd, Nat.reduceLeDiff, reduceIte, reduceCtorEq, Nat.reduceEqDiff]
      repeat' (first
        | (refine ifP_pos (by first | assumption | omega) ?_ <;> try simp (maxSteps := 4000000) (disch := first | assumption | omega | (simp only [push_next, put_next, empty_next, List.length_cons, List.length_nil] <;> omega) | exact _root_.id rfl | exact _root_.id (fun _ => rfl) | fail) only [↓pre, post, Int.reduceEq, Int.reduceLT, Int.reduceLE, Int.reduceAdd, Int.reduceSub, Int.reduceMul, Int.reduceNeg, Nat.reduceLT, Nat.reduceSub, Nat.reduceMul, Nat.reduceAdd, Nat.reduceLeDiff, reduceIte, reduceCtorEq, Nat.reduceEqDiff])
        | (refine ifP_neg (by first | assumption | omega) ?_ <;> try simp (maxSteps := 4000000) (disch := first | assumption | omega | (simp only [push_next, put_next, empty_next, List.length_cons, List.length_nil] <;> omega) | exact _root_.id rfl | exact _root_.id (fun _ => rfl) | fail) only [↓pre, post, Int.reduceEq, Int.reduceLT, Int.reduceLE, Int.reduceAdd, Int.reduceSub, Int.reduceMul, Int.reduceNeg, Nat.reduceLT, Nat.reduceSub, Nat.reduceMul, Nat.reduceAdd, Nat.reduceLeDiff, reduceIte, reduceCtorEq, Nat.reduceEqDiff])
        | (refine ifP_intro (fun hyp => ?_) (fun hyp => ?_) <;> first | simp (maxSteps := 4000000) (disch := first | assumption | omega | (simp only [push_next, put_next, empty_next, List.length_cons, List.length_nil] <;> omega) | exact _root_.id rfl | exact _root_.id (fun _ => rfl) | fail) only [↓pre, post, Int.reduceEq, Int.reduceLT, Int.reduceLE, Int.reduceAdd, Int.reduceSub, Int.reduceMul, Int.reduceNeg, Nat.reduceLT, Nat.reduceSub, Nat.reduceMul, Nat.reduceAdd, Nat.reduceLeDiff, reduceIte, reduceCtorEq, Nat.reduceEqDiff, eq_false hyp] | simp (maxSteps := 4000000) (disch := first | assumption | omega | (simp only [push_next, put_next, empty_next, List.length_cons, List.length_nil] <;> omega) | exact _root_.id rfl | exact _root_.id (fun _ => rfl) | fail) only [↓pre, post, Int.reduceEq, Int.reduceLT, Int.reduceLE, Int.reduceAdd, Int.reduceSub, Int.reduceMul, Int.reduceNeg, Nat.reduceLT, Nat.reduceSub, Nat.reduceMul, Nat.reduceAdd, Nat.reduceLeDiff, reduceIte, reduceCtorEq, Nat.reduceEqDiff, eq_true hyp] | skip))
      simp [this]
  · have : ¬ xs = ys := fun e => hne (by rw [e])
    try simp (maxSteps := 4000000) (disch := first | assumption | omega | (simp only [push_next, put_next, empty_next, List.length_cons, List.length_nil] <;> omega) | exact _root_.id rfl | exact _root_.id (fun _ => rfl) | fail) only [↓pre, post, Int.reduceEq, Int.reduceLT, Int.reduceLE, Int.reduceAdd, Int.reduceSub, Int.reduceMul, Int.reduceNeg, Nat.reduceLT, Nat.reduceSub, Nat.reduceMul, Nat.reduceAdd, Nat.reduceLeDiff, reduceIte, reduceCtorEq, Nat.reduceEqDiff]
    repeat' (first
      | (refine ifP_pos (by first | assumption | omega) ?_ <;> try simp (maxSteps := 4000000) (disch := first | assumption | omega | (simp only [push_next, put_next, empty_next, List.length_cons, List.length_nil] <;> omega) | exact _root_.id rfl | exact _root_.id (fun _ => rfl) | fail) only [↓pre, post, Int.reduceEq, Int.reduceLT, Int.reduceLE, Int.reduceAdd, Int.reduceSub, Int.reduceMul, Int.reduceNeg, Nat.reduceLT, Nat.reduceSub, Nat.reduceMul, Nat.reduceAdd, Nat.reduceLeDiff, reduceIte, reduceCtorEq, Nat.reduceEqDiff])
      | (refine ifP_neg (by first | assumption | omega) ?_ <;> try simp (maxSteps := 4000000) (disch := first | assumption | omega | (simp only [push_next, put_next, empty_next, List.length_cons, List.length_nil] <;> omega) | exact _root_.id rfl | exact _root_.id (fun _ => rfl) | fail) only [↓pre, post, Int.reduceEq, Int.reduceLT, Int.reduceLE, Int.reduceAdd, Int.reduceSub, Int.reduceMul, Int.reduceNeg, Nat.reduceLT, Nat.reduceSub, Nat.reduceMul, Nat.reduceAdd, Nat.reduceLeDiff, reduceIte, reduceCtorEq, Nat.reduceEqDiff])
      | (refine ifP_intro (fun hyp => ?_) (fun hyp => ?_) <;> first | simp (maxSteps := 4000000) (disch := first | assumption | omega | (simp only [push_next, put_next, empty_next, List.length_cons, List.length_nil] <;> omega) | exact _root_.id rfl | exact _root_.id (fun _ => rfl) | fail) only [↓pre, post, Int.reduceEq, Int.reduceLT, Int.reduceLE, Int.reduceAdd, Int.reduceSub, Int.reduceMul, Int.reduceNeg, Nat.reduceLT, Nat.reduceSub, Nat.reduceMul, Nat.reduceAdd, Nat.reduceLeDiff, reduceIte, reduceCtorEq, Nat.reduceEqDiff, eq_false hyp] | simp (maxSteps := 4000000) (disch := first | assumption | omega | (simp only [push_next, put_next, empty_next, List.length_cons, List.length_nil] <;> omega) | exact _root_.id rfl | exact _root_.id (fun _ => rfl) | fail) only [↓pre, post, Int.reduceEq, Int.reduceLT, Int.reduceLE, Int.reduceAdd, Int.reduceSub, Int.reduceMul, Int.reduceNeg, Nat.reduceLT, Nat.reduceSub, Nat.reduceMul, Nat.reduceAdd, Nat.reduceLeDiff, reduceIte, reduceCtorEq, Nat.reduceEqDiff, eq_true hyp] | skip))
    simp [this]
theorem sameInts_v (xs ys : List Nat) (t t' : Tok) (hl : xs.length ≤ 1000000) : PV F 41 [.sl (xs.map intN) t, .sl (ys.map intN) t'] = some (.bool (decide (xs = ys))) := by
  refine PV_wp (fn := c41) rfl ?_
  dsimp only [c41]
  by_cases hne : xs.length = ys.length
  · try simp (maxSteps := 4000000) (disch := first | assumption | omega | (simp only [push_next, put_next, empty_next, List.length_cons, List.length_nil] <;> omega) | exact _root_.id rfl | exact _root_.id (fun _ => rfl) | fail) only [↓pre, post, Int.reduceEq, Int.reduceLT, Int.reduceLE, Int.reduceAdd, Int.reduceSub, Int.reduceMul, Int.reduceNeg, Nat.reduceLT, Nat.reduceSub, Nat.reduceMul, Nat.reduceAdd, Nat.reduceLeDiff, reduceIte, reduceCtorEq, Nat.reduceEqDiff]
    repeat' (first
      | (refine ifP_pos (by first | assumption | omega) ?_ <;> try simp (maxSteps := 4000000) (disch := first | assumption | omega | (simp only [push_next, put_next, empty_next, List.length_cons, List.length_nil] <;> omega) | exact _root_.id rfl | exact _root_.id (fun _ => rfl) | fail) only [↓pre, post, Int.reduceEq, Int.reduceLT, Int.reduceLE, Int.reduceAdd, Int.reduceSub, Int.reduceMul, Int.reduceNeg, Nat.reduceLT, Nat.reduceSub, Nat.reduceMul, Nat.reduceAdd, Nat.reduceLeDiff, reduceIte, reduceCtorEq, Nat.reduceEqDiff])
      | (refine ifP_neg (by first | assumption | omega) ?_ <;> try simp (maxSteps := 4000000) (disch := first | assumption | omega | (simp only [push_next, put_next, empty_next, List.length_cons, List.length_nil] <;> omega) | exact _root_.id rfl | exact _root_.id (fun _ => rfl) | fail) only [↓pre, post, Int.reduceEq, Int.reduceLT, Int.reduceLE, Int.reduceAdd, Int.reduceSub, Int.reduceMul, Int.reduceNeg, Nat.reduceLT, Nat.reduceSub, Nat.reduceMul, Nat.reduceAdd, Nat.reduceLeDiff, reduceIte, reduceCtorEq, Nat.reduceEqDiff])
      | (refine ifP_intro (fun hyp => ?_) (fun hyp => ?_) <;> first | simp (maxSteps := 4000000) (disch := first | assumption | omega | (simp only [push_next, put_next, empty_next, List.length_cons, List.length_nil] <;> omega) | exact _root_.id rfl | exact _root_.id (fun _ => rfl) | fail) only [↓pre, post, Int.reduceEq, Int.reduceLT, Int.reduceLE, Int.reduceAdd, Int.reduceSub, Int.reduceMul, Int.reduceNeg, Nat.reduceLT, Nat.reduceSub, Nat.reduceMul, Nat.reduceAdd, Nat.reduceLeDiff, reduceIte, reduceCtorEq, Nat.reduceEqDiff, eq_false hyp] | simp (maxSteps := 4000000) (disch := first | assumption | omega | (simp only [push_next, put_next, empty_next, List.length_cons, List.length_nil] <;> omega) | exact _root_.id rfl | exact _root_.id (fun _ => rfl) | fail) only [↓pre, post, Int.reduceEq, Int.reduceLT, Int.reduceLE, Int.reduceAdd, Int.reduceSub, Int.reduceMul, Int.reduceNeg, Nat.reduceLT, Nat.reduceSub, Nat.reduceMul, Nat.reduceAdd, Nat.reduceLeDiff, reduceIte, reduceCtorEq, Nat.reduceEqDiff, eq_true hyp] | skip))
    refine w_loop (fun m vs h3 => ∃ (i : Nat) (x1 x2 x3 x4 : AVal), m = xs.length - i ∧ i ≤ xs.length ∧ xs.take i = ys.take i ∧ vs = [.sl (xs.map intN) t, .sl (ys.map intN) t', x1, .int .i64 (i : Int), x2, x3, x4]) xs.length
      ⟨0, _, _, _, _, by omega, by omega, rfl, rfl⟩ ?_
    rintro m vs h3 ⟨i, x1, x2, x3, x4, rfl, hi, hS, rfl⟩
    by_cases hil : i < xs.length
    · by_cases he : nth xs i = nth ys i
      · try simp (maxSteps := 4000000) (disch := first | assumption | omega | (simp only [push_next, put_next, empty_next, List.length_cons, List.length_nil] <;> omega) | exact _root_.id rfl | exact _root_.id (fun _ => rfl) | fail) only [↓pre, post, Int.reduceEq, Int.reduceLT, Int.reduceLE, Int.reduceAdd, Int.reduceSub, Int.reduceMul, Int.reduceNeg, Nat.reduceLT, Nat.reduceSub, Nat.reduceMul, Nat.reduceAdd, Nat.reduceLeDiff, reduceIte, reduceCtorEq, Nat.reduceEqDiff, intN, he]
        repeat' (first
          | (refine ifP_pos (by first | assumption | omega) ?_ <;> try simp (maxSteps := 4000000) (disch := first | assumption | omega | (simp only [push_next, put_next, empty_next, List.length_cons, List.length_nil] <;> omega) | exact _root_.id rfl | exact _root_.id (fun _ => rfl) | fail) only [↓pre, post, Int.reduceEq, Int.reduceLT, Int.reduceLE, Int.reduceAdd, Int.reduceSub, Int.reduceMul, Int.reduceNeg, Nat.reduceLT, Nat.reduceSub, Nat.reduceMul, Nat.reduceAdd, Nat.reduceLeDiff, reduceIte, reduceCtorEq, Nat.reduceEqDiff, intN, he])
          | (refine ifP_neg (by first | assumption | omega) ?_ <;> try simp (maxSteps := 4000000) (disch := first | assumption | omega | (simp only [push_next, put_next, empty_next, List.length_cons, List.length_nil] <;> omega) | exact _root_.id rfl | exact _root_.id (fun _ => rfl) | fail) only [↓pre, post, Int.reduceEq, Int.reduceLT, Int.reduceLE, Int.reduceAdd, Int.reduceSub, Int.reduceMul, Int.reduceNeg, Nat.reduceLT, Nat.reduceSub, Nat.reduceMul, Nat.reduceAdd, Nat.reduceLeDiff, reduceIte, reduceCtorEq, Nat.reduceEqDiff, intN, he])
          | (refine ifP_intro (fun hyp => ?_) (fun hyp => ?_) <;> first | simp (maxSteps := 4000000) (disch := first | assumption | omega | (simp only [push_next, put_next, empty_next, List.length_cons, List.length_nil] <;> omega) | exact _root_.id rfl | exact _root_.id (fun _ => rfl) | fail) only [↓pre, post, Int.reduceEq, Int.reduceLT, Int.reduceLE, Int.reduceAdd, Int.reduceSub, Int.reduceMul, Int.reduceNeg, Nat.reduceLT, Nat.reduceSub, Nat.reduceMul, Nat.reduceAdd, Nat.reduceLeDiff, reduceIte, reduceCtorEq, Nat.reduceEqDiff, intN, he, eq_false hyp] | simp (maxSteps := 4000000) (disch := first | assumption | omega | (simp only [push_next, put_next, empty_next, List.length_cons, List.length_nil] <;> omega) | exact _root_.id rfl | exact _root_.id (fun _ => rfl) | fail) only [↓pre, post, Int.reduceEq, Int.reduceLT, Int.reduceLE, Int.reduceAdd, Int.reduceSub, Int.reduceMul, Int.reduceNeg, Nat.reduceLT, Nat.reduceSub, Nat.reduceMul, Nat.reduceAdd, Nat.reduceLeDiff, reduceIte, reduceCtorEq, Nat.reduceEqDiff, intN, he, eq_true hyp] | skip))
        exact lp_n ⟨_, by omega, i + 1, _, _, _, _, rfl, by omega, same_upto hne hil hS he, by push_cast; rfl⟩
      · try simp (maxSteps := 4000000) (disch := first | assumption | omega | (simp only [push_next, put_next, empty_next, List.length_cons, List.length_nil] <;> omega) | exact _root_.id rfl | exact _root_.id (fun _ => rfl) | fail) only [↓pre, post, Int.reduceEq, Int.reduceLT, Int.reduceLE, Int.reduceAdd, Int.reduceSub, Int.reduceMul, Int.reduceNeg, Nat.reduceLT, Nat.reduceSub, Nat.reduceMul, Nat.reduceAdd, Nat.reduceLeDiff, reduceIte, reduceCtorEq, Nat.reduceEqDiff, intN, he]
        repeat' (first
          | (refine ifP_pos (by first | assumption | omega) ?_ <;> try simp (maxSteps := 4000000) (disch := first | assumption | omega | (simp only [push_next, put_next, empty_next, List.length_cons, List.length_nil] <;> omega) | exact _root_.id rfl | exact _root_.id (fun _ => rfl) | fail) only [↓pre, post, Int.reduceEq, Int.reduceLT, Int.reduceLE, Int.reduceAdd, Int.reduceSub, Int.reduceMul, Int.reduceNeg, Nat.reduceLT, Nat.reduceSub, Nat.reduceMul, Nat.reduceAdd, Nat.reduceLeDiff, reduceIte, reduceCtorEq, Nat.reduceEqDiff, intN, he])
          | (refine ifP_neg (by first | assumption | omega) ?_ <;> try simp (maxSteps := 4000000) (disch := first | assumption | omega | (simp only [push_next, put_next, empty_next, List.length_cons, List.length_nil] <;> omega) | exact _root_.id rfl | exact _root_.id (fun _ => rfl) | fail) only [↓pre, post, Int.reduceEq, Int.reduceLT, Int.reduceLE, Int.reduceAdd, Int.reduceSub, Int.reduceMul, Int.reduceNeg, Nat.reduceLT, Nat.reduceSub, Nat.reduceMul, Nat.reduceAdd, Nat.reduceLeDiff, reduceIte, reduceCtorEq, Nat.reduceEqDiff, intN, he])
          | (refine ifP_intro (fun hyp => ?_) (fun hyp => ?_) <;> first | simp (maxSteps := 4000000) (disch := first | assumption | omega | (simp only [push_next, put_next, empty_next, List.length_cons, List.length_nil] <;> omega) | exact _root_.id rfl | exact _root_.id (fun _ => rfl) | fail) only [↓pre, post, Int.reduceEq, Int.reduceLT, Int.reduceLE, Int.reduceAdd, Int.reduceSub, Int.reduceMul, Int.reduceNeg, Nat.reduceLT, Nat.reduceSub, Nat.reduceMul, Nat.reduceAdd, Nat.reduceLeDiff, reduceIte, reduceCtorEq, Nat.reduceEqDiff, intN, he, eq_false hyp] | simp (maxSteps := 4000000) (disch := first | assumption | omega | (simp only [push_next, put_next, empty_next, List.length_cons, List.length_nil] <;> omega) | exact _root_.id rfl | exact _root_.id (fun _ => rfl) | fail) only [↓pre, post, Int.reduceEq, Int.reduceLT, Int.reduceLE, Int.reduceAdd, Int.reduceSub, Int.reduceMul, Int.reduceNeg, Nat.reduceLT, Nat.reduceSub, Nat.reduceMul, Nat.reduceAdd, Nat.reduceLeDiff, reduceIte, reduceCtorEq, Nat.reduceEqDiff, intN, he, eq_true hyp] | skip))
        have : ¬ xs = ys := fun e => he (by rw [e])
        simp [this]
    · have : xs = ys := by
        rw [List.take_of_length_le (by omega), List.take_of_length_le (by omega)] at hS
        exact hS
      try simp (maxSteps := 4000000) (disch := first | assumption | omega | (simp only [push_next, put_next, empty_next, List.length_cons, List.length_nil] <;> omega) | exact _root_.id rfl | exact _root_.id (fun _ => rfl) | fail) only [↓pre, post, Int.reduceEq, Int.reduceLT, Int.reduceLE, Int.reduceAdd, Int.reduceSub, Int.reduceMul, Int.reduceNeg, Nat.reduceLT, Nat.reduceSub, Nat.reduceMul, Nat.reduceAdd, Nat.reduceLeDiff, reduceIte, reduceCtorEq, Nat.reduceEqDiff]
      repeat' (first
        | (refine ifP_pos (by first | assumption | omega) ?_ <;> try simp (maxSteps := 4000000) (disch := first | assumption | omega | (simp only [push_next, put_next, empty_next, List.length_cons, List.length_nil] <;> omega) | exact _root_.id rfl | exact _root_.id (fun _ => rfl) | fail) only [↓pre, post, Int.reduceEq, Int.reduceLT, Int.reduceLE, Int.reduceAdd, Int.reduceSub, Int.reduceMul, Int.reduceNeg, Nat.reduceLT, Nat.reduceSub, Nat.reduceMul, Nat.reduceAdd, Nat.reduceLeDiff, reduceIte, reduceCtorEq, Nat.reduceEqDiff])
        | (refine ifP_neg (by first | assumption | omega) ?_ <;> try simp (maxSteps := 4000000) (disch := first | assumption | omega | (simp only [push_next, put_next, empty_next, List.length_cons, List.length_nil] <;> omega) | exact _root_.id rfl | exact _root_.id (fun _ => rfl) | fail) only [↓pre, post, Int.reduceEq, Int.reduceLT, Int.reduceLE, Int.reduceAdd, Int.reduceSub, Int.reduceMul, Int.reduceNeg, Nat.reduceLT, Nat.reduceSub, Nat.reduceMul, Nat.reduceAdd, Nat.reduceLeDiff, reduceIte, reduceCtorEq, Nat.reduceEqDiff])
        | (refine ifP_intro (fun hyp => ?_) (fun hyp => ?_) <;> first | simp (maxSteps := 4000000) (disch := first | assumption | omega | (simp only [push_next, put_next, empty_next, List.length_cons, List.length_nil] <;> omega) | exact _root_.id rfl | exact _root_.id (fun _ => rfl) | fail) only [↓pre, post, Int.reduceEq, Int.reduceLT, Int.reduceLE, Int.reduceAdd, Int.reduceSub, Int.reduceMul, Int.reduceNeg, Nat.reduceLT, Nat.reduceSub, Nat.reduceMul, Nat.reduceAdd, Nat.reduceLeDiff, reduceIte, reduceCtorEq, Nat.reduceEqDiff, eq_false hyp] | simp (maxSteps := 4000000) (disch := first | assumption | omega | (simp only [push_next, put_next, empty_next, List.length_cons, List.length_nil] <;> omega) | exact _root_.id rfl | exact _root_.id (fun _ => rfl) | fail) only [↓pre, post, Int.reduceEq, Int.reduceLT, Int.reduceLE, Int.reduceAdd, Int.reduceSub, Int.reduceMul, Int.reduceNeg, Nat.reduceLT, Nat.reduceSub, Nat.reduceMul, Nat.reduceAdd, Nat.reduceLeDiff, reduceIte, reduceCtorEq, Nat.reduceEqDiff, eq_true hyp] | skip))
      simp [this]
  · have : ¬ xs = ys := fun e => hne (by rw [e])
    try simp (maxSteps := 4000000) (disch := first | assumption | omega | (simp only [push_next, put_next, empty_next, List.length_cons, List.length_nil] <;> omega) | exact _root_.id rfl | exact _root_.id (fun _ => rfl) | fail) only [↓pre, post, Int.reduceEq, Int.reduceLT, Int.reduceLE, Int.reduceAdd, Int.reduceSub, Int.reduceMul, Int.reduceNeg, Nat.reduceLT, Nat.reduceSub, Nat.reduceMul, Nat.reduceAdd, Nat.reduceLeDiff, reduceIte, reduceCtorEq, Nat.reduceEqDiff]
    repeat' (first
      | (refine ifP_pos (by first | assumption | omega) ?_ <;> try simp (maxSteps := 4000000) (disch := first | assumption | omega | (simp only [push_next, put_next, empty_next, List.length_cons, List.length_nil] <;> omega) | exact _root_.id rfl | exact _root_.id (fun _ => rfl) | fail) only [↓pre, post, Int.reduceEq, Int.reduceLT, Int.reduceLE, Int.reduceAdd, Int.reduceSub, Int.reduceMul, Int.reduceNeg, Nat.reduceLT, Nat.reduceSub, Nat.reduceMul, Nat.reduceAdd, Nat.reduceLeDiff, reduceIte, reduceCtorEq, Nat.reduceEqDiff])
      | (refine ifP_neg (by first | assumption | omega) ?_ <;> try simp (maxSteps := 4000000) (disch := first | assumption | omega | (simp only [push_next, put_next, empty_next, List.length_cons, List.length_nil] <;> omega) | exact _root_.id rfl | exact _root_.id (fun _ => rfl) | fail) only [↓pre, post, Int.reduceEq, Int.reduceLT, Int.reduceLE, Int.reduceAdd, Int.reduceSub, Int.reduceMul, Int.reduceNeg, Nat.reduceLT, Nat.reduceSub, Nat.reduceMul, Nat.reduceAdd, Nat.reduceLeDiff, reduceIte, reduceCtorEq, Nat.reduceEqDiff])
      | (refine ifP_intro (fun hyp => ?_) (fun hyp => ?_) <;> first | simp (maxSteps := 4000000) (disch := first | assumption | omega | (simp only [push_next, put_next, empty_next, List.length_cons, List.length_nil] <;> omega) | exact _root_.id rfl | exact _root_.id (fun _ => rfl) | fail) only [↓pre, post, Int.reduceEq, Int.reduceLT, Int.reduceLE, Int.reduceAdd, Int.reduceSub, Int.reduceMul, Int.reduceNeg, Nat.reduceLT, Nat.reduceSub, Nat.reduceMul, Nat.reduceAdd, Nat.reduceLeDiff, reduceIte, reduceCtorEq, Nat.reduceEqDiff, eq_false hyp] | simp (maxSteps := 4000000) (disch := first | assumption | omega | (simp only [push_next, put_next, empty_next, List.length_cons, List.length_nil] <;> omega) | exact _root_.id rfl | exact _root_.id (fun _ => rfl) | fail) only [↓pre, post, Int.reduceEq, Int.reduceLT, Int.reduceLE, Int.reduceAdd, Int.reduceSub, Int.reduceMul, Int.reduceNeg, Nat.reduceLT, Nat.reduceSub, Nat.reduceMul, Nat.reduceAdd, Nat.reduceLeDiff, reduceIte, reduceCtorEq, Nat.reduceEqDiff, eq_true hyp] | skip))
    simp [this]

def fullB (c : Nat) : Bool := match run F 300 (.call 18 [.int .u8 (c : Int)] Heap.empty) with
  | some (.val (.str s) _) => decide (s = List.replicate 64 (UInt8.ofNat c))
  | _ => false
set_option maxRecDepth 1000000 in
theorem full_0 : fullB 0 = true := by kernel_rfl
set_option maxRecDepth 1000000 in
theorem full_x : fullB 120 = true := by kernel_rfl

theorem full_v {c : Nat} (hc : fullB c = true) : PV F 18 [.int .u8 (c : Int)] = some (.str (List.replicate 64 (UInt8.ofNat c))) := by
  unfold fullB at hc
  split at hc
  · rename_i s h hr
    have hs := of_decide_eq_true hc
    subst hs
    exact PV_of (h' := h) (by unfold Gives; exact ⟨_, hr⟩) (by simp [purify])
  · simp at hc
end Go.Proofs.Ytjofjgflcogklaa
