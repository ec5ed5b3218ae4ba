/-
  Cost of the program and of the reference model.
-/
import Derived.Test.YtcammfdljiingaaLbB
set_option linter.unusedSimpArgs false
set_option linter.unusedVariables false
set_option maxHeartbeats 4000000
namespace Go.Proofs.Ytcammfdljiingaa
open Go Go.Abs

/-- The cost that the scan gives for an end, the last that comes. -/
def lastC (to : Int) (d : List (Nat × Int × Int)) : Int := d.foldl (fun c x => if (x.1 : Int) = to then x.2.2 else c) (-1)

def costP (l : List Item) (w : Int) (a to : Int) : Int := if (widthOk w ∧ valid l) ∧ (0 ≤ a ∧ a ≤ l.length - 1) ∧ starts l a.toNat then lastC to (scan l w a.toNat 0) else -1

theorem cost1_c {a : Nat} {x : Nat × Int × Int} {to c : Int} {h : Heap} (h0 : h.get 0 = some (.row true 0 false [.int .i64 to])) (h1 : h.get 1 = some (.row true (typed 3) false [.int .i64 c])) (hn : 2 ≤ h.next) :
    CV F 53 ([lineA a x, .int .i64 x.2.2] ++ [.ptr 0 0, .ptr 1 0]) h (fun _ h2 => h2.get 0 = some (.row true 0 false [.int .i64 to]) ∧ h2.get 1 = some (.row true (typed 3) false [.int .i64 (if (x.1 : Int) = to then x.2.2 else c)]) ∧ Fr (· = 1) h h2) := by
  have h1' : ∀ o, (h.put 1 o).get 1 = o := fun o => get_put_old h1
  refine CV_wp (fn := c53) rfl ?_
  dsimp only [c53, lineA]
  try simp (maxSteps := 4000000) (disch := first | assumption | omega | (simp only [push_next, put_next, empty_next, List.length_cons, List.length_nil] <;> omega) | exact _root_.id rfl | exact _root_.id (fun _ => rfl) | fail) only [↓pre, post, Int.reduceEq, Int.reduceLT, Int.reduceLE, Int.reduceAdd, Int.reduceSub, Int.reduceMul, Int.reduceNeg, Nat.reduceLT, Nat.reduceSub, Nat.reduceMul, Nat.reduceAdd, Nat.reduceLeDiff, reduceIte, reduceCtorEq, Nat.reduceEqDiff, h0, h1, h1']
  repeat' (first
    | (refine ifP_pos (by first | assumption | omega) ?_ <;> try simp (maxSteps := 4000000) (disch := first | assumption | omega | (simp only [push_next, put_next, empty_next, List.length_cons, List.length_nil] <;> omega) | exact _root_.id rfl | exact _root_.id (fun _ => rfl) | fail) only [↓pre, post, Int.reduceEq, Int.reduceLT, Int.reduceLE, Int.reduceAdd, Int.reduceSub, Int.reduceMul, Int.reduceNeg, Nat.reduceLT, Nat.reduceSub, Nat.reduceMul, Nat.reduceAdd, Nat.reduceLeDiff, reduceIte, reduceCtorEq, Nat.reduceEqDiff, h0, h1, h1'])
    | (refine ifP_neg (by first | assumption | omega) ?_ <;> try simp (maxSteps := 4000000) (disch := first | assumption | omega | (simp only [push_next, put_next, empty_next, List.length_cons, List.length_nil] <;> omega) | exact _root_.id rfl | exact _root_.id (fun _ => rfl) | fail) only [↓pre, post, Int.reduceEq, Int.reduceLT, Int.reduceLE, Int.reduceAdd, Int.reduceSub, Int.reduceMul, Int.reduceNeg, Nat.reduceLT, Nat.reduceSub, Nat.reduceMul, Nat.reduceAdd, Nat.reduceLeDiff, reduceIte, reduceCtorEq, Nat.reduceEqDiff, h0, h1, h1'])
    | (refine ifP_intro (fun hyp => ?_) (fun hyp => ?_) <;> first | simp (maxSteps := 4000000) (disch := first | assumption | omega | (simp only [push_next, put_next, empty_next, List.length_cons, List.length_nil] <;> omega) | exact _root_.id rfl | exact _root_.id (fun _ => rfl) | fail) only [↓pre, post, Int.reduceEq, Int.reduceLT, Int.reduceLE, Int.reduceAdd, Int.reduceSub, Int.reduceMul, Int.reduceNeg, Nat.reduceLT, Nat.reduceSub, Nat.reduceMul, Nat.reduceAdd, Nat.reduceLeDiff, reduceIte, reduceCtorEq, Nat.reduceEqDiff, h0, h1, h1', eq_false hyp] | simp (maxSteps := 4000000) (disch := first | assumption | omega | (simp only [push_next, put_next, empty_next, List.length_cons, List.length_nil] <;> omega) | exact _root_.id rfl | exact _root_.id (fun _ => rfl) | fail) only [↓pre, post, Int.reduceEq, Int.reduceLT, Int.reduceLE, Int.reduceAdd, Int.reduceSub, Int.reduceMul, Int.reduceNeg, Nat.reduceLT, Nat.reduceSub, Nat.reduceMul, Nat.reduceAdd, Nat.reduceLeDiff, reduceIte, reduceCtorEq, Nat.reduceEqDiff, h0, h1, h1', eq_true hyp] | skip))
  · exact Fr.push (Fr.put (S := (· = 1)) (Fr.refl _ _) (.inl rfl) _) _
  · exact Fr.push (Fr.refl _ _) _

theorem cost_v {l : List Item} {t : Tok} {a to w : Int} (ht : Pt t) (hl : l.length < 1000000) : PV F 27 [.sl (items l) t, .int .i64 a, .int .i64 to, .int .i64 w] = some (.int .i64 (costP l w a to)) := by
  refine PV_wp (fn := c27) rfl ?_
  dsimp only [c27]
  try simp (maxSteps := 4000000) (disch := first | assumption | omega | (simp only [push_next, put_next, empty_next, List.length_cons, List.length_nil] <;> omega) | exact _root_.id rfl | exact _root_.id (fun _ => rfl) | fail) only [↓pre, post, Int.reduceEq, Int.reduceLT, Int.reduceLE, Int.reduceAdd, Int.reduceSub, Int.reduceMul, Int.reduceNeg, Nat.reduceLT, Nat.reduceSub, Nat.reduceMul, Nat.reduceAdd, Nat.reduceLeDiff, reduceIte, reduceCtorEq, Nat.reduceEqDiff, ready_v, within_v, starts_v]
  repeat' (first
    | (refine ifP_pos (by first | assumption | omega) ?_ <;> try simp (maxSteps := 4000000) (disch := first | assumption | omega | (simp only [push_next, put_next, empty_next, List.length_cons, List.length_nil] <;> omega) | exact _root_.id rfl | exact _root_.id (fun _ => rfl) | fail) only [↓pre, post, Int.reduceEq, Int.reduceLT, Int.reduceLE, Int.reduceAdd, Int.reduceSub, Int.reduceMul, Int.reduceNeg, Nat.reduceLT, Nat.reduceSub, Nat.reduceMul, Nat.reduceAdd, Nat.reduceLeDiff, reduceIte, reduceCtorEq, Nat.reduceEqDiff, ready_v, within_v, starts_v])
    | (refine ifP_neg (by first | assumption | omega) ?_ <;> try simp (maxSteps := 4000000) (disch := first | assumption | omega | (simp only [push_next, put_next, empty_next, List.length_cons, List.length_nil] <;> omega) | exact _root_.id rfl | exact _root_.id (fun _ => rfl) | fail) only [↓pre, post, Int.reduceEq, Int.reduceLT, Int.reduceLE, Int.reduceAdd, Int.reduceSub, Int.reduceMul, Int.reduceNeg, Nat.reduceLT, Nat.reduceSub, Nat.reduceMul, Nat.reduceAdd, Nat.reduceLeDiff, reduceIte, reduceCtorEq, Nat.reduceEqDiff, ready_v, within_v, starts_v])
    | (refine ifP_intro (fun hyp => ?_) (fun hyp => ?_) <;> first | simp (maxSteps := 4000000) (disch := first | assumption | omega | (simp only [push_next, put_next, empty_next, List.length_cons, List.length_nil] <;> omega) | exact _root_.id rfl | exact _root_.id (fun _ => rfl) | fail) only [↓pre, post, Int.reduceEq, Int.reduceLT, Int.reduceLE, Int.reduceAdd, Int.reduceSub, Int.reduceMul, Int.reduceNeg, Nat.reduceLT, Nat.reduceSub, Nat.reduceMul, Nat.reduceAdd, Nat.reduceLeDiff, reduceIte, reduceCtorEq, Nat.reduceEqDiff, ready_v, within_v, starts_v, eq_false hyp] | simp (maxSteps := 4000000) (disch := first | assumption | omega | (simp only [push_next, put_next, empty_next, List.length_cons, List.length_nil] <;> omega) | exact _root_.id rfl | exact _root_.id (fun _ => rfl) | fail) only [↓pre, post, Int.reduceEq, Int.reduceLT, Int.reduceLE, Int.reduceAdd, Int.reduceSub, Int.reduceMul, Int.reduceNeg, Nat.reduceLT, Nat.reduceSub, Nat.reduceMul, Nat.reduceAdd, Nat.reduceLeDiff, reduceIte, reduceCtorEq, Nat.reduceEqDiff, ready_v, within_v, starts_v, eq_true hyp] | skip))
  all_goals first
    | exact (if_neg fun h => (‹¬ (widthOk w ∧ valid l)› h.1)).symm
    | exact (if_neg fun h => (‹¬ (0 ≤ a ∧ a ≤ ↑l.length - 1)› h.2.1)).symm
    | exact (if_neg fun h => (‹¬ (starts l a.toNat)› h.2.2)).symm
    | skip
  obtain ⟨n, rfl⟩ := Int.eq_ofNat_of_zero_le (‹0 ≤ a ∧ a ≤ ↑l.length - 1›.1)
  refine CV_mono (lines_c (a := n) (‹widthOk w ∧ valid l›.2) (‹widthOk w ∧ valid l›.1) (by omega) (· = 1) (by intro j hj; subst hj; exact Nat.lt_succ_self 1)
    (fun d h1 => h1.get 0 = some (.row true 0 false [.int .i64 to]) ∧ h1.get 1 = some (.row true (typed 3) false [.int .i64 (lastC to d)])) (fun d h1 o i => ⟨get_push_old i.1, get_push_old i.2⟩)
    (fun d x rest h1 e i f => ?_) (by constructor <;> rfl)) ?_
  · refine CV_mono (cost1_c i.1 i.2 f.1) ?_
    rintro r h2 ⟨i1, i2, i3⟩
    refine ⟨⟨i1, ?_⟩, i3⟩
    simp only [lastC, List.foldl_append, List.foldl_cons, List.foldl_nil] at i2 ⊢
    exact i2
  · rintro r h2 ⟨rfl, ⟨i1, i2⟩, i3⟩
    try simp (maxSteps := 4000000) (disch := first | assumption | omega | (simp only [push_next, put_next, empty_next, List.length_cons, List.length_nil] <;> omega) | exact _root_.id rfl | exact _root_.id (fun _ => rfl) | fail) only [↓pre, post, Int.reduceEq, Int.reduceLT, Int.reduceLE, Int.reduceAdd, Int.reduceSub, Int.reduceMul, Int.reduceNeg, Nat.reduceLT, Nat.reduceSub, Nat.reduceMul, Nat.reduceAdd, Nat.reduceLeDiff, reduceIte, reduceCtorEq, Nat.reduceEqDiff, i2]
    repeat' (first
      | (refine ifP_pos (by first | assumption | omega) ?_ <;> try simp (maxSteps := 4000000) (disch := first | assumption | omega | (simp only [push_next, put_next, empty_next, List.length_cons, List.length_nil] <;> omega) | exact _root_.id rfl | exact _root_.id (fun _ => rfl) | fail) only [↓pre, post, Int.reduceEq, Int.reduceLT, Int.reduceLE, Int.reduceAdd, Int.reduceSub, Int.reduceMul, Int.reduceNeg, Nat.reduceLT, Nat.reduceSub, Nat.reduceMul, Nat.reduceAdd, Nat.reduceLeDiff, reduceIte, reduceCtorEq, Nat.reduceEqDiff, i2])
      | (refine ifP_neg (by first | assumption | omega) ?_ <;> try simp (maxSteps := 4000000) (disch := first | assumption | omega | (simp only [push_next, put_next, empty_next, List.length_cons, List.length_nil] <;> omega) | exact _root_.id rfl | exact _root_.id (fun _ => rfl) | fail) only [↓pre, post, Int.reduceEq, Int.reduceLT, Int.reduceLE, Int.reduceAdd, Int.reduceSub, Int.reduceMul, Int.reduceNeg, Nat.reduceLT, Nat.reduceSub, Nat.reduceMul, Nat.reduceAdd, Nat.reduceLeDiff, reduceIte, reduceCtorEq, Nat.reduceEqDiff, i2])
      | (refine ifP_intro (fun hyp => ?_) (fun hyp => ?_) <;> first | simp (maxSteps := 4000000) (disch := first | assumption | omega | (simp only [push_next, put_next, empty_next, List.length_cons, List.length_nil] <;> omega) | exact _root_.id rfl | exact _root_.id (fun _ => rfl) | fail) only [↓pre, post, Int.reduceEq, Int.reduceLT, Int.reduceLE, Int.reduceAdd, Int.reduceSub, Int.reduceMul, Int.reduceNeg, Nat.reduceLT, Nat.reduceSub, Nat.reduceMul, Nat.reduceAdd, Nat.reduceLeDiff, reduceIte, reduceCtorEq, Nat.reduceEqDiff, i2, eq_false hyp] | simp (maxSteps := 4000000) (disch := first | assumption | omega | (simp only [push_next, put_next, empty_next, List.length_cons, List.length_nil] <;> omega) | exact _root_.id rfl | exact _root_.id (fun _ => rfl) | fail) only [↓pre, post, Int.reduceEq, Int.reduceLT, Int.reduceLE, Int.reduceAdd, Int.reduceSub, Int.reduceMul, Int.reduceNeg, Nat.reduceLT, Nat.reduceSub, Nat.reduceMul, Nat.reduceAdd, Nat.reduceLeDiff, reduceIte, reduceCtorEq, Nat.reduceEqDiff, i2, eq_true hyp] | skip))
    rw [costP, if_pos ⟨by assumption, by assumption, by assumption⟩]; rfl

/-! ### the lines, by their ends -/
def lineOk (l : List Item) (w : Int) (a b : Nat) : Prop := a < b ∧ b ≤ l.length ∧ starts l a ∧ (nth l (b - 1)).kind ≠ 0 ∧ (∀ i, i < b - 1 → a ≤ i → (nth l i).kind ≠ 3) ∧ natS l a b ≤ w
instance (l : List Item) (w : Int) (a b : Nat) : Decidable (lineOk l w a b) := by unfold lineOk; infer_instance
def costN (l : List Item) (w : Int) (a b : Nat) : Int := if (nth l (b - 1)).kind = 3 then 0 else (w - natS l a b) * (w - natS l a b) + (nth l (b - 1)).cost
def costR (l : List Item) (w : Int) (a b : Int) : Int := if (widthOk w ∧ valid l) ∧ 0 ≤ a ∧ 0 ≤ b ∧ lineOk l w a.toNat b.toNat then costN l w a.toNat b.toNat else -1

theorem natural_i {l : List Item} {t : Tok} {a b : Int} (hv : valid l) (h0 : 0 ≤ a) (h1 : a < b) (h2 : b ≤ l.length) : PV F 31 [.sl (items l) t, .int .i64 a, .int .i64 b] = some (.int .i64 (natS l a.toNat b.toNat)) := by
  have := natural_v (l := l) (t := t) (a := a.toNat) (b := b.toNat) hv (by omega) (by omega)
  rwa [show ((a.toNat : Nat) : Int) = a by omega, show ((b.toNat : Nat) : Int) = b by omega] at this

theorem nat_bound {l : List Item} (hv : valid l) {a b : Nat} (h1 : a < b) (h2 : b ≤ l.length) : 0 ≤ natS l a b ∧ natS l a b ≤ 100000000 := by
  have h3 := ws_bound hv (a := a) (b - 1 - a) (by omega)
  have h4 := hv.2.2.2 (b - 1) (by omega)
  have h5 := hv.2.1
  unfold okItem at h4
  unfold natS
  split <;> omega

theorem refCost_v {l : List Item} {t : Tok} {a b w : Int} (ht : Pt t) (hl : l.length < 1000000) : PV F 28 [.sl (items l) t, .int .i64 a, .int .i64 b, .int .i64 w] = some (.int .i64 (costR l w a b)) := by
  refine PV_wp (fn := c28) rfl ?_
  dsimp only [c28]
  try simp (maxSteps := 4000000) (disch := first | assumption | omega | (simp only [push_next, put_next, empty_next, List.length_cons, List.length_nil] <;> omega) | exact _root_.id rfl | exact _root_.id (fun _ => rfl) | fail) only [↓pre, post, Int.reduceEq, Int.reduceLT, Int.reduceLE, Int.reduceAdd, Int.reduceSub, Int.reduceMul, Int.reduceNeg, Nat.reduceLT, Nat.reduceSub, Nat.reduceMul, Nat.reduceAdd, Nat.reduceLeDiff, reduceIte, reduceCtorEq, Nat.reduceEqDiff, refReady_v, Item.toA]
  repeat' (first
    | (refine ifP_pos (by first | assumption | omega) ?_ <;> try simp (maxSteps := 4000000) (disch := first | assumption | omega | (simp only [push_next, put_next, empty_next, List.length_cons, List.length_nil] <;> omega) | exact _root_.id rfl | exact _root_.id (fun _ => rfl) | fail) only [↓pre, post, Int.reduceEq, Int.reduceLT, Int.reduceLE, Int.reduceAdd, Int.reduceSub, Int.reduceMul, Int.reduceNeg, Nat.reduceLT, Nat.reduceSub, Nat.reduceMul, Nat.reduceAdd, Nat.reduceLeDiff, reduceIte, reduceCtorEq, Nat.reduceEqDiff, refReady_v, Item.toA])
    | (refine ifP_neg (by first | assumption | omega) ?_ <;> try simp (maxSteps := 4000000) (disch := first | assumption | omega | (simp only [push_next, put_next, empty_next, List.length_cons, List.length_nil] <;> omega) | exact _root_.id rfl | exact _root_.id (fun _ => rfl) | fail) only [↓pre, post, Int.reduceEq, Int.reduceLT, Int.reduceLE, Int.reduceAdd, Int.reduceSub, Int.reduceMul, Int.reduceNeg, Nat.reduceLT, Nat.reduceSub, Nat.reduceMul, Nat.reduceAdd, Nat.reduceLeDiff, reduceIte, reduceCtorEq, Nat.reduceEqDiff, refReady_v, Item.toA])
    | (refine ifP_intro (fun hyp => ?_) (fun hyp => ?_) <;> first | simp (maxSteps := 4000000) (disch := first | assumption | omega | (simp only [push_next, put_next, empty_next, List.length_cons, List.length_nil] <;> omega) | exact _root_.id rfl | exact _root_.id (fun _ => rfl) | fail) only [↓pre, post, Int.reduceEq, Int.reduceLT, Int.reduceLE, Int.reduceAdd, Int.reduceSub, Int.reduceMul, Int.reduceNeg, Nat.reduceLT, Nat.reduceSub, Nat.reduceMul, Nat.reduceAdd, Nat.reduceLeDiff, reduceIte, reduceCtorEq, Nat.reduceEqDiff, refReady_v, Item.toA, eq_false hyp] | simp (maxSteps := 4000000) (disch := first | assumption | omega | (simp only [push_next, put_next, empty_next, List.length_cons, List.length_nil] <;> omega) | exact _root_.id rfl | exact _root_.id (fun _ => rfl) | fail) only [↓pre, post, Int.reduceEq, Int.reduceLT, Int.reduceLE, Int.reduceAdd, Int.reduceSub, Int.reduceMul, Int.reduceNeg, Nat.reduceLT, Nat.reduceSub, Nat.reduceMul, Nat.reduceAdd, Nat.reduceLeDiff, reduceIte, reduceCtorEq, Nat.reduceEqDiff, refReady_v, Item.toA, eq_true hyp] | skip))
  all_goals first
    | exact (if_neg fun h => (‹¬ (widthOk w ∧ valid l)› h.1)).symm
    | (rw [costR, if_neg]; unfold lineOk starts; omega)
    | skip
  all_goals
    have hv : valid l := ‹widthOk w ∧ valid l›.2
    have hw : widthOk w := ‹widthOk w ∧ valid l›.1
    have hw1 : 1 ≤ w := hw.1
    have hw2 : w ≤ 65536 := hw.2
    have hst : starts l a.toNat := by unfold starts; omega
    have hb := nat_bound hv (a := a.toNat) (b := b.toNat) (by omega) (by omega)
    have hs := sq_bound hw.1 hw.2 hb.1 hb.2
    have ho := hv.2.2.2 (b.toNat - 1) (by omega)
    unfold okItem at ho
    refine w_loop (fun m vs h1 => ∃ (i : Nat) (x6 x7 x8 x9 x10 x11 : AVal), m = b.toNat - i ∧ a ≤ i ∧ i ≤ b - 1 ∧ (∀ j, j < i → a ≤ j → (nth l j).kind ≠ 3) ∧
      vs = [.sl (items l) t, .int .i64 a, .int .i64 b, .int .i64 w, .int .i64 0, .int .i64 i, x6, x7, x8, x9, x10, x11]) (b.toNat - a.toNat)
      ⟨a.toNat, _, _, _, _, _, _, rfl, by omega, by omega, by intros; omega, by rw [show ((a.toNat : Nat) : Int) = a by omega]⟩ ?_
    rintro m vs h1 ⟨i, x6, x7, x8, x9, x10, x11, rfl, hai, hib, hno, rfl⟩
    try simp (maxSteps := 4000000) (disch := first | assumption | omega | (simp only [push_next, put_next, empty_next, List.length_cons, List.length_nil] <;> omega) | exact _root_.id rfl | exact _root_.id (fun _ => rfl) | fail) only [↓pre, post, Int.reduceEq, Int.reduceLT, Int.reduceLE, Int.reduceAdd, Int.reduceSub, Int.reduceMul, Int.reduceNeg, Nat.reduceLT, Nat.reduceSub, Nat.reduceMul, Nat.reduceAdd, Nat.reduceLeDiff, reduceIte, reduceCtorEq, Nat.reduceEqDiff, Item.toA, natural_i]
    repeat' (first
      | (refine ifP_pos (by first | assumption | omega) ?_ <;> try simp (maxSteps := 4000000) (disch := first | assumption | omega | (simp only [push_next, put_next, empty_next, List.length_cons, List.length_nil] <;> omega) | exact _root_.id rfl | exact _root_.id (fun _ => rfl) | fail) only [↓pre, post, Int.reduceEq, Int.reduceLT, Int.reduceLE, Int.reduceAdd, Int.reduceSub, Int.reduceMul, Int.reduceNeg, Nat.reduceLT, Nat.reduceSub, Nat.reduceMul, Nat.reduceAdd, Nat.reduceLeDiff, reduceIte, reduceCtorEq, Nat.reduceEqDiff, Item.toA, natural_i])
      | (refine ifP_neg (by first | assumption | omega) ?_ <;> try simp (maxSteps := 4000000) (disch := first | assumption | omega | (simp only [push_next, put_next, empty_next, List.length_cons, List.length_nil] <;> omega) | exact _root_.id rfl | exact _root_.id (fun _ => rfl) | fail) only [↓pre, post, Int.reduceEq, Int.reduceLT, Int.reduceLE, Int.reduceAdd, Int.reduceSub, Int.reduceMul, Int.reduceNeg, Nat.reduceLT, Nat.reduceSub, Nat.reduceMul, Nat.reduceAdd, Nat.reduceLeDiff, reduceIte, reduceCtorEq, Nat.reduceEqDiff, Item.toA, natural_i])
      | (refine ifP_intro (fun hyp => ?_) (fun hyp => ?_) <;> first | simp (maxSteps := 4000000) (disch := first | assumption | omega | (simp only [push_next, put_next, empty_next, List.length_cons, List.length_nil] <;> omega) | exact _root_.id rfl | exact _root_.id (fun _ => rfl) | fail) only [↓pre, post, Int.reduceEq, Int.reduceLT, Int.reduceLE, Int.reduceAdd, Int.reduceSub, Int.reduceMul, Int.reduceNeg, Nat.reduceLT, Nat.reduceSub, Nat.reduceMul, Nat.reduceAdd, Nat.reduceLeDiff, reduceIte, reduceCtorEq, Nat.reduceEqDiff, Item.toA, natural_i, eq_false hyp] | simp (maxSteps := 4000000) (disch := first | assumption | omega | (simp only [push_next, put_next, empty_next, List.length_cons, List.length_nil] <;> omega) | exact _root_.id rfl | exact _root_.id (fun _ => rfl) | fail) only [↓pre, post, Int.reduceEq, Int.reduceLT, Int.reduceLE, Int.reduceAdd, Int.reduceSub, Int.reduceMul, Int.reduceNeg, Nat.reduceLT, Nat.reduceSub, Nat.reduceMul, Nat.reduceAdd, Nat.reduceLeDiff, reduceIte, reduceCtorEq, Nat.reduceEqDiff, Item.toA, natural_i, eq_true hyp] | skip))
    · rw [costR, if_neg]; rintro ⟨_, _, _, h⟩; exact h.2.2.2.2.1 i (by omega) (by omega) hyp
    · refine lp_n ⟨b.toNat - (i + 1), by omega, i + 1, _, _, _, _, _, _, rfl, by omega, by omega, fun j hj ha => ?_, rfl⟩
      by_cases hji : j = i
      · subst hji; exact hyp
      · exact hno j (by omega) ha
    · rw [costR, if_neg]; rintro ⟨_, _, _, h⟩; have := h.2.2.2.2.2; omega
    · rw [costR, if_pos ⟨⟨hw, hv⟩, by omega, by omega, by omega, by omega, hst, by assumption, fun j hj ha => hno j (by omega) (by omega), by omega⟩, costN, if_pos hyp]
    · rw [costR, if_pos ⟨⟨hw, hv⟩, by omega, by omega, by omega, by omega, hst, by assumption, fun j hj ha => hno j (by omega) (by omega), by omega⟩, costN, if_neg hyp]

end Go.Proofs.Ytcammfdljiingaa
