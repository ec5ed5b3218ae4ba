/-
  The plans of the reference model, walked.
-/
import Derived.Test.YtcammfdljiingaaLbK
import Derived.Test.YtcammfdljiingaaLbJ
import Derived.Test.YtcammfdljiingaaLbN
import Derived.Test.YtcammfdljiingaaLbP
set_option linter.unusedSimpArgs false
set_option linter.unusedVariables false
set_option maxHeartbeats 8000000
namespace Go.Proofs.Ytcammfdljiingaa
open Go Go.Abs

structure Pl where
  lines : List Ln
  cost : Int
  is : Bool
  tok : Tok
  deriving Inhabited
def Pl.toA (q : Pl) : AVal := .agg [.sl (q.lines.map Ln.toA) q.tok, .int .i64 q.cost, .bool q.is]
def Pl.strip (q : Pl) : Pl := ⟨q.lines, q.cost, q.is, if q.tok = .nil then .nil else .none⟩

/-- What the ends say, if all else is equal. -/
def lexLn : List Ln → List Ln → Bool
  | a :: us, b :: bs => if a.b = b.b then lexLn us bs else decide (a.b < b.b)
  | _, _ => false
def betterS (a b : Pl) : Bool := if b.is = true then (if a.cost = b.cost then (if a.lines.length = b.lines.length then lexLn a.lines b.lines else decide (a.lines.length < b.lines.length)) else decide (a.cost < b.cost)) else true

theorem lexLn_drop {la lb : List Ln} {i : Nat} (h1 : i < la.length) (h2 : i < lb.length) : lexLn (la.drop i) (lb.drop i) = if (nth la i).b = (nth lb i).b then lexLn (la.drop (i + 1)) (lb.drop (i + 1)) else decide ((nth la i).b < (nth lb i).b) := by
  rw [List.drop_eq_getElem_cons h1, List.drop_eq_getElem_cons h2, nth_eq h1, nth_eq h2]; rfl

theorem better_v {a b : Pl} {ta tb : Tok} (h1 : a.lines.length < 100000) (h2 : b.lines.length < 100000) :
    PV F 54 [.agg [.sl (a.lines.map Ln.toA) ta, .int .i64 a.cost, .bool a.is], .agg [.sl (b.lines.map Ln.toA) tb, .int .i64 b.cost, .bool b.is]] = some (.bool (betterS a b)) := by
  refine PV_wp (fn := c54) rfl ?_
  dsimp only [c54]
  try simp (maxSteps := 4000000) (disch := first | assumption | omega | (simp only [push_next, put_next, empty_next, List.length_cons, List.length_nil] <;> omega) | exact _root_.id rfl | exact _root_.id (fun _ => rfl) | fail) only [↓pre, post, Int.reduceEq, Int.reduceLT, Int.reduceLE, Int.reduceAdd, Int.reduceSub, Int.reduceMul, Int.reduceNeg, Nat.reduceLT, Nat.reduceSub, Nat.reduceMul, Nat.reduceAdd, Nat.reduceLeDiff, reduceIte, reduceCtorEq, Nat.reduceEqDiff]
  repeat' (first
    | (refine ifP_pos (by first | assumption | omega) ?_ <;> try simp (maxSteps := 4000000) (disch := first | assumption | omega | (simp only [push_next, put_next, empty_next, List.length_cons, List.length_nil] <;> omega) | exact _root_.id rfl | exact _root_.id (fun _ => rfl) | fail) only [↓pre, post, Int.reduceEq, Int.reduceLT, Int.reduceLE, Int.reduceAdd, Int.reduceSub, Int.reduceMul, Int.reduceNeg, Nat.reduceLT, Nat.reduceSub, Nat.reduceMul, Nat.reduceAdd, Nat.reduceLeDiff, reduceIte, reduceCtorEq, Nat.reduceEqDiff])
    | (refine ifP_neg (by first | assumption | omega) ?_ <;> try simp (maxSteps := 4000000) (disch := first | assumption | omega | (simp only [push_next, put_next, empty_next, List.length_cons, List.length_nil] <;> omega) | exact _root_.id rfl | exact _root_.id (fun _ => rfl) | fail) only [↓pre, post, Int.reduceEq, Int.reduceLT, Int.reduceLE, Int.reduceAdd, Int.reduceSub, Int.reduceMul, Int.reduceNeg, Nat.reduceLT, Nat.reduceSub, Nat.reduceMul, Nat.reduceAdd, Nat.reduceLeDiff, reduceIte, reduceCtorEq, Nat.reduceEqDiff])
    | (refine ifP_intro (fun hyp => ?_) (fun hyp => ?_) <;> first | simp (maxSteps := 4000000) (disch := first | assumption | omega | (simp only [push_next, put_next, empty_next, List.length_cons, List.length_nil] <;> omega) | exact _root_.id rfl | exact _root_.id (fun _ => rfl) | fail) only [↓pre, post, Int.reduceEq, Int.reduceLT, Int.reduceLE, Int.reduceAdd, Int.reduceSub, Int.reduceMul, Int.reduceNeg, Nat.reduceLT, Nat.reduceSub, Nat.reduceMul, Nat.reduceAdd, Nat.reduceLeDiff, reduceIte, reduceCtorEq, Nat.reduceEqDiff, eq_false hyp] | simp (maxSteps := 4000000) (disch := first | assumption | omega | (simp only [push_next, put_next, empty_next, List.length_cons, List.length_nil] <;> omega) | exact _root_.id rfl | exact _root_.id (fun _ => rfl) | fail) only [↓pre, post, Int.reduceEq, Int.reduceLT, Int.reduceLE, Int.reduceAdd, Int.reduceSub, Int.reduceMul, Int.reduceNeg, Nat.reduceLT, Nat.reduceSub, Nat.reduceMul, Nat.reduceAdd, Nat.reduceLeDiff, reduceIte, reduceCtorEq, Nat.reduceEqDiff, eq_true hyp] | skip))
  · refine w_loop (fun m vs h0 => ∃ (i : Nat) (x6 x7 x8 x9 : AVal), m = a.lines.length - i ∧ i ≤ a.lines.length ∧ lexLn a.lines b.lines = lexLn (a.lines.drop i) (b.lines.drop i) ∧
      h0 = (Heap.empty.push (.row true 0 true [.sl (a.lines.map Ln.toA) ta, .int .i64 a.cost, .bool a.is])).push (.row true 0 true [.sl (b.lines.map Ln.toA) tb, .int .i64 b.cost, .bool b.is]) ∧
      vs = [.agg [.sl (a.lines.map Ln.toA) ta, .int .i64 a.cost, .bool a.is], .agg [.sl (b.lines.map Ln.toA) tb, .int .i64 b.cost, .bool b.is], .ptr 0 0, .ptr 1 0, .bool false, .int .i64 i, x6, x7, x8, x9]) a.lines.length
      ⟨0, _, _, _, _, rfl, by omega, rfl, rfl, rfl⟩ ?_
    rintro m vs h0 ⟨i, x6, x7, x8, x9, rfl, hi, hlx, rfl, rfl⟩
    have hbs : betterS a b = lexLn a.lines b.lines := by
      unfold betterS
      rw [if_pos (by assumption), if_pos (by assumption), if_pos (by omega)]
    try simp (maxSteps := 4000000) (disch := first | assumption | omega | (simp only [push_next, put_next, empty_next, List.length_cons, List.length_nil] <;> omega) | exact _root_.id rfl | exact _root_.id (fun _ => rfl) | fail) only [↓pre, post, Int.reduceEq, Int.reduceLT, Int.reduceLE, Int.reduceAdd, Int.reduceSub, Int.reduceMul, Int.reduceNeg, Nat.reduceLT, Nat.reduceSub, Nat.reduceMul, Nat.reduceAdd, Nat.reduceLeDiff, reduceIte, reduceCtorEq, Nat.reduceEqDiff, Ln.toA]
    repeat' (first
      | (refine ifP_pos (by first | assumption | omega) ?_ <;> try simp (maxSteps := 4000000) (disch := first | assumption | omega | (simp only [push_next, put_next, empty_next, List.length_cons, List.length_nil] <;> omega) | exact _root_.id rfl | exact _root_.id (fun _ => rfl) | fail) only [↓pre, post, Int.reduceEq, Int.reduceLT, Int.reduceLE, Int.reduceAdd, Int.reduceSub, Int.reduceMul, Int.reduceNeg, Nat.reduceLT, Nat.reduceSub, Nat.reduceMul, Nat.reduceAdd, Nat.reduceLeDiff, reduceIte, reduceCtorEq, Nat.reduceEqDiff, Ln.toA])
      | (refine ifP_neg (by first | assumption | omega) ?_ <;> try simp (maxSteps := 4000000) (disch := first | assumption | omega | (simp only [push_next, put_next, empty_next, List.length_cons, List.length_nil] <;> omega) | exact _root_.id rfl | exact _root_.id (fun _ => rfl) | fail) only [↓pre, post, Int.reduceEq, Int.reduceLT, Int.reduceLE, Int.reduceAdd, Int.reduceSub, Int.reduceMul, Int.reduceNeg, Nat.reduceLT, Nat.reduceSub, Nat.reduceMul, Nat.reduceAdd, Nat.reduceLeDiff, reduceIte, reduceCtorEq, Nat.reduceEqDiff, Ln.toA])
      | (refine ifP_intro (fun hyp => ?_) (fun hyp => ?_) <;> first | simp (maxSteps := 4000000) (disch := first | assumption | omega | (simp only [push_next, put_next, empty_next, List.length_cons, List.length_nil] <;> omega) | exact _root_.id rfl | exact _root_.id (fun _ => rfl) | fail) only [↓pre, post, Int.reduceEq, Int.reduceLT, Int.reduceLE, Int.reduceAdd, Int.reduceSub, Int.reduceMul, Int.reduceNeg, Nat.reduceLT, Nat.reduceSub, Nat.reduceMul, Nat.reduceAdd, Nat.reduceLeDiff, reduceIte, reduceCtorEq, Nat.reduceEqDiff, Ln.toA, eq_false hyp] | simp (maxSteps := 4000000) (disch := first | assumption | omega | (simp only [push_next, put_next, empty_next, List.length_cons, List.length_nil] <;> omega) | exact _root_.id rfl | exact _root_.id (fun _ => rfl) | fail) only [↓pre, post, Int.reduceEq, Int.reduceLT, Int.reduceLE, Int.reduceAdd, Int.reduceSub, Int.reduceMul, Int.reduceNeg, Nat.reduceLT, Nat.reduceSub, Nat.reduceMul, Nat.reduceAdd, Nat.reduceLeDiff, reduceIte, reduceCtorEq, Nat.reduceEqDiff, Ln.toA, eq_true hyp] | skip))
    · have hd := lexLn_drop (la := a.lines) (lb := b.lines) (i := i) (by omega) (by omega)
      rw [if_pos hyp] at hd
      exact lp_n ⟨a.lines.length - (i + 1), by omega, i + 1, _, _, _, _, rfl, by omega, by rw [hlx, hd], rfl, rfl⟩
    · have hd := lexLn_drop (la := a.lines) (lb := b.lines) (i := i) (by omega) (by omega)
      rw [if_neg hyp] at hd
      rw [hbs, hlx, hd]
    · rw [hbs, hlx, List.drop_eq_nil_of_le (by omega)]; rfl
  · unfold betterS
    rw [if_pos (by assumption), if_pos (by assumption), if_neg (by omega)]
    simp only [Int.ofNat_lt]
  · unfold betterS
    rw [if_pos (by assumption), if_neg hyp]
  · unfold betterS
    rw [if_neg hyp]

/-! ### the plans -/
def zeroPl : Pl := ⟨[], 0, false, .nil⟩
def Pl.er (q : Pl) : Pl := ⟨q.lines, q.cost, q.is, .nil⟩
def newPl (l : List Item) (p : Nat) (q : Pl) (x : Nat × Int × Int) : Pl := ⟨(if p = 0 then [] else q.lines) ++ [⟨skip l p, x.1, x.2.1⟩], if p = 0 then x.2.2 else x.2.2 + q.cost, true, .nil⟩
def bst (l : List Item) (p : Nat) (q : Pl) (s : List Pl) (x : Nat × Int × Int) : List Pl := if betterS (newPl l p q x) (nth s (x.1 - 1)) = true then s.set (x.1 - 1) (newPl l p q x) else s
def rnd (l : List Item) (w : Int) (s : List Pl) (p : Nat) : List Pl := if 0 < p ∧ ¬ (nth s (p - 1)).is = true then s else (linesAt l w p).foldl (bst l p (nth s (p - 1))) s
def plansS (l : List Item) (w : Int) : List Pl := (List.range l.length).foldl (rnd l w) (List.replicate l.length zeroPl)

/-- Bounds of the plans. -/
def Bnd (s : List Pl) : Prop := ∀ k, 0 ≤ (nth s k).cost ∧ (nth s k).cost ≤ (k + 1) * 5000000000 ∧ (nth s k).lines.length ≤ k + 1

theorem nth_map {α β : Type} [Inhabited α] [Inhabited β] (f : α → β) (l : List α) {i : Nat} (h : i < l.length) : nth (l.map f) i = f (nth l i) := by
  rw [nth_eq (by simpa using h), nth_eq h]; simp

def tokSt : Tok → Tok
  | .own _ _ => .none
  | t => t
theorem strip_tk (xs : List AVal) (tk : Tok) : strip (.sl xs tk) = some (.sl xs (tokSt tk)) := by cases tk <;> rfl

theorem linesUpTo {l : List Item} {w : Int} {p b : Nat} (hb : skip l p + 1 ≤ b) (s : List Pl) (q : Pl) :
    ((List.range' (skip l p + 1) (b + 1 - (skip l p + 1))).filterMap (lineAt l w (skip l p))).foldl (bst l p q) s =
    (match lineAt l w (skip l p) b with | some x => bst l p q (((List.range' (skip l p + 1) (b - (skip l p + 1))).filterMap (lineAt l w (skip l p))).foldl (bst l p q) s) x | none => ((List.range' (skip l p + 1) (b - (skip l p + 1))).filterMap (lineAt l w (skip l p))).foldl (bst l p q) s) := by
  rw [show b + 1 - (skip l p + 1) = (b - (skip l p + 1)) + 1 by omega, List.range'_concat, List.filterMap_append, List.foldl_append, Nat.one_mul, show skip l p + 1 + (b - (skip l p + 1)) = b by omega]
  simp only [List.filterMap_cons, List.filterMap_nil]
  cases lineAt l w (skip l p) b <;> rfl

set_option maxRecDepth 10000 in
theorem plans_v {l : List Item} {t : Tok} {w : Int} (ht : Pt t) (hv : valid l) (hw : widthOk w) : ∃ ps : List Pl, PV F 39 [.sl (items l) t, .int .i64 w] = some (.sl (ps.map fun q => Pl.toA q.strip) .none) ∧ ps.map Pl.er = plansS l w ∧ Bnd (plansS l w) := by
  have hl := hv.2.1
  have hl1 := hv.1
  suffices hs : CV F 39 [.sl (items l) t, .int .i64 w] Heap.empty (fun r h' => ∃ ps : List Pl, r = .ref 0 0 l.length 3 ∧ h'.get 0 = some (.row true 3 true (flat (ps.map Pl.toA))) ∧ ps.length = l.length ∧ ps.map Pl.er = plansS l w ∧ Bnd (plansS l w)) by
    obtain ⟨r, h', c, ps, rfl, e1, e2, e3, e4⟩ := hs
    refine ⟨ps, PV_of c ?_, e3, e4⟩
    rw [pu_ref, ← e2]
    have := readRef_flat (sz := 3) (f := Pl.toA) (g := fun q => Pl.toA q.strip) (fun _ => rfl) (fun _ => rfl) true (fun _ => rfl) (fun q => ?_) ps e1 (Nat.le_refl _)
    · rw [this, List.take_length]; rfl
    · unfold Pl.toA Pl.strip
      simp only [cells_agg]
      cases q.tok <;> rfl
  refine CV_wp (fn := c39) rfl ?_
  dsimp only [c39]
  try simp (maxSteps := 4000000) (disch := first | assumption | omega | (simp only [push_next, put_next, empty_next, List.length_cons, List.length_nil] <;> omega) | exact _root_.id rfl | exact _root_.id (fun _ => rfl) | fail) only [↓pre, post, Int.reduceEq, Int.reduceLT, Int.reduceLE, Int.reduceAdd, Int.reduceSub, Int.reduceMul, Int.reduceNeg, Nat.reduceLT, Nat.reduceSub, Nat.reduceMul, Nat.reduceAdd, Nat.reduceLeDiff, reduceIte, reduceCtorEq, Nat.reduceEqDiff]
  repeat' (first
    | (refine ifP_pos (by first | assumption | omega) ?_ <;> try simp (maxSteps := 4000000) (disch := first | assumption | omega | (simp only [push_next, put_next, empty_next, List.length_cons, List.length_nil] <;> omega) | exact _root_.id rfl | exact _root_.id (fun _ => rfl) | fail) only [↓pre, post, Int.reduceEq, Int.reduceLT, Int.reduceLE, Int.reduceAdd, Int.reduceSub, Int.reduceMul, Int.reduceNeg, Nat.reduceLT, Nat.reduceSub, Nat.reduceMul, Nat.reduceAdd, Nat.reduceLeDiff, reduceIte, reduceCtorEq, Nat.reduceEqDiff])
    | (refine ifP_neg (by first | assumption | omega) ?_ <;> try simp (maxSteps := 4000000) (disch := first | assumption | omega | (simp only [push_next, put_next, empty_next, List.length_cons, List.length_nil] <;> omega) | exact _root_.id rfl | exact _root_.id (fun _ => rfl) | fail) only [↓pre, post, Int.reduceEq, Int.reduceLT, Int.reduceLE, Int.reduceAdd, Int.reduceSub, Int.reduceMul, Int.reduceNeg, Nat.reduceLT, Nat.reduceSub, Nat.reduceMul, Nat.reduceAdd, Nat.reduceLeDiff, reduceIte, reduceCtorEq, Nat.reduceEqDiff])
    | (refine ifP_intro (fun hyp => ?_) (fun hyp => ?_) <;> first | simp (maxSteps := 4000000) (disch := first | assumption | omega | (simp only [push_next, put_next, empty_next, List.length_cons, List.length_nil] <;> omega) | exact _root_.id rfl | exact _root_.id (fun _ => rfl) | fail) only [↓pre, post, Int.reduceEq, Int.reduceLT, Int.reduceLE, Int.reduceAdd, Int.reduceSub, Int.reduceMul, Int.reduceNeg, Nat.reduceLT, Nat.reduceSub, Nat.reduceMul, Nat.reduceAdd, Nat.reduceLeDiff, reduceIte, reduceCtorEq, Nat.reduceEqDiff, eq_false hyp] | simp (maxSteps := 4000000) (disch := first | assumption | omega | (simp only [push_next, put_next, empty_next, List.length_cons, List.length_nil] <;> omega) | exact _root_.id rfl | exact _root_.id (fun _ => rfl) | fail) only [↓pre, post, Int.reduceEq, Int.reduceLT, Int.reduceLE, Int.reduceAdd, Int.reduceSub, Int.reduceMul, Int.reduceNeg, Nat.reduceLT, Nat.reduceSub, Nat.reduceMul, Nat.reduceAdd, Nat.reduceLeDiff, reduceIte, reduceCtorEq, Nat.reduceEqDiff, eq_true hyp] | skip))
  refine w_loop (fun m vs h0 => ∃ (p : Nat) (z : Int) (ps : List Pl) (x5 x6 x7 x8 x9 x10 x11 x12 x13 x14 : AVal), m = l.length - p ∧ z = (p : Int) - 1 ∧ p ≤ l.length ∧ h0.get 0 = some (.row true 3 true (flat (ps.map Pl.toA))) ∧ ps.length = l.length ∧ ps.map Pl.er = (List.range p).foldl (rnd l w) (List.replicate l.length zeroPl) ∧ Bnd (ps.map Pl.er) ∧ 1 ≤ h0.next ∧
    vs = [.sl (items l) t, .int .i64 w, .sl [] .nil, .ref 0 0 l.length 3, .int .i64 z, x5, x6, x7, x8, x9, x10, x11, x12, x13, x14]) l.length
    ⟨0, -1, List.replicate l.length zeroPl, _, _, _, _, _, _, _, _, _, _, rfl, by omega, by omega, by rw [← repl_flat (f := Pl.toA) zeroPl rfl]; rfl, by simp, by simp [zeroPl, Pl.er], ?_, by simp [push_next, empty_next], rfl⟩ ?_
  · intro k
    by_cases hk : k < l.length
    · rw [nth_map _ _ (by simpa using hk), nth_replicate hk]; simp [zeroPl, Pl.er]; omega
    · rw [nth, List.getD_eq_getElem?_getD, List.getElem?_eq_none (by simp; omega)]; simp [default, instInhabitedPl.default]; omega
  rintro m vs h0 ⟨p, z, ps, x5, x6, x7, x8, x9, x10, x11, x12, x13, x14, rfl, hz, hp, hrow, hpl, hps, hbnd, hn1, rfl⟩
  have hst : p ≤ l.length → PV F 29 [.sl (items l) t, .int .i64 z] = some (.int .i64 (skip l p)) := fun h => refStart_v p hz (by omega) (by omega)
  have hzt : z.toNat = p - 1 := by omega
  have hskl : skip l p ≤ l.length := skip_le hp
  have hrc : ∀ a b, PV F 28 [.sl (items l) t, .int .i64 a, .int .i64 b, .int .i64 w] = some (.int .i64 (costR l w a b)) := fun a b => refCost_v ht (by omega)
  have L2 : 0 < p → loadG 1 false ((p - 1) * 3 + 2) (h0.get 0) = some (.bool (nth ps (p - 1)).is) := fun h => by
    rw [hrow, loadG_flat (f := Pl.toA) (fun _ => rfl) ps false true 3 true (by omega) (by omega)]; rfl
  try simp (maxSteps := 4000000) (disch := first | assumption | omega | (simp only [push_next, put_next, empty_next, List.length_cons, List.length_nil] <;> omega) | exact _root_.id rfl | exact _root_.id (fun _ => rfl) | fail) only [↓pre, post, Int.reduceEq, Int.reduceLT, Int.reduceLE, Int.reduceAdd, Int.reduceSub, Int.reduceMul, Int.reduceNeg, Nat.reduceLT, Nat.reduceSub, Nat.reduceMul, Nat.reduceAdd, Nat.reduceLeDiff, reduceIte, reduceCtorEq, Nat.reduceEqDiff, hst, hzt, L2]
  repeat' (first
    | (refine ifP_pos (by first | assumption | omega) ?_ <;> try simp (maxSteps := 4000000) (disch := first | assumption | omega | (simp only [push_next, put_next, empty_next, List.length_cons, List.length_nil] <;> omega) | exact _root_.id rfl | exact _root_.id (fun _ => rfl) | fail) only [↓pre, post, Int.reduceEq, Int.reduceLT, Int.reduceLE, Int.reduceAdd, Int.reduceSub, Int.reduceMul, Int.reduceNeg, Nat.reduceLT, Nat.reduceSub, Nat.reduceMul, Nat.reduceAdd, Nat.reduceLeDiff, reduceIte, reduceCtorEq, Nat.reduceEqDiff, hst, hzt, L2])
    | (refine ifP_neg (by first | assumption | omega) ?_ <;> try simp (maxSteps := 4000000) (disch := first | assumption | omega | (simp only [push_next, put_next, empty_next, List.length_cons, List.length_nil] <;> omega) | exact _root_.id rfl | exact _root_.id (fun _ => rfl) | fail) only [↓pre, post, Int.reduceEq, Int.reduceLT, Int.reduceLE, Int.reduceAdd, Int.reduceSub, Int.reduceMul, Int.reduceNeg, Nat.reduceLT, Nat.reduceSub, Nat.reduceMul, Nat.reduceAdd, Nat.reduceLeDiff, reduceIte, reduceCtorEq, Nat.reduceEqDiff, hst, hzt, L2])
    | (refine ifP_intro (fun hyp => ?_) (fun hyp => ?_) <;> first | simp (maxSteps := 4000000) (disch := first | assumption | omega | (simp only [push_next, put_next, empty_next, List.length_cons, List.length_nil] <;> omega) | exact _root_.id rfl | exact _root_.id (fun _ => rfl) | fail) only [↓pre, post, Int.reduceEq, Int.reduceLT, Int.reduceLE, Int.reduceAdd, Int.reduceSub, Int.reduceMul, Int.reduceNeg, Nat.reduceLT, Nat.reduceSub, Nat.reduceMul, Nat.reduceAdd, Nat.reduceLeDiff, reduceIte, reduceCtorEq, Nat.reduceEqDiff, hst, hzt, L2, eq_false hyp] | simp (maxSteps := 4000000) (disch := first | assumption | omega | (simp only [push_next, put_next, empty_next, List.length_cons, List.length_nil] <;> omega) | exact _root_.id rfl | exact _root_.id (fun _ => rfl) | fail) only [↓pre, post, Int.reduceEq, Int.reduceLT, Int.reduceLE, Int.reduceAdd, Int.reduceSub, Int.reduceMul, Int.reduceNeg, Nat.reduceLT, Nat.reduceSub, Nat.reduceMul, Nat.reduceAdd, Nat.reduceLeDiff, reduceIte, reduceCtorEq, Nat.reduceEqDiff, hst, hzt, L2, eq_true hyp] | skip))
  · refine w_loop (fun m vs h1 => ∃ (b : Nat) (qs : List Pl) (x7 x8 x9 x10 x11 x12 x13 x14 : AVal), m = l.length + 1 - b ∧ skip l p + 1 ≤ b ∧ b ≤ l.length + 1 ∧ h1.get 0 = some (.row true 3 true (flat (qs.map Pl.toA))) ∧ qs.length = l.length ∧
      qs.map Pl.er = ((List.range' (skip l p + 1) (b - (skip l p + 1))).filterMap (lineAt l w (skip l p))).foldl (bst l p (nth (ps.map Pl.er) (p - 1))) (ps.map Pl.er) ∧ (∀ k, k < p → nth (qs.map Pl.er) k = nth (ps.map Pl.er) k) ∧ Bnd (qs.map Pl.er) ∧ 1 ≤ h1.next ∧
      vs = [.sl (items l) t, .int .i64 w, .sl [] .nil, .ref 0 0 l.length 3, .int .i64 z, .int .i64 (skip l p), .int .i64 b, x7, x8, x9, x10, x11, x12, x13, x14]) (l.length - skip l p)
      ⟨skip l p + 1, ps, _, _, _, _, _, _, _, _, by omega, by omega, by omega, hrow, hpl, by rw [Nat.sub_self]; rfl, fun _ _ => rfl, hbnd, hn1, rfl⟩ ?_
    rintro m vs h1 ⟨b, qs, x7, x8, x9, x10, x11, x12, x13, x14, rfl, hb1, hb2, hrow1, hql, hqs, hkeep, hbq, hn2, rfl⟩
    have hcl := costR_line (l := l) (w := w) (p := p) (b := b) hv hw
    have hup := linesUpTo (l := l) (w := w) (p := p) hb1 (ps.map Pl.er) (nth (ps.map Pl.er) (p - 1))
    rw [← hqs] at hup
    have hge := skip_ge (l := l) (p := p)
    have hcu : costR l w (skip l p : Nat) (b : Nat) ≤ 5000000000 := by
      by_cases h : lineOk l w (skip l p) b
      · rw [hcl.2 h]; exact (cost_bound hv hw h).2
      · have := hcl.1; rw [iff_false_right h] at this; omega
    have hq1 : 0 < p → 0 ≤ (nth qs (p - 1)).cost ∧ (nth qs (p - 1)).cost ≤ p * 5000000000 ∧ (nth qs (p - 1)).lines.length ≤ p := fun h => by
      have := hbq (p - 1)
      rw [nth_map _ _ (by omega)] at this
      have e : ((p - 1 : Nat) : Int) + 1 = p := by omega
      rw [e] at this
      exact ⟨this.1, this.2.1, by have := this.2.2; simp only [Pl.er] at this; omega⟩
    have hqb : b ≤ l.length → (nth qs (b - 1)).lines.length ≤ b := fun h => by
      have := (hbq (b - 1)).2.2
      rw [nth_map _ _ (by omega)] at this
      simp only [Pl.er] at this; omega
    have L1 : 0 < p → loadG 1 false ((p - 1) * 3 + 1) (h1.get 0) = some (.int .i64 (nth qs (p - 1)).cost) := fun h => by
      rw [hrow1, loadG_flat (f := Pl.toA) (fun _ => rfl) qs false true 3 true (by omega) (by omega)]; rfl
    have L0 : 0 < p → loadG 1 false ((p - 1) * 3) (h1.get 0) = some (.sl ((nth qs (p - 1)).lines.map Ln.toA) (nth qs (p - 1)).tok) := fun h => by
      rw [hrow1, loadG_flat0 (f := Pl.toA) (sz := 3) (fun _ => rfl) qs false true 3 true (by omega) (by omega)]; rfl
    have Lw : b ≤ l.length → loadG 3 true ((b - 1) * 3) (h1.get 0) = some (.agg [.sl ((nth qs (b - 1)).lines.map Ln.toA) (nth qs (b - 1)).tok, .int .i64 (nth qs (b - 1)).cost, .bool (nth qs (b - 1)).is]) := fun h => by
      rw [hrow1, loadG_flat0 (f := Pl.toA) (sz := 3) (fun _ => rfl) qs true true 3 true (by omega) (by omega)]; rfl
    have Sw : ∀ (X : List Ln) (tkx : Tok) (cx : Int) (H : Heap), b ≤ l.length → storeG 3 0 ((b - 1) * 3) (.agg [.sl (X.map Ln.toA) tkx, .int .i64 cx, .bool true]) H (h1.get 0) = some (H.put 0 (some (.row true 3 true (flat ((qs.set (b - 1) ⟨X, cx, true, tkx⟩).map Pl.toA))))) := fun X tkx cx H h => by
      rw [hrow1]
      exact storeG_flatw (f := Pl.toA) (sz := 3) (fun _ => rfl) qs 3 true ⟨X, cx, true, tkx⟩ (by omega) rfl
    have hnat : b ≤ l.length → PV F 31 [.sl (items l) t, .int .i64 (skip l p : Nat), .int .i64 (b : Nat)] = some (.int .i64 (natS l (skip l p) b)) := fun h => natural_v hv (by omega) h
    -- the round goes on
    have fin : ∀ (h3 : Heap) (qs' : List Pl) (c7 c8 c9 c10 c11 c12 c13 c14 : AVal), b ≤ l.length → h3.get 0 = some (.row true 3 true (flat (qs'.map Pl.toA))) → 1 ≤ h3.next → qs'.length = l.length →
        ((¬ lineOk l w (skip l p) b ∧ qs'.map Pl.er = qs.map Pl.er) ∨ (lineOk l w (skip l p) b ∧ qs'.map Pl.er = bst l p (nth (ps.map Pl.er) (p - 1)) (qs.map Pl.er) (b, natS l (skip l p) b, costN l w (skip l p) b))) →
        ∃ m', m' < l.length + 1 - b ∧ ∃ (b' : Nat) (qs : List Pl) (x7 x8 x9 x10 x11 x12 x13 x14 : AVal), m' = l.length + 1 - b' ∧ skip l p + 1 ≤ b' ∧ b' ≤ l.length + 1 ∧ h3.get 0 = some (.row true 3 true (flat (qs.map Pl.toA))) ∧ qs.length = l.length ∧
          qs.map Pl.er = ((List.range' (skip l p + 1) (b' - (skip l p + 1))).filterMap (lineAt l w (skip l p))).foldl (bst l p (nth (ps.map Pl.er) (p - 1))) (ps.map Pl.er) ∧ (∀ k, k < p → nth (qs.map Pl.er) k = nth (ps.map Pl.er) k) ∧ Bnd (qs.map Pl.er) ∧ 1 ≤ h3.next ∧
          [AVal.sl (items l) t, .int .i64 w, .sl [] .nil, .ref 0 0 l.length 3, .int .i64 z, .int .i64 (skip l p), .int .i64 ((b : Int) + 1), c7, c8, c9, c10, c11, c12, c13, c14] = [.sl (items l) t, .int .i64 w, .sl [] .nil, .ref 0 0 l.length 3, .int .i64 z, .int .i64 (skip l p), .int .i64 b', x7, x8, x9, x10, x11, x12, x13, x14] := by
      intro h3 qs' c7 c8 c9 c10 c11 c12 c13 c14 hbl hr3 hn3 hql3 hor
      have hkq : 0 < p → nth (ps.map Pl.er) (p - 1) = (nth qs (p - 1)).er := fun h => by rw [← hkeep (p - 1) (by omega), nth_map _ _ (by omega)]
      refine ⟨l.length + 1 - (b + 1), by omega, b + 1, qs', c7, c8, c9, c10, c11, c12, c13, c14, rfl, by omega, by omega, hr3, hql3, ?_, ?_, ?_, hn3, rfl⟩
      · rw [hup]
        rcases hor with ⟨h, e⟩ | ⟨h, e⟩
        · rw [lineAt, if_neg h]; exact e
        · rw [lineAt, if_pos h]; exact e
      · intro k hk
        rcases hor with ⟨h, e⟩ | ⟨h, e⟩
        · rw [e]; exact hkeep k hk
        · rw [e, bst]
          split
          · rw [nth_set_ne (by simp only; omega)]; exact hkeep k hk
          · exact hkeep k hk
      · rcases hor with ⟨h, e⟩ | ⟨h, e⟩
        · rw [e]; exact hbq
        · rw [e, bst]
          split
          · intro k
            by_cases hk : b - 1 = k
            · subst hk
              have hcb := cost_bound hv hw h
              rw [nth_set_self (by simp; omega)]
              have e1 : ((b - 1 : Nat) : Int) + 1 = b := by omega
              rw [e1]
              by_cases hp0 : p = 0
              · simp [newPl, hp0]; subst hp0; omega
              · have := hq1 (by omega)
                simp only [newPl, if_neg hp0, hkq (by omega), Pl.er, List.length_append, List.length_cons, List.length_nil]
                omega
            · rw [nth_set_ne hk]; exact hbq k
          · exact hbq
    try simp (maxSteps := 4000000) (disch := first | assumption | omega | (simp only [push_next, put_next, empty_next, List.length_cons, List.length_nil] <;> omega) | exact _root_.id rfl | exact _root_.id (fun _ => rfl) | fail) only [↓pre, post, Int.reduceEq, Int.reduceLT, Int.reduceLE, Int.reduceAdd, Int.reduceSub, Int.reduceMul, Int.reduceNeg, Nat.reduceLT, Nat.reduceSub, Nat.reduceMul, Nat.reduceAdd, Nat.reduceLeDiff, reduceIte, reduceCtorEq, Nat.reduceEqDiff, hrc, hzt, L1, L0]
    repeat' (first
      | (refine ifP_pos (by first | assumption | omega) ?_ <;> try simp (maxSteps := 4000000) (disch := first | assumption | omega | (simp only [push_next, put_next, empty_next, List.length_cons, List.length_nil] <;> omega) | exact _root_.id rfl | exact _root_.id (fun _ => rfl) | fail) only [↓pre, post, Int.reduceEq, Int.reduceLT, Int.reduceLE, Int.reduceAdd, Int.reduceSub, Int.reduceMul, Int.reduceNeg, Nat.reduceLT, Nat.reduceSub, Nat.reduceMul, Nat.reduceAdd, Nat.reduceLeDiff, reduceIte, reduceCtorEq, Nat.reduceEqDiff, hrc, hzt, L1, L0])
      | (refine ifP_neg (by first | assumption | omega) ?_ <;> try simp (maxSteps := 4000000) (disch := first | assumption | omega | (simp only [push_next, put_next, empty_next, List.length_cons, List.length_nil] <;> omega) | exact _root_.id rfl | exact _root_.id (fun _ => rfl) | fail) only [↓pre, post, Int.reduceEq, Int.reduceLT, Int.reduceLE, Int.reduceAdd, Int.reduceSub, Int.reduceMul, Int.reduceNeg, Nat.reduceLT, Nat.reduceSub, Nat.reduceMul, Nat.reduceAdd, Nat.reduceLeDiff, reduceIte, reduceCtorEq, Nat.reduceEqDiff, hrc, hzt, L1, L0])
      | (refine ifP_intro (fun hyp => ?_) (fun hyp => ?_) <;> first | simp (maxSteps := 4000000) (disch := first | assumption | omega | (simp only [push_next, put_next, empty_next, List.length_cons, List.length_nil] <;> omega) | exact _root_.id rfl | exact _root_.id (fun _ => rfl) | fail) only [↓pre, post, Int.reduceEq, Int.reduceLT, Int.reduceLE, Int.reduceAdd, Int.reduceSub, Int.reduceMul, Int.reduceNeg, Nat.reduceLT, Nat.reduceSub, Nat.reduceMul, Nat.reduceAdd, Nat.reduceLeDiff, reduceIte, reduceCtorEq, Nat.reduceEqDiff, hrc, hzt, L1, L0, eq_false hyp] | simp (maxSteps := 4000000) (disch := first | assumption | omega | (simp only [push_next, put_next, empty_next, List.length_cons, List.length_nil] <;> omega) | exact _root_.id rfl | exact _root_.id (fun _ => rfl) | fail) only [↓pre, post, Int.reduceEq, Int.reduceLT, Int.reduceLE, Int.reduceAdd, Int.reduceSub, Int.reduceMul, Int.reduceNeg, Nat.reduceLT, Nat.reduceSub, Nat.reduceMul, Nat.reduceAdd, Nat.reduceLeDiff, reduceIte, reduceCtorEq, Nat.reduceEqDiff, hrc, hzt, L1, L0, eq_true hyp] | skip))
    · exact lp_n (fin _ qs _ _ _ _ _ _ _ _ (by omega) hrow1 hn2 hql (.inl ⟨fun h => by have := hcl.1.2 h; omega, rfl⟩))
    · have hlo := hcl.1.1 (by omega)
      have hpos : 0 < p := by omega
      have hq := hq1 hpos
      refine append_K (f := Ln.toA) (tk := .nil) [] (nth qs (p - 1)).lines (fun _ => rfl) (fun _ => rfl) (fun _ => rfl) lenA_sl (elems_sl (fun _ => rfl)) (.inl rfl) (by simp) (by simp; omega) (by omega) (by omega) (by omega) ?_
      intro h2 tk2 g2 n2 le2 k2 _ _
      have r2 := k2 _ _ _ _ _ (get_push h1 _)
      have r2' : ∀ o, (h2.put h1.next o).get h1.next = o := fun o => get_put_old r2
      have z2 : h2.get 0 = h1.get 0 := by rw [k2 _ _ _ _ _ (get_push_old hrow1), hrow1]
      try simp (maxSteps := 4000000) (disch := first | assumption | omega | (simp only [push_next, put_next, empty_next, List.length_cons, List.length_nil] <;> omega) | exact _root_.id rfl | exact _root_.id (fun _ => rfl) | fail) only [↓pre, post, Int.reduceEq, Int.reduceLT, Int.reduceLE, Int.reduceAdd, Int.reduceSub, Int.reduceMul, Int.reduceNeg, Nat.reduceLT, Nat.reduceSub, Nat.reduceMul, Nat.reduceAdd, Nat.reduceLeDiff, reduceIte, reduceCtorEq, Nat.reduceEqDiff, r2, r2', z2, hnat]
      repeat' (first
        | (refine ifP_pos (by first | assumption | omega) ?_ <;> try simp (maxSteps := 4000000) (disch := first | assumption | omega | (simp only [push_next, put_next, empty_next, List.length_cons, List.length_nil] <;> omega) | exact _root_.id rfl | exact _root_.id (fun _ => rfl) | fail) only [↓pre, post, Int.reduceEq, Int.reduceLT, Int.reduceLE, Int.reduceAdd, Int.reduceSub, Int.reduceMul, Int.reduceNeg, Nat.reduceLT, Nat.reduceSub, Nat.reduceMul, Nat.reduceAdd, Nat.reduceLeDiff, reduceIte, reduceCtorEq, Nat.reduceEqDiff, r2, r2', z2, hnat])
        | (refine ifP_neg (by first | assumption | omega) ?_ <;> try simp (maxSteps := 4000000) (disch := first | assumption | omega | (simp only [push_next, put_next, empty_next, List.length_cons, List.length_nil] <;> omega) | exact _root_.id rfl | exact _root_.id (fun _ => rfl) | fail) only [↓pre, post, Int.reduceEq, Int.reduceLT, Int.reduceLE, Int.reduceAdd, Int.reduceSub, Int.reduceMul, Int.reduceNeg, Nat.reduceLT, Nat.reduceSub, Nat.reduceMul, Nat.reduceAdd, Nat.reduceLeDiff, reduceIte, reduceCtorEq, Nat.reduceEqDiff, r2, r2', z2, hnat])
        | (refine ifP_intro (fun hyp => ?_) (fun hyp => ?_) <;> first | simp (maxSteps := 4000000) (disch := first | assumption | omega | (simp only [push_next, put_next, empty_next, List.length_cons, List.length_nil] <;> omega) | exact _root_.id rfl | exact _root_.id (fun _ => rfl) | fail) only [↓pre, post, Int.reduceEq, Int.reduceLT, Int.reduceLE, Int.reduceAdd, Int.reduceSub, Int.reduceMul, Int.reduceNeg, Nat.reduceLT, Nat.reduceSub, Nat.reduceMul, Nat.reduceAdd, Nat.reduceLeDiff, reduceIte, reduceCtorEq, Nat.reduceEqDiff, r2, r2', z2, hnat, eq_false hyp] | simp (maxSteps := 4000000) (disch := first | assumption | omega | (simp only [push_next, put_next, empty_next, List.length_cons, List.length_nil] <;> omega) | exact _root_.id rfl | exact _root_.id (fun _ => rfl) | fail) only [↓pre, post, Int.reduceEq, Int.reduceLT, Int.reduceLE, Int.reduceAdd, Int.reduceSub, Int.reduceMul, Int.reduceNeg, Nat.reduceLT, Nat.reduceSub, Nat.reduceMul, Nat.reduceAdd, Nat.reduceLeDiff, reduceIte, reduceCtorEq, Nat.reduceEqDiff, r2, r2', z2, hnat, eq_true hyp] | skip))
      refine append_K (f := Ln.toA) (tk := tk2) (nth qs (p - 1)).lines [⟨(skip l p : Nat), (b : Nat), natS l (skip l p) b⟩] (fun _ => rfl) (fun _ => rfl) (fun _ => rfl) rfl rfl (g2.put r2 _) (by simpa using n2) (by simp; omega) (by omega) (by omega) (by omega) ?_
      intro h3 tk3 g3 n3 le3 k3 _ _
      have r3 := k3 _ _ _ _ _ (r2' _)
      have r3' : ∀ o, (h3.put h1.next o).get h1.next = o := fun o => get_put_old r3
      have z3 : h3.get 0 = h1.get 0 := by rw [k3 _ _ _ _ _ (by rw [get_put_ne (by omega), z2, hrow1]), hrow1]
      have hnx3 : 1 ≤ h3.next := by rw [put_next] at le3; rw [push_next] at le2; omega
      have B1 : ∀ ta tb, PV F 54 [.agg [.sl (((nth qs (p - 1)).lines ++ [(⟨(skip l p : Nat), (b : Nat), natS l (skip l p) b⟩ : Ln)]).map Ln.toA) ta, .int .i64 (costR l w (skip l p : Nat) (b : Nat) + (nth qs (p - 1)).cost), .bool true], .agg [.sl ((nth qs (b - 1)).lines.map Ln.toA) tb, .int .i64 (nth qs (b - 1)).cost, .bool (nth qs (b - 1)).is]] =
          some (.bool (betterS ⟨(nth qs (p - 1)).lines ++ [(⟨(skip l p : Nat), (b : Nat), natS l (skip l p) b⟩ : Ln)], costR l w (skip l p : Nat) (b : Nat) + (nth qs (p - 1)).cost, true, .nil⟩ (nth qs (b - 1)))) := fun ta tb => better_v (a := ⟨_, _, _, .nil⟩) (by simp; omega) (by have := hqb (by omega); omega)
      have hnew : newPl l p (nth (ps.map Pl.er) (p - 1)) (b, natS l (skip l p) b, costN l w (skip l p) b) = ⟨(nth qs (p - 1)).lines ++ [(⟨(skip l p : Nat), (b : Nat), natS l (skip l p) b⟩ : Ln)], costR l w (skip l p : Nat) (b : Nat) + (nth qs (p - 1)).cost, true, .nil⟩ := by
        rw [← hkeep (p - 1) (by omega), nth_map _ _ (by omega), hcl.2 hlo]
        simp only [newPl, if_neg (by omega : ¬ p = 0), Pl.er]
      have hbe : ∀ a : Pl, betterS a (nth (qs.map Pl.er) (b - 1)) = betterS a (nth qs (b - 1)) := fun a => by rw [nth_map _ _ (by omega)]; rfl
      have z3p : ∀ o, (h3.put h1.next o).get 0 = some (.row true 3 true (flat (qs.map Pl.toA))) := fun o => by rw [get_put_ne (by omega), z3, hrow1]
      try simp (maxSteps := 4000000) (disch := first | assumption | omega | (simp only [push_next, put_next, empty_next, List.length_cons, List.length_nil] <;> omega) | exact _root_.id rfl | exact _root_.id (fun _ => rfl) | fail) only [↓pre, post, Int.reduceEq, Int.reduceLT, Int.reduceLE, Int.reduceAdd, Int.reduceSub, Int.reduceMul, Int.reduceNeg, Nat.reduceLT, Nat.reduceSub, Nat.reduceMul, Nat.reduceAdd, Nat.reduceLeDiff, reduceIte, reduceCtorEq, Nat.reduceEqDiff, r3, r3', z3, Lw, Sw, strip_tk, B1]
      repeat' (first
        | (refine ifP_pos (by first | assumption | omega) ?_ <;> try simp (maxSteps := 4000000) (disch := first | assumption | omega | (simp only [push_next, put_next, empty_next, List.length_cons, List.length_nil] <;> omega) | exact _root_.id rfl | exact _root_.id (fun _ => rfl) | fail) only [↓pre, post, Int.reduceEq, Int.reduceLT, Int.reduceLE, Int.reduceAdd, Int.reduceSub, Int.reduceMul, Int.reduceNeg, Nat.reduceLT, Nat.reduceSub, Nat.reduceMul, Nat.reduceAdd, Nat.reduceLeDiff, reduceIte, reduceCtorEq, Nat.reduceEqDiff, r3, r3', z3, Lw, Sw, strip_tk, B1])
        | (refine ifP_neg (by first | assumption | omega) ?_ <;> try simp (maxSteps := 4000000) (disch := first | assumption | omega | (simp only [push_next, put_next, empty_next, List.length_cons, List.length_nil] <;> omega) | exact _root_.id rfl | exact _root_.id (fun _ => rfl) | fail) only [↓pre, post, Int.reduceEq, Int.reduceLT, Int.reduceLE, Int.reduceAdd, Int.reduceSub, Int.reduceMul, Int.reduceNeg, Nat.reduceLT, Nat.reduceSub, Nat.reduceMul, Nat.reduceAdd, Nat.reduceLeDiff, reduceIte, reduceCtorEq, Nat.reduceEqDiff, r3, r3', z3, Lw, Sw, strip_tk, B1])
        | (refine ifP_intro (fun hyp => ?_) (fun hyp => ?_) <;> first | simp (maxSteps := 4000000) (disch := first | assumption | omega | (simp only [push_next, put_next, empty_next, List.length_cons, List.length_nil] <;> omega) | exact _root_.id rfl | exact _root_.id (fun _ => rfl) | fail) only [↓pre, post, Int.reduceEq, Int.reduceLT, Int.reduceLE, Int.reduceAdd, Int.reduceSub, Int.reduceMul, Int.reduceNeg, Nat.reduceLT, Nat.reduceSub, Nat.reduceMul, Nat.reduceAdd, Nat.reduceLeDiff, reduceIte, reduceCtorEq, Nat.reduceEqDiff, r3, r3', z3, Lw, Sw, strip_tk, B1, eq_false hyp] | simp (maxSteps := 4000000) (disch := first | assumption | omega | (simp only [push_next, put_next, empty_next, List.length_cons, List.length_nil] <;> omega) | exact _root_.id rfl | exact _root_.id (fun _ => rfl) | fail) only [↓pre, post, Int.reduceEq, Int.reduceLT, Int.reduceLE, Int.reduceAdd, Int.reduceSub, Int.reduceMul, Int.reduceNeg, Nat.reduceLT, Nat.reduceSub, Nat.reduceMul, Nat.reduceAdd, Nat.reduceLeDiff, reduceIte, reduceCtorEq, Nat.reduceEqDiff, r3, r3', z3, Lw, Sw, strip_tk, B1, eq_true hyp] | skip))
      · exact lp_n (fin _ (qs.set (b - 1) ⟨_, _, true, tk3⟩) _ _ _ _ _ _ _ _ (by omega) (get_put_old (z3p _)) (by simp only [put_next]; exact hnx3) (by simp; exact hql) (.inr ⟨hlo, by rw [bst, hnew, hbe, if_pos hyp, List.map_set]; rfl⟩))
      · exact lp_n (fin _ qs _ _ _ _ _ _ _ _ (by omega) (z3p _) (by simp only [put_next]; exact hnx3) hql (.inr ⟨hlo, by rw [bst, hnew, hbe, if_neg hyp]⟩))
    · refine lp_n ⟨l.length - (p + 1), by omega, p + 1, z + 1, qs, _, _, _, _, _, _, _, _, _, _, rfl, by omega, by omega, hrow1, hql, ?_, hbq, hn2, rfl⟩
      rw [List.range_succ, List.foldl_append, ← hps, List.foldl_cons, List.foldl_nil, rnd, if_neg (fun h => h.2 (by rw [nth_map _ _ (by omega)]; assumption)), hqs, linesAt, linesOf, show b - (skip l p + 1) = l.length - skip l p by omega]
  · refine lp_n ⟨l.length - (p + 1), by omega, p + 1, z + 1, ps, _, _, _, _, _, _, _, _, _, _, rfl, by omega, by omega, hrow, hpl, ?_, hbnd, hn1, rfl⟩
    rw [List.range_succ, List.foldl_append, ← hps, List.foldl_cons, List.foldl_nil, rnd, if_pos ⟨by omega, by rw [nth_map _ _ (by omega)]; exact hyp⟩]
  · refine w_loop (fun m vs h1 => ∃ (b : Nat) (qs : List Pl) (x7 x8 x9 x10 x11 x12 x13 x14 : AVal), m = l.length + 1 - b ∧ skip l p + 1 ≤ b ∧ b ≤ l.length + 1 ∧ h1.get 0 = some (.row true 3 true (flat (qs.map Pl.toA))) ∧ qs.length = l.length ∧
      qs.map Pl.er = ((List.range' (skip l p + 1) (b - (skip l p + 1))).filterMap (lineAt l w (skip l p))).foldl (bst l p (nth (ps.map Pl.er) (p - 1))) (ps.map Pl.er) ∧ (∀ k, k < p → nth (qs.map Pl.er) k = nth (ps.map Pl.er) k) ∧ Bnd (qs.map Pl.er) ∧ 1 ≤ h1.next ∧
      vs = [.sl (items l) t, .int .i64 w, .sl [] .nil, .ref 0 0 l.length 3, .int .i64 z, .int .i64 (skip l p), .int .i64 b, x7, x8, x9, x10, x11, x12, x13, x14]) (l.length - skip l p)
      ⟨skip l p + 1, ps, _, _, _, _, _, _, _, _, by omega, by omega, by omega, hrow, hpl, by rw [Nat.sub_self]; rfl, fun _ _ => rfl, hbnd, hn1, rfl⟩ ?_
    rintro m vs h1 ⟨b, qs, x7, x8, x9, x10, x11, x12, x13, x14, rfl, hb1, hb2, hrow1, hql, hqs, hkeep, hbq, hn2, rfl⟩
    have hcl := costR_line (l := l) (w := w) (p := p) (b := b) hv hw
    have hup := linesUpTo (l := l) (w := w) (p := p) hb1 (ps.map Pl.er) (nth (ps.map Pl.er) (p - 1))
    rw [← hqs] at hup
    have hge := skip_ge (l := l) (p := p)
    have hcu : costR l w (skip l p : Nat) (b : Nat) ≤ 5000000000 := by
      by_cases h : lineOk l w (skip l p) b
      · rw [hcl.2 h]; exact (cost_bound hv hw h).2
      · have := hcl.1; rw [iff_false_right h] at this; omega
    have hq1 : 0 < p → 0 ≤ (nth qs (p - 1)).cost ∧ (nth qs (p - 1)).cost ≤ p * 5000000000 ∧ (nth qs (p - 1)).lines.length ≤ p := fun h => by
      have := hbq (p - 1)
      rw [nth_map _ _ (by omega)] at this
      have e : ((p - 1 : Nat) : Int) + 1 = p := by omega
      rw [e] at this
      exact ⟨this.1, this.2.1, by have := this.2.2; simp only [Pl.er] at this; omega⟩
    have hqb : b ≤ l.length → (nth qs (b - 1)).lines.length ≤ b := fun h => by
      have := (hbq (b - 1)).2.2
      rw [nth_map _ _ (by omega)] at this
      simp only [Pl.er] at this; omega
    have L1 : 0 < p → loadG 1 false ((p - 1) * 3 + 1) (h1.get 0) = some (.int .i64 (nth qs (p - 1)).cost) := fun h => by
      rw [hrow1, loadG_flat (f := Pl.toA) (fun _ => rfl) qs false true 3 true (by omega) (by omega)]; rfl
    have L0 : 0 < p → loadG 1 false ((p - 1) * 3) (h1.get 0) = some (.sl ((nth qs (p - 1)).lines.map Ln.toA) (nth qs (p - 1)).tok) := fun h => by
      rw [hrow1, loadG_flat0 (f := Pl.toA) (sz := 3) (fun _ => rfl) qs false true 3 true (by omega) (by omega)]; rfl
    have Lw : b ≤ l.length → loadG 3 true ((b - 1) * 3) (h1.get 0) = some (.agg [.sl ((nth qs (b - 1)).lines.map Ln.toA) (nth qs (b - 1)).tok, .int .i64 (nth qs (b - 1)).cost, .bool (nth qs (b - 1)).is]) := fun h => by
      rw [hrow1, loadG_flat0 (f := Pl.toA) (sz := 3) (fun _ => rfl) qs true true 3 true (by omega) (by omega)]; rfl
    have Sw : ∀ (X : List Ln) (tkx : Tok) (cx : Int) (H : Heap), b ≤ l.length → storeG 3 0 ((b - 1) * 3) (.agg [.sl (X.map Ln.toA) tkx, .int .i64 cx, .bool true]) H (h1.get 0) = some (H.put 0 (some (.row true 3 true (flat ((qs.set (b - 1) ⟨X, cx, true, tkx⟩).map Pl.toA))))) := fun X tkx cx H h => by
      rw [hrow1]
      exact storeG_flatw (f := Pl.toA) (sz := 3) (fun _ => rfl) qs 3 true ⟨X, cx, true, tkx⟩ (by omega) rfl
    have hnat : b ≤ l.length → PV F 31 [.sl (items l) t, .int .i64 (skip l p : Nat), .int .i64 (b : Nat)] = some (.int .i64 (natS l (skip l p) b)) := fun h => natural_v hv (by omega) h
    -- the round goes on
    have fin : ∀ (h3 : Heap) (qs' : List Pl) (c7 c8 c9 c10 c11 c12 c13 c14 : AVal), b ≤ l.length → h3.get 0 = some (.row true 3 true (flat (qs'.map Pl.toA))) → 1 ≤ h3.next → qs'.length = l.length →
        ((¬ lineOk l w (skip l p) b ∧ qs'.map Pl.er = qs.map Pl.er) ∨ (lineOk l w (skip l p) b ∧ qs'.map Pl.er = bst l p (nth (ps.map Pl.er) (p - 1)) (qs.map Pl.er) (b, natS l (skip l p) b, costN l w (skip l p) b))) →
        ∃ m', m' < l.length + 1 - b ∧ ∃ (b' : Nat) (qs : List Pl) (x7 x8 x9 x10 x11 x12 x13 x14 : AVal), m' = l.length + 1 - b' ∧ skip l p + 1 ≤ b' ∧ b' ≤ l.length + 1 ∧ h3.get 0 = some (.row true 3 true (flat (qs.map Pl.toA))) ∧ qs.length = l.length ∧
          qs.map Pl.er = ((List.range' (skip l p + 1) (b' - (skip l p + 1))).filterMap (lineAt l w (skip l p))).foldl (bst l p (nth (ps.map Pl.er) (p - 1))) (ps.map Pl.er) ∧ (∀ k, k < p → nth (qs.map Pl.er) k = nth (ps.map Pl.er) k) ∧ Bnd (qs.map Pl.er) ∧ 1 ≤ h3.next ∧
          [AVal.sl (items l) t, .int .i64 w, .sl [] .nil, .ref 0 0 l.length 3, .int .i64 z, .int .i64 (skip l p), .int .i64 ((b : Int) + 1), c7, c8, c9, c10, c11, c12, c13, c14] = [.sl (items l) t, .int .i64 w, .sl [] .nil, .ref 0 0 l.length 3, .int .i64 z, .int .i64 (skip l p), .int .i64 b', x7, x8, x9, x10, x11, x12, x13, x14] := by
      intro h3 qs' c7 c8 c9 c10 c11 c12 c13 c14 hbl hr3 hn3 hql3 hor
      have hkq : 0 < p → nth (ps.map Pl.er) (p - 1) = (nth qs (p - 1)).er := fun h => by rw [← hkeep (p - 1) (by omega), nth_map _ _ (by omega)]
      refine ⟨l.length + 1 - (b + 1), by omega, b + 1, qs', c7, c8, c9, c10, c11, c12, c13, c14, rfl, by omega, by omega, hr3, hql3, ?_, ?_, ?_, hn3, rfl⟩
      · rw [hup]
        rcases hor with ⟨h, e⟩ | ⟨h, e⟩
        · rw [lineAt, if_neg h]; exact e
        · rw [lineAt, if_pos h]; exact e
      · intro k hk
        rcases hor with ⟨h, e⟩ | ⟨h, e⟩
        · rw [e]; exact hkeep k hk
        · rw [e, bst]
          split
          · rw [nth_set_ne (by simp only; omega)]; exact hkeep k hk
          · exact hkeep k hk
      · rcases hor with ⟨h, e⟩ | ⟨h, e⟩
        · rw [e]; exact hbq
        · rw [e, bst]
          split
          · intro k
            by_cases hk : b - 1 = k
            · subst hk
              have hcb := cost_bound hv hw h
              rw [nth_set_self (by simp; omega)]
              have e1 : ((b - 1 : Nat) : Int) + 1 = b := by omega
              rw [e1]
              by_cases hp0 : p = 0
              · simp [newPl, hp0]; subst hp0; omega
              · have := hq1 (by omega)
                simp only [newPl, if_neg hp0, hkq (by omega), Pl.er, List.length_append, List.length_cons, List.length_nil]
                omega
            · rw [nth_set_ne hk]; exact hbq k
          · exact hbq
    try simp (maxSteps := 4000000) (disch := first | assumption | omega | (simp only [push_next, put_next, empty_next, List.length_cons, List.length_nil] <;> omega) | exact _root_.id rfl | exact _root_.id (fun _ => rfl) | fail) only [↓pre, post, Int.reduceEq, Int.reduceLT, Int.reduceLE, Int.reduceAdd, Int.reduceSub, Int.reduceMul, Int.reduceNeg, Nat.reduceLT, Nat.reduceSub, Nat.reduceMul, Nat.reduceAdd, Nat.reduceLeDiff, reduceIte, reduceCtorEq, Nat.reduceEqDiff, hrc, hzt, L1, L0]
    repeat' (first
      | (refine ifP_pos (by first | assumption | omega) ?_ <;> try simp (maxSteps := 4000000) (disch := first | assumption | omega | (simp only [push_next, put_next, empty_next, List.length_cons, List.length_nil] <;> omega) | exact _root_.id rfl | exact _root_.id (fun _ => rfl) | fail) only [↓pre, post, Int.reduceEq, Int.reduceLT, Int.reduceLE, Int.reduceAdd, Int.reduceSub, Int.reduceMul, Int.reduceNeg, Nat.reduceLT, Nat.reduceSub, Nat.reduceMul, Nat.reduceAdd, Nat.reduceLeDiff, reduceIte, reduceCtorEq, Nat.reduceEqDiff, hrc, hzt, L1, L0])
      | (refine ifP_neg (by first | assumption | omega) ?_ <;> try simp (maxSteps := 4000000) (disch := first | assumption | omega | (simp only [push_next, put_next, empty_next, List.length_cons, List.length_nil] <;> omega) | exact _root_.id rfl | exact _root_.id (fun _ => rfl) | fail) only [↓pre, post, Int.reduceEq, Int.reduceLT, Int.reduceLE, Int.reduceAdd, Int.reduceSub, Int.reduceMul, Int.reduceNeg, Nat.reduceLT, Nat.reduceSub, Nat.reduceMul, Nat.reduceAdd, Nat.reduceLeDiff, reduceIte, reduceCtorEq, Nat.reduceEqDiff, hrc, hzt, L1, L0])
      | (refine ifP_intro (fun hyp => ?_) (fun hyp => ?_) <;> first | simp (maxSteps := 4000000) (disch := first | assumption | omega | (simp only [push_next, put_next, empty_next, List.length_cons, List.length_nil] <;> omega) | exact _root_.id rfl | exact _root_.id (fun _ => rfl) | fail) only [↓pre, post, Int.reduceEq, Int.reduceLT, Int.reduceLE, Int.reduceAdd, Int.reduceSub, Int.reduceMul, Int.reduceNeg, Nat.reduceLT, Nat.reduceSub, Nat.reduceMul, Nat.reduceAdd, Nat.reduceLeDiff, reduceIte, reduceCtorEq, Nat.reduceEqDiff, hrc, hzt, L1, L0, eq_false hyp] | simp (maxSteps := 4000000) (disch := first | assumption | omega | (simp only [push_next, put_next, empty_next, List.length_cons, List.length_nil] <;> omega) | exact _root_.id rfl | exact _root_.id (fun _ => rfl) | fail) only [↓pre, post, Int.reduceEq, Int.reduceLT, Int.reduceLE, Int.reduceAdd, Int.reduceSub, Int.reduceMul, Int.reduceNeg, Nat.reduceLT, Nat.reduceSub, Nat.reduceMul, Nat.reduceAdd, Nat.reduceLeDiff, reduceIte, reduceCtorEq, Nat.reduceEqDiff, hrc, hzt, L1, L0, eq_true hyp] | skip))
    · exact lp_n (fin _ qs _ _ _ _ _ _ _ _ (by omega) hrow1 hn2 hql (.inl ⟨fun h => by have := hcl.1.2 h; omega, rfl⟩))
    · have hlo := hcl.1.1 (by omega)
      have hp0 : p = 0 := by omega
      try simp (maxSteps := 4000000) (disch := first | assumption | omega | (simp only [push_next, put_next, empty_next, List.length_cons, List.length_nil] <;> omega) | exact _root_.id rfl | exact _root_.id (fun _ => rfl) | fail) only [↓pre, post, Int.reduceEq, Int.reduceLT, Int.reduceLE, Int.reduceAdd, Int.reduceSub, Int.reduceMul, Int.reduceNeg, Nat.reduceLT, Nat.reduceSub, Nat.reduceMul, Nat.reduceAdd, Nat.reduceLeDiff, reduceIte, reduceCtorEq, Nat.reduceEqDiff, hnat]
      repeat' (first
        | (refine ifP_pos (by first | assumption | omega) ?_ <;> try simp (maxSteps := 4000000) (disch := first | assumption | omega | (simp only [push_next, put_next, empty_next, List.length_cons, List.length_nil] <;> omega) | exact _root_.id rfl | exact _root_.id (fun _ => rfl) | fail) only [↓pre, post, Int.reduceEq, Int.reduceLT, Int.reduceLE, Int.reduceAdd, Int.reduceSub, Int.reduceMul, Int.reduceNeg, Nat.reduceLT, Nat.reduceSub, Nat.reduceMul, Nat.reduceAdd, Nat.reduceLeDiff, reduceIte, reduceCtorEq, Nat.reduceEqDiff, hnat])
        | (refine ifP_neg (by first | assumption | omega) ?_ <;> try simp (maxSteps := 4000000) (disch := first | assumption | omega | (simp only [push_next, put_next, empty_next, List.length_cons, List.length_nil] <;> omega) | exact _root_.id rfl | exact _root_.id (fun _ => rfl) | fail) only [↓pre, post, Int.reduceEq, Int.reduceLT, Int.reduceLE, Int.reduceAdd, Int.reduceSub, Int.reduceMul, Int.reduceNeg, Nat.reduceLT, Nat.reduceSub, Nat.reduceMul, Nat.reduceAdd, Nat.reduceLeDiff, reduceIte, reduceCtorEq, Nat.reduceEqDiff, hnat])
        | (refine ifP_intro (fun hyp => ?_) (fun hyp => ?_) <;> first | simp (maxSteps := 4000000) (disch := first | assumption | omega | (simp only [push_next, put_next, empty_next, List.length_cons, List.length_nil] <;> omega) | exact _root_.id rfl | exact _root_.id (fun _ => rfl) | fail) only [↓pre, post, Int.reduceEq, Int.reduceLT, Int.reduceLE, Int.reduceAdd, Int.reduceSub, Int.reduceMul, Int.reduceNeg, Nat.reduceLT, Nat.reduceSub, Nat.reduceMul, Nat.reduceAdd, Nat.reduceLeDiff, reduceIte, reduceCtorEq, Nat.reduceEqDiff, hnat, eq_false hyp] | simp (maxSteps := 4000000) (disch := first | assumption | omega | (simp only [push_next, put_next, empty_next, List.length_cons, List.length_nil] <;> omega) | exact _root_.id rfl | exact _root_.id (fun _ => rfl) | fail) only [↓pre, post, Int.reduceEq, Int.reduceLT, Int.reduceLE, Int.reduceAdd, Int.reduceSub, Int.reduceMul, Int.reduceNeg, Nat.reduceLT, Nat.reduceSub, Nat.reduceMul, Nat.reduceAdd, Nat.reduceLeDiff, reduceIte, reduceCtorEq, Nat.reduceEqDiff, hnat, eq_true hyp] | skip))
      refine append_K (f := Ln.toA) (tk := .nil) [] [⟨(skip l p : Nat), (b : Nat), natS l (skip l p) b⟩] (fun _ => rfl) (fun _ => rfl) (fun _ => rfl) rfl rfl (.inl rfl) (by simp) (by simp) (by omega) (by omega) (by omega) ?_
      intro h3 tk3 g3 n3 le3 k3 _ _
      have r3 := k3 _ _ _ _ _ (get_push h1 _)
      have r3' : ∀ o, (h3.put h1.next o).get h1.next = o := fun o => get_put_old r3
      have z3 : h3.get 0 = h1.get 0 := by rw [k3 _ _ _ _ _ (get_push_old hrow1), hrow1]
      have hnx3 : 1 ≤ h3.next := by rw [push_next] at le3; omega
      have B1 : ∀ ta tb, PV F 54 [.agg [.sl [Ln.toA ⟨(skip l p : Nat), (b : Nat), natS l (skip l p) b⟩] ta, .int .i64 (costR l w (skip l p : Nat) (b : Nat)), .bool true], .agg [.sl ((nth qs (b - 1)).lines.map Ln.toA) tb, .int .i64 (nth qs (b - 1)).cost, .bool (nth qs (b - 1)).is]] =
          some (.bool (betterS ⟨[(⟨(skip l p : Nat), (b : Nat), natS l (skip l p) b⟩ : Ln)], costR l w (skip l p : Nat) (b : Nat), true, .nil⟩ (nth qs (b - 1)))) := fun ta tb => better_v (a := ⟨[_], _, _, .nil⟩) (by simp) (by have := hqb (by omega); omega)
      have Sw1 := fun tkx cx H => Sw [⟨(skip l p : Nat), (b : Nat), natS l (skip l p) b⟩] tkx cx H (by omega)
      simp only [List.map_cons, List.map_nil] at Sw1
      have hnew : newPl l p (nth (ps.map Pl.er) (p - 1)) (b, natS l (skip l p) b, costN l w (skip l p) b) = ⟨[(⟨(skip l p : Nat), (b : Nat), natS l (skip l p) b⟩ : Ln)], costR l w (skip l p : Nat) (b : Nat), true, .nil⟩ := by
        rw [hcl.2 hlo]
        simp only [newPl, if_pos hp0, List.nil_append]
      have hbe : ∀ a : Pl, betterS a (nth (qs.map Pl.er) (b - 1)) = betterS a (nth qs (b - 1)) := fun a => by rw [nth_map _ _ (by omega)]; rfl
      have z3p : ∀ o, (h3.put h1.next o).get 0 = some (.row true 3 true (flat (qs.map Pl.toA))) := fun o => by rw [get_put_ne (by omega), z3, hrow1]
      try simp (maxSteps := 4000000) (disch := first | assumption | omega | (simp only [push_next, put_next, empty_next, List.length_cons, List.length_nil] <;> omega) | exact _root_.id rfl | exact _root_.id (fun _ => rfl) | fail) only [↓pre, post, Int.reduceEq, Int.reduceLT, Int.reduceLE, Int.reduceAdd, Int.reduceSub, Int.reduceMul, Int.reduceNeg, Nat.reduceLT, Nat.reduceSub, Nat.reduceMul, Nat.reduceAdd, Nat.reduceLeDiff, reduceIte, reduceCtorEq, Nat.reduceEqDiff, r3, r3', z3, Lw, Sw1, strip_tk, B1]
      repeat' (first
        | (refine ifP_pos (by first | assumption | omega) ?_ <;> try simp (maxSteps := 4000000) (disch := first | assumption | omega | (simp only [push_next, put_next, empty_next, List.length_cons, List.length_nil] <;> omega) | exact _root_.id rfl | exact _root_.id (fun _ => rfl) | fail) only [↓pre, post, Int.reduceEq, Int.reduceLT, Int.reduceLE, Int.reduceAdd, Int.reduceSub, Int.reduceMul, Int.reduceNeg, Nat.reduceLT, Nat.reduceSub, Nat.reduceMul, Nat.reduceAdd, Nat.reduceLeDiff, reduceIte, reduceCtorEq, Nat.reduceEqDiff, r3, r3', z3, Lw, Sw1, strip_tk, B1])
        | (refine ifP_neg (by first | assumption | omega) ?_ <;> try simp (maxSteps := 4000000) (disch := first | assumption | omega | (simp only [push_next, put_next, empty_next, List.length_cons, List.length_nil] <;> omega) | exact _root_.id rfl | exact _root_.id (fun _ => rfl) | fail) only [↓pre, post, Int.reduceEq, Int.reduceLT, Int.reduceLE, Int.reduceAdd, Int.reduceSub, Int.reduceMul, Int.reduceNeg, Nat.reduceLT, Nat.reduceSub, Nat.reduceMul, Nat.reduceAdd, Nat.reduceLeDiff, reduceIte, reduceCtorEq, Nat.reduceEqDiff, r3, r3', z3, Lw, Sw1, strip_tk, B1])
        | (refine ifP_intro (fun hyp => ?_) (fun hyp => ?_) <;> first | simp (maxSteps := 4000000) (disch := first | assumption | omega | (simp only [push_next, put_next, empty_next, List.length_cons, List.length_nil] <;> omega) | exact _root_.id rfl | exact _root_.id (fun _ => rfl) | fail) only [↓pre, post, Int.reduceEq, Int.reduceLT, Int.reduceLE, Int.reduceAdd, Int.reduceSub, Int.reduceMul, Int.reduceNeg, Nat.reduceLT, Nat.reduceSub, Nat.reduceMul, Nat.reduceAdd, Nat.reduceLeDiff, reduceIte, reduceCtorEq, Nat.reduceEqDiff, r3, r3', z3, Lw, Sw1, strip_tk, B1, eq_false hyp] | simp (maxSteps := 4000000) (disch := first | assumption | omega | (simp only [push_next, put_next, empty_next, List.length_cons, List.length_nil] <;> omega) | exact _root_.id rfl | exact _root_.id (fun _ => rfl) | fail) only [↓pre, post, Int.reduceEq, Int.reduceLT, Int.reduceLE, Int.reduceAdd, Int.reduceSub, Int.reduceMul, Int.reduceNeg, Nat.reduceLT, Nat.reduceSub, Nat.reduceMul, Nat.reduceAdd, Nat.reduceLeDiff, reduceIte, reduceCtorEq, Nat.reduceEqDiff, r3, r3', z3, Lw, Sw1, strip_tk, B1, eq_true hyp] | skip))
      · exact lp_n (fin _ (qs.set (b - 1) ⟨[_], _, true, tk3⟩) _ _ _ _ _ _ _ _ (by omega) (get_put_old (z3p _)) (by simp only [put_next]; exact hnx3) (by simp; exact hql) (.inr ⟨hlo, by rw [bst, hnew, hbe, if_pos hyp, List.map_set]; rfl⟩))
      · exact lp_n (fin _ qs _ _ _ _ _ _ _ _ (by omega) (z3p _) (by simp only [put_next]; exact hnx3) hql (.inr ⟨hlo, by rw [bst, hnew, hbe, if_neg hyp]⟩))
    · refine lp_n ⟨l.length - (p + 1), by omega, p + 1, z + 1, qs, _, _, _, _, _, _, _, _, _, _, rfl, by omega, by omega, hrow1, hql, ?_, hbq, hn2, rfl⟩
      rw [List.range_succ, List.foldl_append, ← hps, List.foldl_cons, List.foldl_nil, rnd, if_neg (fun h => by omega), hqs, linesAt, linesOf, show b - (skip l p + 1) = l.length - skip l p by omega]
  · have hpe : p = l.length := by omega
    subst hpe
    refine ⟨ps, hrow, hpl, hps, by rw [plansS, ← hps]; exact hbnd⟩

end Go.Proofs.Ytcammfdljiingaa
