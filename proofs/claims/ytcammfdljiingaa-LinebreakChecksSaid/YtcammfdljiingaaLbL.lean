/-
  The sum of lines on both sides.
-/
import Derived.Test.YtcammfdljiingaaLbK
import Derived.Test.YtcammfdljiingaaLbJ
set_option linter.unusedSimpArgs false
set_option linter.unusedVariables false
set_option maxHeartbeats 8000000
namespace Go.Proofs.Ytcammfdljiingaa
open Go Go.Abs

/-- Whether a line follows a break. -/
def fits (l : List Item) (w : Int) (p : Nat) (x : Ln) : Prop := p < l.length ∧ x.a = skip l p ∧ 0 ≤ x.b ∧ lineOk l w (skip l p) x.b.toNat ∧ x.n = natS l (skip l p) x.b.toNat
instance (l : List Item) (w : Int) (p : Nat) (x : Ln) : Decidable (fits l w p x) := by unfold fits; infer_instance
def sumF (l : List Item) (w : Int) : Nat → Int → List Ln → Option (Nat × Int)
  | p, s, [] => some (p, s)
  | p, s, x :: xs => if fits l w p x then sumF l w x.b.toNat (s + costN l w (skip l p) x.b.toNat) xs else none

def lastX (x : Ln) (a : Nat) (d : List (Nat × Int × Int)) : Int := d.foldl (fun c y => if x = ⟨a, y.1, y.2.1⟩ then y.2.2 else c) (-1)

theorem lastX_range (l : List Item) (w : Int) (a : Nat) (x : Ln) (hx : x.a = a) : ∀ (k s : Nat) (c : Int), ((List.range' s k).filterMap (lineAt l w a)).foldl (fun c (y : Nat × Int × Int) => if x = ⟨a, y.1, y.2.1⟩ then y.2.2 else c) c =
    if (s : Int) ≤ x.b ∧ x.b < s + k ∧ lineOk l w a x.b.toNat ∧ x.n = natS l a x.b.toNat then costN l w a x.b.toNat else c
  | 0, s, c => by rw [if_neg (by omega)]; rfl
  | k + 1, s, c => by
    rw [List.range'_succ, List.filterMap_cons]
    have ih := lastX_range l w a x hx k (s + 1)
    by_cases hl : lineOk l w a s
    · rw [lineAt, if_pos hl]
      simp only [List.foldl_cons]
      rw [ih]
      by_cases hs : (s : Int) = x.b
      · have hsn : x.b.toNat = s := by omega
        by_cases hn : x.n = natS l a s
        · have e : x = ⟨(a : Int), (s : Int), natS l a s⟩ := by cases x; simp_all
          rw [if_pos e, if_neg (by omega), if_pos ⟨by omega, by omega, by rw [hsn]; exact hl, by rw [hsn]; exact hn⟩, hsn]
        · have e : x ≠ ⟨(a : Int), (s : Int), natS l a s⟩ := fun e => hn (by rw [e])
          rw [if_neg e, if_neg (by omega), if_neg (fun h => hn (by rw [← hsn]; exact h.2.2.2))]
      · have e : x ≠ ⟨(a : Int), (s : Int), natS l a s⟩ := fun e => hs (by rw [e])
        rw [if_neg e]
        by_cases hc : ((s + 1 : Nat) : Int) ≤ x.b ∧ x.b < ((s + 1 : Nat) : Int) + k ∧ lineOk l w a x.b.toNat ∧ x.n = natS l a x.b.toNat
        · rw [if_pos hc, if_pos ⟨by omega, by omega, hc.2.2⟩]
        · rw [if_neg hc, if_neg (fun h => hc ⟨by omega, by omega, h.2.2⟩)]
    · rw [lineAt, if_neg hl]
      simp only
      rw [ih]
      by_cases hc : ((s + 1 : Nat) : Int) ≤ x.b ∧ x.b < ((s + 1 : Nat) : Int) + k ∧ lineOk l w a x.b.toNat ∧ x.n = natS l a x.b.toNat
      · rw [if_pos hc, if_pos ⟨by omega, by omega, hc.2.2⟩]
      · rw [if_neg hc, if_neg]
        intro h
        by_cases hs : (s : Int) = x.b
        · have hsn : x.b.toNat = s := by omega
          exact hl (by rw [← hsn]; exact h.2.2.1)
        · exact hc ⟨by omega, by omega, h.2.2⟩

theorem lastX_fits {l : List Item} {w : Int} {p : Nat} {x : Ln} (hp : p < l.length) (hx : x.a = skip l p) : lastX x (skip l p) (linesAt l w p) = if fits l w p x then costN l w (skip l p) x.b.toNat else -1 := by
  rw [lastX, linesAt, linesOf, lastX_range l w _ x hx]
  by_cases h : fits l w p x
  · obtain ⟨h1, h2, h3, h4, h5⟩ := h
    have h6 := h4.1
    have h7 := h4.2.1
    rw [if_pos ⟨by omega, by omega, h4, h5⟩, if_pos ⟨h1, h2, h3, h4, h5⟩]
  · rw [if_neg h, if_neg]
    rintro ⟨h1, h2, h3, h4⟩
    exact h ⟨hp, hx, by omega, h3, h4⟩

theorem sum1_c {a i j : Nat} {y : Nat × Int × Int} {x : Ln} {c : Int} {h : Heap} (h0 : h.get i = some (.row true (typed 41) true x.toA.cells)) (h1 : h.get j = some (.row true (typed 3) false [.int .i64 c])) (hij : i ≠ j) :
    CV F 57 ([lineA a y, .int .i64 y.2.2] ++ [.ptr i 0, .ptr j 0]) h (fun _ h2 => h2.get i = some (.row true (typed 41) true x.toA.cells) ∧ h2.get j = some (.row true (typed 3) false [.int .i64 (if x = ⟨a, y.1, y.2.1⟩ then y.2.2 else c)]) ∧ Fr (· = j) h h2) := by
  have hi := get_lt h0
  have hj := get_lt h1
  have h1' : ∀ o, (h.put j o).get j = o := fun o => get_put_old h1
  have h0' : ∀ o, (h.put j o).get i = some (.row true (typed 41) true x.toA.cells) := fun o => by rw [get_put_ne hij]; exact h0
  have e0 : Ln.toA x = .agg [.int .i64 x.a, .int .i64 x.b, .int .i64 x.n] := rfl
  rw [e0, cells_agg] at h0 h0'
  refine CV_wp (fn := c57) rfl ?_
  dsimp only [c57, lineA]
  try simp (maxSteps := 4000000) (disch := first | assumption | omega | (simp only [push_next, put_next, empty_next, List.length_cons, List.length_nil] <;> omega) | exact _root_.id rfl | exact _root_.id (fun _ => rfl) | fail) only [↓pre, post, Int.reduceEq, Int.reduceLT, Int.reduceLE, Int.reduceAdd, Int.reduceSub, Int.reduceMul, Int.reduceNeg, Nat.reduceLT, Nat.reduceSub, Nat.reduceMul, Nat.reduceAdd, Nat.reduceLeDiff, reduceIte, reduceCtorEq, Nat.reduceEqDiff, h0, h1, h1', h0', cellsEq3, e0]
  repeat' (first
    | (refine ifP_pos (by first | assumption | omega) ?_ <;> try simp (maxSteps := 4000000) (disch := first | assumption | omega | (simp only [push_next, put_next, empty_next, List.length_cons, List.length_nil] <;> omega) | exact _root_.id rfl | exact _root_.id (fun _ => rfl) | fail) only [↓pre, post, Int.reduceEq, Int.reduceLT, Int.reduceLE, Int.reduceAdd, Int.reduceSub, Int.reduceMul, Int.reduceNeg, Nat.reduceLT, Nat.reduceSub, Nat.reduceMul, Nat.reduceAdd, Nat.reduceLeDiff, reduceIte, reduceCtorEq, Nat.reduceEqDiff, h0, h1, h1', h0', cellsEq3, e0])
    | (refine ifP_neg (by first | assumption | omega) ?_ <;> try simp (maxSteps := 4000000) (disch := first | assumption | omega | (simp only [push_next, put_next, empty_next, List.length_cons, List.length_nil] <;> omega) | exact _root_.id rfl | exact _root_.id (fun _ => rfl) | fail) only [↓pre, post, Int.reduceEq, Int.reduceLT, Int.reduceLE, Int.reduceAdd, Int.reduceSub, Int.reduceMul, Int.reduceNeg, Nat.reduceLT, Nat.reduceSub, Nat.reduceMul, Nat.reduceAdd, Nat.reduceLeDiff, reduceIte, reduceCtorEq, Nat.reduceEqDiff, h0, h1, h1', h0', cellsEq3, e0])
    | (refine ifP_intro (fun hyp => ?_) (fun hyp => ?_) <;> first | simp (maxSteps := 4000000) (disch := first | assumption | omega | (simp only [push_next, put_next, empty_next, List.length_cons, List.length_nil] <;> omega) | exact _root_.id rfl | exact _root_.id (fun _ => rfl) | fail) only [↓pre, post, Int.reduceEq, Int.reduceLT, Int.reduceLE, Int.reduceAdd, Int.reduceSub, Int.reduceMul, Int.reduceNeg, Nat.reduceLT, Nat.reduceSub, Nat.reduceMul, Nat.reduceAdd, Nat.reduceLeDiff, reduceIte, reduceCtorEq, Nat.reduceEqDiff, h0, h1, h1', h0', cellsEq3, e0, eq_false hyp] | simp (maxSteps := 4000000) (disch := first | assumption | omega | (simp only [push_next, put_next, empty_next, List.length_cons, List.length_nil] <;> omega) | exact _root_.id rfl | exact _root_.id (fun _ => rfl) | fail) only [↓pre, post, Int.reduceEq, Int.reduceLT, Int.reduceLE, Int.reduceAdd, Int.reduceSub, Int.reduceMul, Int.reduceNeg, Nat.reduceLT, Nat.reduceSub, Nat.reduceMul, Nat.reduceAdd, Nat.reduceLeDiff, reduceIte, reduceCtorEq, Nat.reduceEqDiff, h0, h1, h1', h0', cellsEq3, e0, eq_true hyp] | skip))
  · have e : x = ⟨(a : Int), (y.1 : Int), y.2.1⟩ := by cases x; simp_all
    rw [if_pos e]
    exact ⟨rfl, (Fr.put (S := (· = j)) (Fr.refl _ _) (.inl rfl) _).push _⟩
  · have e : x ≠ ⟨(a : Int), (y.1 : Int), y.2.1⟩ := fun e => hyp (by rw [e]; exact ⟨rfl, rfl, rfl⟩)
    rw [if_neg e]
    exact ⟨rfl, (Fr.refl _ _).push _⟩

theorem sum_v {l : List Item} {t t2 : Tok} {w : Int} {ls : List Ln} (ht : Pt t) (ht2 : Pt t2) (hv : valid l) (hw : widthOk w) (hls : ls.length ≤ 100000) (hi : ∀ x ∈ ls, i64 x.b) :
    PV F 44 [.sl (items l) t, .int .i64 w, .sl (ls.map Ln.toA) t2] = some (.int .i64 (match sumF l w 0 0 ls with | some (p, s) => if p < l.length then -1 else s | none => -1)) := by
  have hl := hv.2.1
  have hl1 := hv.1
  refine PV_wp (fn := c44) rfl ?_
  dsimp only [c44]
  try simp (maxSteps := 4000000) (disch := first | assumption | omega | (simp only [push_next, put_next, empty_next, List.length_cons, List.length_nil] <;> omega) | exact _root_.id rfl | exact _root_.id (fun _ => rfl) | fail) only [↓pre, post, Int.reduceEq, Int.reduceLT, Int.reduceLE, Int.reduceAdd, Int.reduceSub, Int.reduceMul, Int.reduceNeg, Nat.reduceLT, Nat.reduceSub, Nat.reduceMul, Nat.reduceAdd, Nat.reduceLeDiff, reduceIte, reduceCtorEq, Nat.reduceEqDiff]
  repeat' (first
    | (refine ifP_pos (by first | assumption | omega) ?_ <;> try simp (maxSteps := 4000000) (disch := first | assumption | omega | (simp only [push_next, put_next, empty_next, List.length_cons, List.length_nil] <;> omega) | exact _root_.id rfl | exact _root_.id (fun _ => rfl) | fail) only [↓pre, post, Int.reduceEq, Int.reduceLT, Int.reduceLE, Int.reduceAdd, Int.reduceSub, Int.reduceMul, Int.reduceNeg, Nat.reduceLT, Nat.reduceSub, Nat.reduceMul, Nat.reduceAdd, Nat.reduceLeDiff, reduceIte, reduceCtorEq, Nat.reduceEqDiff])
    | (refine ifP_neg (by first | assumption | omega) ?_ <;> try simp (maxSteps := 4000000) (disch := first | assumption | omega | (simp only [push_next, put_next, empty_next, List.length_cons, List.length_nil] <;> omega) | exact _root_.id rfl | exact _root_.id (fun _ => rfl) | fail) only [↓pre, post, Int.reduceEq, Int.reduceLT, Int.reduceLE, Int.reduceAdd, Int.reduceSub, Int.reduceMul, Int.reduceNeg, Nat.reduceLT, Nat.reduceSub, Nat.reduceMul, Nat.reduceAdd, Nat.reduceLeDiff, reduceIte, reduceCtorEq, Nat.reduceEqDiff])
    | (refine ifP_intro (fun hyp => ?_) (fun hyp => ?_) <;> first | simp (maxSteps := 4000000) (disch := first | assumption | omega | (simp only [push_next, put_next, empty_next, List.length_cons, List.length_nil] <;> omega) | exact _root_.id rfl | exact _root_.id (fun _ => rfl) | fail) only [↓pre, post, Int.reduceEq, Int.reduceLT, Int.reduceLE, Int.reduceAdd, Int.reduceSub, Int.reduceMul, Int.reduceNeg, Nat.reduceLT, Nat.reduceSub, Nat.reduceMul, Nat.reduceAdd, Nat.reduceLeDiff, reduceIte, reduceCtorEq, Nat.reduceEqDiff, eq_false hyp] | simp (maxSteps := 4000000) (disch := first | assumption | omega | (simp only [push_next, put_next, empty_next, List.length_cons, List.length_nil] <;> omega) | exact _root_.id rfl | exact _root_.id (fun _ => rfl) | fail) only [↓pre, post, Int.reduceEq, Int.reduceLT, Int.reduceLE, Int.reduceAdd, Int.reduceSub, Int.reduceMul, Int.reduceNeg, Nat.reduceLT, Nat.reduceSub, Nat.reduceMul, Nat.reduceAdd, Nat.reduceLeDiff, reduceIte, reduceCtorEq, Nat.reduceEqDiff, eq_true hyp] | skip))
  refine w_loop (fun m vs h0 => ∃ (i p : Nat) (s z : Int) (x6 x7 : AVal) (x11 x12 x13 x14 : AVal), m = ls.length - i ∧ i ≤ ls.length ∧ p ≤ l.length ∧ (p = 0 ∨ (nth l (p - 1)).kind ≠ 0) ∧ 0 ≤ s ∧ s ≤ p * 5000000000 ∧ z = (p : Int) - 1 ∧ sumF l w 0 0 ls = sumF l w p s (ls.drop i) ∧
    vs = [.sl (items l) t, .int .i64 w, .sl (ls.map Ln.toA) t2, .int .i64 0, .int .i64 s, .int .i64 z, x6, x7, .sl (ls.map Ln.toA) t2, .int .i64 ls.length, .int .i64 i, x11, x12, x13, x14]) ls.length
    ⟨0, 0, 0, -1, _, _, _, _, _, _, rfl, by omega, by omega, .inl rfl, by omega, by omega, by omega, rfl, rfl⟩ ?_
  rintro m vs h0 ⟨i, p, s, z, x6, x7, x11, x12, x13, x14, rfl, hil, hp, hpk, hs0, hs1, hz, hsum, rfl⟩
  have hst : p ≤ l.length → PV F 37 [.sl (items l) t, .int .i64 z] = some (.int .i64 (skip l p)) := fun h => start_v p hz (by omega) (by omega)
  have hdrop : i < ls.length → ls.drop i = nth ls i :: ls.drop (i + 1) := fun h => by rw [List.drop_eq_getElem_cons h, nth_eq h]
  have hno : i < ls.length → ¬ fits l w p (nth ls i) → sumF l w 0 0 ls = none := fun h hf => by rw [hsum, hdrop h, sumF, if_neg hf]
  try simp (maxSteps := 4000000) (disch := first | assumption | omega | (simp only [push_next, put_next, empty_next, List.length_cons, List.length_nil] <;> omega) | exact _root_.id rfl | exact _root_.id (fun _ => rfl) | fail) only [↓pre, post, Int.reduceEq, Int.reduceLT, Int.reduceLE, Int.reduceAdd, Int.reduceSub, Int.reduceMul, Int.reduceNeg, Nat.reduceLT, Nat.reduceSub, Nat.reduceMul, Nat.reduceAdd, Nat.reduceLeDiff, reduceIte, reduceCtorEq, Nat.reduceEqDiff, hst, Ln.toA]
  repeat' (first
    | (refine ifP_pos (by first | assumption | omega) ?_ <;> try simp (maxSteps := 4000000) (disch := first | assumption | omega | (simp only [push_next, put_next, empty_next, List.length_cons, List.length_nil] <;> omega) | exact _root_.id rfl | exact _root_.id (fun _ => rfl) | fail) only [↓pre, post, Int.reduceEq, Int.reduceLT, Int.reduceLE, Int.reduceAdd, Int.reduceSub, Int.reduceMul, Int.reduceNeg, Nat.reduceLT, Nat.reduceSub, Nat.reduceMul, Nat.reduceAdd, Nat.reduceLeDiff, reduceIte, reduceCtorEq, Nat.reduceEqDiff, hst, Ln.toA])
    | (refine ifP_neg (by first | assumption | omega) ?_ <;> try simp (maxSteps := 4000000) (disch := first | assumption | omega | (simp only [push_next, put_next, empty_next, List.length_cons, List.length_nil] <;> omega) | exact _root_.id rfl | exact _root_.id (fun _ => rfl) | fail) only [↓pre, post, Int.reduceEq, Int.reduceLT, Int.reduceLE, Int.reduceAdd, Int.reduceSub, Int.reduceMul, Int.reduceNeg, Nat.reduceLT, Nat.reduceSub, Nat.reduceMul, Nat.reduceAdd, Nat.reduceLeDiff, reduceIte, reduceCtorEq, Nat.reduceEqDiff, hst, Ln.toA])
    | (refine ifP_intro (fun hyp => ?_) (fun hyp => ?_) <;> first | simp (maxSteps := 4000000) (disch := first | assumption | omega | (simp only [push_next, put_next, empty_next, List.length_cons, List.length_nil] <;> omega) | exact _root_.id rfl | exact _root_.id (fun _ => rfl) | fail) only [↓pre, post, Int.reduceEq, Int.reduceLT, Int.reduceLE, Int.reduceAdd, Int.reduceSub, Int.reduceMul, Int.reduceNeg, Nat.reduceLT, Nat.reduceSub, Nat.reduceMul, Nat.reduceAdd, Nat.reduceLeDiff, reduceIte, reduceCtorEq, Nat.reduceEqDiff, hst, Ln.toA, eq_false hyp] | simp (maxSteps := 4000000) (disch := first | assumption | omega | (simp only [push_next, put_next, empty_next, List.length_cons, List.length_nil] <;> omega) | exact _root_.id rfl | exact _root_.id (fun _ => rfl) | fail) only [↓pre, post, Int.reduceEq, Int.reduceLT, Int.reduceLE, Int.reduceAdd, Int.reduceSub, Int.reduceMul, Int.reduceNeg, Nat.reduceLT, Nat.reduceSub, Nat.reduceMul, Nat.reduceAdd, Nat.reduceLeDiff, reduceIte, reduceCtorEq, Nat.reduceEqDiff, hst, Ln.toA, eq_true hyp] | skip))
  · have hil' : i < ls.length := by omega
    have L := lines_c (l := l) (t := t) (w := w) (a := skip l p) (g := 57) (cap := [.ptr h0.next 0, .ptr (h0.next + 1) 0]) hv hw (skip_le hp) (· = h0.next + 1)
      (h := (h0.push (.row true (typed 41) true (nth ls i).toA.cells)).push (.row true (typed 3) false [.int .i64 (-1)])) (by intro j hj; subst hj; exact Nat.lt_succ_self _)
      (fun d h1 => h1.get h0.next = some (.row true (typed 41) true (nth ls i).toA.cells) ∧ h1.get (h0.next + 1) = some (.row true (typed 3) false [.int .i64 (lastX (nth ls i) (skip l p) d)]))
      (fun d h1 o i => ⟨get_push_old i.1, get_push_old i.2⟩)
      (fun d y rest h1 e i f => CV_mono (sum1_c i.1 i.2 (by omega)) (fun r h2 k => ⟨⟨k.1, by rw [lastX, List.foldl_append]; exact k.2.1⟩, k.2.2⟩))
      ⟨get_push_old (get_push _ _), get_push_eq rfl⟩
    rw [linesAt_scan hv hpk, lastX_fits (by omega) hyp, ← hyp] at L
    refine CV_mono L ?_
    rintro r h1 ⟨rfl, ⟨i1, i2⟩, hF⟩
    by_cases hf : fits l w p (nth ls i)
    · rw [if_pos hf] at i2
      have hcb := cost_bound hv hw hf.2.2.2.1
      have hb1 := hf.2.2.2.1.1
      have hb2 := hf.2.2.2.1.2.1
      have hb0 := hf.2.2.1
      have hge := skip_ge (l := l) (p := p)
      have hbi : i64 (nth ls i).b := hi _ (nth_mem hil')
      obtain ⟨hbi1, hbi2⟩ := hbi
      have e0 : (Ln.toA (nth ls i)).cells = [.int .i64 (nth ls i).a, .int .i64 (nth ls i).b, .int .i64 (nth ls i).n] := rfl
      rw [e0] at i1
      try simp (maxSteps := 4000000) (disch := first | assumption | omega | (simp only [push_next, put_next, empty_next, List.length_cons, List.length_nil] <;> omega) | exact _root_.id rfl | exact _root_.id (fun _ => rfl) | fail) only [↓pre, post, Int.reduceEq, Int.reduceLT, Int.reduceLE, Int.reduceAdd, Int.reduceSub, Int.reduceMul, Int.reduceNeg, Nat.reduceLT, Nat.reduceSub, Nat.reduceMul, Nat.reduceAdd, Nat.reduceLeDiff, reduceIte, reduceCtorEq, Nat.reduceEqDiff, i1, i2]
      repeat' (first
        | (refine ifP_pos (by first | assumption | omega) ?_ <;> try simp (maxSteps := 4000000) (disch := first | assumption | omega | (simp only [push_next, put_next, empty_next, List.length_cons, List.length_nil] <;> omega) | exact _root_.id rfl | exact _root_.id (fun _ => rfl) | fail) only [↓pre, post, Int.reduceEq, Int.reduceLT, Int.reduceLE, Int.reduceAdd, Int.reduceSub, Int.reduceMul, Int.reduceNeg, Nat.reduceLT, Nat.reduceSub, Nat.reduceMul, Nat.reduceAdd, Nat.reduceLeDiff, reduceIte, reduceCtorEq, Nat.reduceEqDiff, i1, i2])
        | (refine ifP_neg (by first | assumption | omega) ?_ <;> try simp (maxSteps := 4000000) (disch := first | assumption | omega | (simp only [push_next, put_next, empty_next, List.length_cons, List.length_nil] <;> omega) | exact _root_.id rfl | exact _root_.id (fun _ => rfl) | fail) only [↓pre, post, Int.reduceEq, Int.reduceLT, Int.reduceLE, Int.reduceAdd, Int.reduceSub, Int.reduceMul, Int.reduceNeg, Nat.reduceLT, Nat.reduceSub, Nat.reduceMul, Nat.reduceAdd, Nat.reduceLeDiff, reduceIte, reduceCtorEq, Nat.reduceEqDiff, i1, i2])
        | (refine ifP_intro (fun hyp => ?_) (fun hyp => ?_) <;> first | simp (maxSteps := 4000000) (disch := first | assumption | omega | (simp only [push_next, put_next, empty_next, List.length_cons, List.length_nil] <;> omega) | exact _root_.id rfl | exact _root_.id (fun _ => rfl) | fail) only [↓pre, post, Int.reduceEq, Int.reduceLT, Int.reduceLE, Int.reduceAdd, Int.reduceSub, Int.reduceMul, Int.reduceNeg, Nat.reduceLT, Nat.reduceSub, Nat.reduceMul, Nat.reduceAdd, Nat.reduceLeDiff, reduceIte, reduceCtorEq, Nat.reduceEqDiff, i1, i2, eq_false hyp] | simp (maxSteps := 4000000) (disch := first | assumption | omega | (simp only [push_next, put_next, empty_next, List.length_cons, List.length_nil] <;> omega) | exact _root_.id rfl | exact _root_.id (fun _ => rfl) | fail) only [↓pre, post, Int.reduceEq, Int.reduceLT, Int.reduceLE, Int.reduceAdd, Int.reduceSub, Int.reduceMul, Int.reduceNeg, Nat.reduceLT, Nat.reduceSub, Nat.reduceMul, Nat.reduceAdd, Nat.reduceLeDiff, reduceIte, reduceCtorEq, Nat.reduceEqDiff, i1, i2, eq_true hyp] | skip))
      exact lp_n ⟨ls.length - (i + 1), by omega, i + 1, (nth ls i).b.toNat, _, _, _, _, _, _, _, _, rfl, by omega, by omega, .inr hf.2.2.2.1.2.2.2.1, by omega, by omega, by omega, by rw [hsum, hdrop hil', sumF, if_pos hf], rfl⟩
    · rw [if_neg hf] at i2
      try simp (maxSteps := 4000000) (disch := first | assumption | omega | (simp only [push_next, put_next, empty_next, List.length_cons, List.length_nil] <;> omega) | exact _root_.id rfl | exact _root_.id (fun _ => rfl) | fail) only [↓pre, post, Int.reduceEq, Int.reduceLT, Int.reduceLE, Int.reduceAdd, Int.reduceSub, Int.reduceMul, Int.reduceNeg, Nat.reduceLT, Nat.reduceSub, Nat.reduceMul, Nat.reduceAdd, Nat.reduceLeDiff, reduceIte, reduceCtorEq, Nat.reduceEqDiff, i2]
      repeat' (first
        | (refine ifP_pos (by first | assumption | omega) ?_ <;> try simp (maxSteps := 4000000) (disch := first | assumption | omega | (simp only [push_next, put_next, empty_next, List.length_cons, List.length_nil] <;> omega) | exact _root_.id rfl | exact _root_.id (fun _ => rfl) | fail) only [↓pre, post, Int.reduceEq, Int.reduceLT, Int.reduceLE, Int.reduceAdd, Int.reduceSub, Int.reduceMul, Int.reduceNeg, Nat.reduceLT, Nat.reduceSub, Nat.reduceMul, Nat.reduceAdd, Nat.reduceLeDiff, reduceIte, reduceCtorEq, Nat.reduceEqDiff, i2])
        | (refine ifP_neg (by first | assumption | omega) ?_ <;> try simp (maxSteps := 4000000) (disch := first | assumption | omega | (simp only [push_next, put_next, empty_next, List.length_cons, List.length_nil] <;> omega) | exact _root_.id rfl | exact _root_.id (fun _ => rfl) | fail) only [↓pre, post, Int.reduceEq, Int.reduceLT, Int.reduceLE, Int.reduceAdd, Int.reduceSub, Int.reduceMul, Int.reduceNeg, Nat.reduceLT, Nat.reduceSub, Nat.reduceMul, Nat.reduceAdd, Nat.reduceLeDiff, reduceIte, reduceCtorEq, Nat.reduceEqDiff, i2])
        | (refine ifP_intro (fun hyp => ?_) (fun hyp => ?_) <;> first | simp (maxSteps := 4000000) (disch := first | assumption | omega | (simp only [push_next, put_next, empty_next, List.length_cons, List.length_nil] <;> omega) | exact _root_.id rfl | exact _root_.id (fun _ => rfl) | fail) only [↓pre, post, Int.reduceEq, Int.reduceLT, Int.reduceLE, Int.reduceAdd, Int.reduceSub, Int.reduceMul, Int.reduceNeg, Nat.reduceLT, Nat.reduceSub, Nat.reduceMul, Nat.reduceAdd, Nat.reduceLeDiff, reduceIte, reduceCtorEq, Nat.reduceEqDiff, i2, eq_false hyp] | simp (maxSteps := 4000000) (disch := first | assumption | omega | (simp only [push_next, put_next, empty_next, List.length_cons, List.length_nil] <;> omega) | exact _root_.id rfl | exact _root_.id (fun _ => rfl) | fail) only [↓pre, post, Int.reduceEq, Int.reduceLT, Int.reduceLE, Int.reduceAdd, Int.reduceSub, Int.reduceMul, Int.reduceNeg, Nat.reduceLT, Nat.reduceSub, Nat.reduceMul, Nat.reduceAdd, Nat.reduceLeDiff, reduceIte, reduceCtorEq, Nat.reduceEqDiff, i2, eq_true hyp] | skip))
      rw [hno hil' hf]
  · rw [hno (by omega) (fun h => hyp h.2.1)]
  · rw [hno (by omega) (fun h => by have := h.1; omega)]
  · rw [hsum, List.drop_eq_nil_of_le (by omega), sumF]
    simp only
    rw [if_pos (by omega)]
  · rw [hsum, List.drop_eq_nil_of_le (by omega), sumF]
    simp only
    rw [if_neg (by omega)]

end Go.Proofs.Ytcammfdljiingaa
