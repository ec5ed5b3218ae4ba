/-
  reach: every line behind each break that has a value.
-/
import Derived.Test.YtcammfdljiingaaLbM
set_option linter.unusedSimpArgs false
set_option linter.unusedVariables false
set_option maxHeartbeats 8000000
namespace Go.Proofs.Ytcammfdljiingaa
open Go Go.Abs

theorem skip_ge {l : List Item} : ∀ {p : Nat}, p ≤ skip l p := by
  intro p
  induction p using skip.induct l with
  | case1 p h k ih => rw [skip_glue h k]; omega
  | case2 p h k => rw [skip_stop h k]; exact Nat.le_refl _
  | case3 p h => rw [skip_end h]; exact Nat.le_refl _
theorem skip_le {l : List Item} : ∀ {p : Nat}, p ≤ l.length → skip l p ≤ l.length := by
  intro p
  induction p using skip.induct l with
  | case1 p h k ih => intro hp; rw [skip_glue h k]; exact ih (by omega)
  | case2 p h k => intro hp; rw [skip_stop h k]; exact hp
  | case3 p h => intro hp; rw [skip_end h]; exact hp
theorem skip_kind {l : List Item} : ∀ {p : Nat}, skip l p < l.length → (nth l (skip l p)).kind ≠ 1 := by
  intro p
  induction p using skip.induct l with
  | case1 p h k ih => rw [skip_glue h k]; exact ih
  | case2 p h k => rw [skip_stop h k]; exact fun _ => k
  | case3 p h => rw [skip_end h]; intro h'; omega
theorem skip_before {l : List Item} : ∀ {p j : Nat}, p ≤ j → j < skip l p → (nth l j).kind = 1 := by
  intro p
  induction p using skip.induct l with
  | case1 p h k ih =>
    intro j h1 h2
    rw [skip_glue h k] at h2
    by_cases e : j = p
    · subst e; exact k
    · exact ih (by omega) h2
  | case2 p h k => intro j h1 h2; rw [skip_stop h k] at h2; omega
  | case3 p h => intro j h1 h2; rw [skip_end h] at h2; omega
theorem skip_starts {l : List Item} {p : Nat} (h : skip l p < l.length) (hp : p = 0 ∨ (nth l (p - 1)).kind ≠ 0) : starts l (skip l p) := by
  refine ⟨skip_kind h, ?_⟩
  have hge := skip_ge (l := l) (p := p)
  by_cases e : skip l p = p
  · rw [e]
    exact hp
  · right
    have := skip_before (l := l) (p := p) (j := skip l p - 1) (by omega) (by omega)
    omega

/-- The lines behind a break. -/
def linesAt (l : List Item) (w : Int) (p : Nat) : List (Nat × Int × Int) := linesOf l w (skip l p)

theorem linesAt_scan {l : List Item} {w : Int} {p : Nat} (hv : valid l) (hp : p = 0 ∨ (nth l (p - 1)).kind ≠ 0) : scan l w (skip l p) 0 = linesAt l w p := by
  by_cases h : skip l p < l.length
  · exact scan_lines hv (skip_starts h hp)
  · rw [scan_end h, linesAt, linesOf, show l.length - skip l p = 0 by omega]; rfl

/-- One round of reach. -/
def roundS {σ : Type} (l : List Item) (w : Int) (val : σ → Nat → Int) (step : σ → Int → (Nat × Int × Int) → σ) (s : σ) (p : Nat) : σ :=
  let v := if p = 0 then 0 else val s (p - 1)
  if 0 ≤ v ∧ (p = 0 ∨ (nth l (p - 1)).kind ≠ 0) then (linesAt l w p).foldl (fun s x => step s v x) s else s

theorem use_c {a : Nat} {x : Nat × Int × Int} {u v gu : Nat} {vv : Int} {capu : List AVal} {h : Heap} {K : AVal → Heap → Prop} {mu mv : Bool} {su sv : Nat} {au av : Bool} (h0 : h.get u = some (.row mu su au [.fn gu capu])) (h1 : h.get v = some (.row mv sv av [.int .i64 vv]))
    (c : ∀ o, CV F gu ([lineA a x, .int .i64 vv, .int .i64 x.2.2] ++ capu) (h.push o) K) :
    CV F 56 ([lineA a x, .int .i64 x.2.2] ++ [.ptr u 0, .ptr v 0]) h (fun _ h2 => ∃ r, K r h2) := by
  refine CV_wp (fn := c56) rfl ?_
  have hu := get_lt h0
  have hv := get_lt h1
  have h0' := fun o => get_push_old (o := o) h0
  have h1' := fun o => get_push_old (o := o) h1
  dsimp only [c56, lineA]
  try simp (maxSteps := 4000000) (disch := first | assumption | omega | (simp only [push_next, put_next, empty_next, List.length_cons, List.length_nil] <;> omega) | exact _root_.id rfl | exact _root_.id (fun _ => rfl) | fail) only [↓pre, post, Int.reduceEq, Int.reduceLT, Int.reduceLE, Int.reduceAdd, Int.reduceSub, Int.reduceMul, Int.reduceNeg, Nat.reduceLT, Nat.reduceSub, Nat.reduceMul, Nat.reduceAdd, Nat.reduceLeDiff, reduceIte, reduceCtorEq, Nat.reduceEqDiff, h0', h1']
  repeat' (first
    | (refine ifP_pos (by first | assumption | omega) ?_ <;> try simp (maxSteps := 4000000) (disch := first | assumption | omega | (simp only [push_next, put_next, empty_next, List.length_cons, List.length_nil] <;> omega) | exact _root_.id rfl | exact _root_.id (fun _ => rfl) | fail) only [↓pre, post, Int.reduceEq, Int.reduceLT, Int.reduceLE, Int.reduceAdd, Int.reduceSub, Int.reduceMul, Int.reduceNeg, Nat.reduceLT, Nat.reduceSub, Nat.reduceMul, Nat.reduceAdd, Nat.reduceLeDiff, reduceIte, reduceCtorEq, Nat.reduceEqDiff, h0', h1'])
    | (refine ifP_neg (by first | assumption | omega) ?_ <;> try simp (maxSteps := 4000000) (disch := first | assumption | omega | (simp only [push_next, put_next, empty_next, List.length_cons, List.length_nil] <;> omega) | exact _root_.id rfl | exact _root_.id (fun _ => rfl) | fail) only [↓pre, post, Int.reduceEq, Int.reduceLT, Int.reduceLE, Int.reduceAdd, Int.reduceSub, Int.reduceMul, Int.reduceNeg, Nat.reduceLT, Nat.reduceSub, Nat.reduceMul, Nat.reduceAdd, Nat.reduceLeDiff, reduceIte, reduceCtorEq, Nat.reduceEqDiff, h0', h1'])
    | (refine ifP_intro (fun hyp => ?_) (fun hyp => ?_) <;> first | simp (maxSteps := 4000000) (disch := first | assumption | omega | (simp only [push_next, put_next, empty_next, List.length_cons, List.length_nil] <;> omega) | exact _root_.id rfl | exact _root_.id (fun _ => rfl) | fail) only [↓pre, post, Int.reduceEq, Int.reduceLT, Int.reduceLE, Int.reduceAdd, Int.reduceSub, Int.reduceMul, Int.reduceNeg, Nat.reduceLT, Nat.reduceSub, Nat.reduceMul, Nat.reduceAdd, Nat.reduceLeDiff, reduceIte, reduceCtorEq, Nat.reduceEqDiff, h0', h1', eq_false hyp] | simp (maxSteps := 4000000) (disch := first | assumption | omega | (simp only [push_next, put_next, empty_next, List.length_cons, List.length_nil] <;> omega) | exact _root_.id rfl | exact _root_.id (fun _ => rfl) | fail) only [↓pre, post, Int.reduceEq, Int.reduceLT, Int.reduceLE, Int.reduceAdd, Int.reduceSub, Int.reduceMul, Int.reduceNeg, Nat.reduceLT, Nat.reduceSub, Nat.reduceMul, Nat.reduceAdd, Nat.reduceLeDiff, reduceIte, reduceCtorEq, Nat.reduceEqDiff, h0', h1', eq_true hyp] | skip))
  refine CV_mono (c _) ?_
  intro r h2 hk
  try simp (maxSteps := 4000000) (disch := first | assumption | omega | (simp only [push_next, put_next, empty_next, List.length_cons, List.length_nil] <;> omega) | exact _root_.id rfl | exact _root_.id (fun _ => rfl) | fail) only [↓pre, post, Int.reduceEq, Int.reduceLT, Int.reduceLE, Int.reduceAdd, Int.reduceSub, Int.reduceMul, Int.reduceNeg, Nat.reduceLT, Nat.reduceSub, Nat.reduceMul, Nat.reduceAdd, Nat.reduceLeDiff, reduceIte, reduceCtorEq, Nat.reduceEqDiff]
  repeat' (first
    | (refine ifP_pos (by first | assumption | omega) ?_ <;> try simp (maxSteps := 4000000) (disch := first | assumption | omega | (simp only [push_next, put_next, empty_next, List.length_cons, List.length_nil] <;> omega) | exact _root_.id rfl | exact _root_.id (fun _ => rfl) | fail) only [↓pre, post, Int.reduceEq, Int.reduceLT, Int.reduceLE, Int.reduceAdd, Int.reduceSub, Int.reduceMul, Int.reduceNeg, Nat.reduceLT, Nat.reduceSub, Nat.reduceMul, Nat.reduceAdd, Nat.reduceLeDiff, reduceIte, reduceCtorEq, Nat.reduceEqDiff])
    | (refine ifP_neg (by first | assumption | omega) ?_ <;> try simp (maxSteps := 4000000) (disch := first | assumption | omega | (simp only [push_next, put_next, empty_next, List.length_cons, List.length_nil] <;> omega) | exact _root_.id rfl | exact _root_.id (fun _ => rfl) | fail) only [↓pre, post, Int.reduceEq, Int.reduceLT, Int.reduceLE, Int.reduceAdd, Int.reduceSub, Int.reduceMul, Int.reduceNeg, Nat.reduceLT, Nat.reduceSub, Nat.reduceMul, Nat.reduceAdd, Nat.reduceLeDiff, reduceIte, reduceCtorEq, Nat.reduceEqDiff])
    | (refine ifP_intro (fun hyp => ?_) (fun hyp => ?_) <;> first | simp (maxSteps := 4000000) (disch := first | assumption | omega | (simp only [push_next, put_next, empty_next, List.length_cons, List.length_nil] <;> omega) | exact _root_.id rfl | exact _root_.id (fun _ => rfl) | fail) only [↓pre, post, Int.reduceEq, Int.reduceLT, Int.reduceLE, Int.reduceAdd, Int.reduceSub, Int.reduceMul, Int.reduceNeg, Nat.reduceLT, Nat.reduceSub, Nat.reduceMul, Nat.reduceAdd, Nat.reduceLeDiff, reduceIte, reduceCtorEq, Nat.reduceEqDiff, eq_false hyp] | simp (maxSteps := 4000000) (disch := first | assumption | omega | (simp only [push_next, put_next, empty_next, List.length_cons, List.length_nil] <;> omega) | exact _root_.id rfl | exact _root_.id (fun _ => rfl) | fail) only [↓pre, post, Int.reduceEq, Int.reduceLT, Int.reduceLE, Int.reduceAdd, Int.reduceSub, Int.reduceMul, Int.reduceNeg, Nat.reduceLT, Nat.reduceSub, Nat.reduceMul, Nat.reduceAdd, Nat.reduceLeDiff, reduceIte, reduceCtorEq, Nat.reduceEqDiff, eq_true hyp] | skip))
  exact ⟨r, hk⟩

theorem reach_c {σ : Type} {l : List Item} {t : Tok} {w : Int} {gv gu : Nat} {capv capu : List AVal} (ht : Pt t) (hv : valid l) (hw : widthOk w) (S : Nat → Prop) {h : Heap} (hS : ∀ j, S j → j < h.next)
    (V : Nat → Int → Prop) (val : σ → Nat → Int) (step : σ → Int → (Nat × Int × Int) → σ) (I : σ → Heap → Prop)
    (hloc : ∀ s h1 h2, (∀ j, S j → h2.get j = h1.get j) → I s h1 → I s h2) (hV0 : V 0 0)
    (hval : ∀ s k h1, k + 1 < l.length → I s h1 → Fr S h h1 → CV F gv ([.int .i64 (k : Int)] ++ capv) h1 (fun r h2 => r = .int .i64 (val s k) ∧ I s h2 ∧ Fr S h1 h2 ∧ V (k + 1) (val s k)))
    (huse : ∀ s p v x h1, p < l.length → V p v → 0 ≤ v → x ∈ linesAt l w p → I s h1 → Fr S h h1 → CV F gu ([lineA (skip l p) x, .int .i64 v, .int .i64 x.2.2] ++ capu) h1 (fun _ h2 => I (step s v x) h2 ∧ Fr S h1 h2))
    (s0 : σ) (h0 : I s0 h) :
    CV F 41 [.sl (items l) t, .int .i64 w, .fn gv capv, .fn gu capu] h (fun r h' => r = .tup [] ∧ I ((List.range l.length).foldl (roundS l w val step) s0) h' ∧ Fr S h h') := by
  have hl := hv.2.1
  have hl1 := hv.1
  have hpush : ∀ s h1 o, h.next ≤ h1.next → I s h1 → I s (h1.push o) := fun s h1 o hle hi => hloc s h1 _ (fun j hj => get_push_ne (by have := hS j hj; omega)) hi
  refine CV_wp (fn := c41) rfl ?_
  dsimp only [c41]
  try simp (maxSteps := 4000000) (disch := first | assumption | omega | (simp only [push_next, put_next, empty_next, List.length_cons, List.length_nil] <;> omega) | exact _root_.id rfl | exact _root_.id (fun _ => rfl) | fail) only [↓pre, post, Int.reduceEq, Int.reduceLT, Int.reduceLE, Int.reduceAdd, Int.reduceSub, Int.reduceMul, Int.reduceNeg, Nat.reduceLT, Nat.reduceSub, Nat.reduceMul, Nat.reduceAdd, Nat.reduceLeDiff, reduceIte, reduceCtorEq, Nat.reduceEqDiff]
  repeat' (first
    | (refine ifP_pos (by first | assumption | omega) ?_ <;> try simp (maxSteps := 4000000) (disch := first | assumption | omega | (simp only [push_next, put_next, empty_next, List.length_cons, List.length_nil] <;> omega) | exact _root_.id rfl | exact _root_.id (fun _ => rfl) | fail) only [↓pre, post, Int.reduceEq, Int.reduceLT, Int.reduceLE, Int.reduceAdd, Int.reduceSub, Int.reduceMul, Int.reduceNeg, Nat.reduceLT, Nat.reduceSub, Nat.reduceMul, Nat.reduceAdd, Nat.reduceLeDiff, reduceIte, reduceCtorEq, Nat.reduceEqDiff])
    | (refine ifP_neg (by first | assumption | omega) ?_ <;> try simp (maxSteps := 4000000) (disch := first | assumption | omega | (simp only [push_next, put_next, empty_next, List.length_cons, List.length_nil] <;> omega) | exact _root_.id rfl | exact _root_.id (fun _ => rfl) | fail) only [↓pre, post, Int.reduceEq, Int.reduceLT, Int.reduceLE, Int.reduceAdd, Int.reduceSub, Int.reduceMul, Int.reduceNeg, Nat.reduceLT, Nat.reduceSub, Nat.reduceMul, Nat.reduceAdd, Nat.reduceLeDiff, reduceIte, reduceCtorEq, Nat.reduceEqDiff])
    | (refine ifP_intro (fun hyp => ?_) (fun hyp => ?_) <;> first | simp (maxSteps := 4000000) (disch := first | assumption | omega | (simp only [push_next, put_next, empty_next, List.length_cons, List.length_nil] <;> omega) | exact _root_.id rfl | exact _root_.id (fun _ => rfl) | fail) only [↓pre, post, Int.reduceEq, Int.reduceLT, Int.reduceLE, Int.reduceAdd, Int.reduceSub, Int.reduceMul, Int.reduceNeg, Nat.reduceLT, Nat.reduceSub, Nat.reduceMul, Nat.reduceAdd, Nat.reduceLeDiff, reduceIte, reduceCtorEq, Nat.reduceEqDiff, eq_false hyp] | simp (maxSteps := 4000000) (disch := first | assumption | omega | (simp only [push_next, put_next, empty_next, List.length_cons, List.length_nil] <;> omega) | exact _root_.id rfl | exact _root_.id (fun _ => rfl) | fail) only [↓pre, post, Int.reduceEq, Int.reduceLT, Int.reduceLE, Int.reduceAdd, Int.reduceSub, Int.reduceMul, Int.reduceNeg, Nat.reduceLT, Nat.reduceSub, Nat.reduceMul, Nat.reduceAdd, Nat.reduceLeDiff, reduceIte, reduceCtorEq, Nat.reduceEqDiff, eq_true hyp] | skip))
  have hnu : ¬ S h.next := fun h' => by have := hS _ h'; omega
  refine w_loop (fun m vs h1 => ∃ (p : Nat) (v : Int) (x6 x7 x8 x9 : AVal), m = l.length - p ∧ v = (p : Int) - 1 ∧ p ≤ l.length ∧ h1.get h.next = some (.row true 0 false [.fn gu capu]) ∧ I ((List.range p).foldl (roundS l w val step) s0) h1 ∧ Fr S h h1 ∧ h.next < h1.next ∧
    vs = [.sl (items l) t, .int .i64 w, .fn gv capv, .fn gu capu, .ptr h.next 0, .int .i64 v, x6, x7, x8, x9]) (l.length)
    ⟨0, -1, _, _, _, _, rfl, by omega, by omega, get_push _ _, hpush _ _ _ (Nat.le_refl _) h0, (Fr.refl _ _).push _, Nat.lt_succ_self _, rfl⟩ ?_
  rintro m vs h1 ⟨p, v, x6, x7, x8, x9, rfl, rfl, hp, hu, hI, hF, hlt, rfl⟩
  generalize hs : (List.range p).foldl (roundS l w val step) s0 = s at hI
  have hnv : ¬ S h1.next := fun h' => by have := hS _ h'; omega
  have hsk : p ≤ l.length → skip l p ≤ l.length := skip_le
  have hst : PV F 37 [.sl (items l) t, .int .i64 ((p : Int) - 1)] = some (.int .i64 (skip l p)) := start_v p rfl (by omega) (by omega)
  have hnext : (List.range (p + 1)).foldl (roundS l w val step) s0 = roundS l w val step s p := by rw [List.range_succ, List.foldl_append, hs]; rfl
  -- one call of lines, with the value in its row
  have body : ∀ (vv : Int) (h2 : Heap) (Q : AVal → Heap → Prop), p < l.length → V p vv → 0 ≤ vv → (p = 0 ∨ (nth l (p - 1)).kind ≠ 0) → h2.get h.next = some (.row true 0 false [.fn gu capu]) → h2.get h1.next = some (.row true (typed 3) false [.int .i64 vv]) → I s h2 → Fr S h h2 → h1.next < h2.next →
      (∀ h3, I ((linesAt l w p).foldl (fun s x => step s vv x) s) h3 → Fr S h h3 → h1.next < h3.next → h3.get h.next = some (.row true 0 false [.fn gu capu]) → Q (.tup []) h3) →
      CV F 35 [.sl (items l) t, .int .i64 (skip l p), .int .i64 w, .fn 56 [.ptr h.next 0, .ptr h1.next 0]] h2 Q := by
    intro vv h2 Q hpl hVv h0v hk gu2 gv2 hI2 hF2 hlt2 q
    have hsc := linesAt_scan (w := w) hv hk
    refine CV_mono (lines_c (a := skip l p) hv hw (skip_le hp) S (fun j hj => by have := hS j hj; omega)
      (fun d h3 => I (d.foldl (fun s x => step s vv x) s) h3 ∧ h3.get h.next = some (.row true 0 false [.fn gu capu]) ∧ h3.get h1.next = some (.row true (typed 3) false [.int .i64 vv]) ∧ h1.next < h3.next)
      (fun d h3 o i => ⟨hpush _ _ _ (by have := i.2.2.2; omega) i.1, get_push_old i.2.1, get_push_old i.2.2.1, Nat.lt_succ_of_lt i.2.2.2⟩)
      (fun d x rest h3 e i f => ?_) ⟨hI2, gu2, gv2, hlt2⟩) ?_
    · obtain ⟨i1, i2, i3, i4⟩ := i
      have hx : x ∈ linesAt l w p := by rw [← hsc, e]; simp
      have hF3 : Fr S h h3 := hF2.trans f
      refine CV_mono (use_c (K := fun _ h4 => I (step (d.foldl (fun s x => step s vv x) s) vv x) h4 ∧ Fr S h3 h4) i2 i3 (fun o => CV_mono (huse _ p vv x _ hpl hVv h0v hx (hpush _ _ o (by omega) i1) (hF3.push o)) ?_)) ?_
      · rintro r h4 ⟨k1, k2⟩
        exact ⟨k1, ((Fr.refl S h3).push o).trans k2⟩
      · rintro r h4 ⟨_, k1, k2⟩
        refine ⟨⟨?_, k2.get i2 hnu, k2.get i3 hnv, Nat.lt_of_lt_of_le i4 k2.1⟩, k2⟩
        rw [List.foldl_append]; exact k1
    · rintro r h3 ⟨rfl, ⟨i1, i2, i3, i4⟩, f⟩
      rw [hsc] at i1
      exact q h3 i1 (hF2.trans f) i4 i2
  have fin : ∀ (h3 : Heap) (z : Int) (y6 y7 y8 y9 : AVal), p < l.length → z = (p : Int) → I (roundS l w val step s p) h3 → Fr S h h3 → h1.next < h3.next → h3.get h.next = some (.row true 0 false [.fn gu capu]) →
      ∃ m', m' < l.length - p ∧ ∃ (k : Nat) (u : Int) (x6 x7 x8 x9 : AVal), m' = l.length - k ∧ u = (k : Int) - 1 ∧ k ≤ l.length ∧ h3.get h.next = some (.row true 0 false [.fn gu capu]) ∧ I ((List.range k).foldl (roundS l w val step) s0) h3 ∧ Fr S h h3 ∧ h.next < h3.next ∧
        [AVal.sl (items l) t, .int .i64 w, .fn gv capv, .fn gu capu, .ptr h.next 0, .int .i64 z, y6, y7, y8, y9] = [.sl (items l) t, .int .i64 w, .fn gv capv, .fn gu capu, .ptr h.next 0, .int .i64 u, x6, x7, x8, x9] :=
    fun h3 z y6 y7 y8 y9 hpl hz hI3 hF3 hlt3 hu3 => ⟨l.length - (p + 1), by omega, p + 1, z, y6, y7, y8, y9, rfl, by omega, hpl, hu3, by rw [hnext]; exact hI3, hF3, by omega, rfl⟩
  have hnle := hF.1
  try simp (maxSteps := 4000000) (disch := first | assumption | omega | (simp only [push_next, put_next, empty_next, List.length_cons, List.length_nil] <;> omega) | exact _root_.id rfl | exact _root_.id (fun _ => rfl) | fail) only [↓pre, post, Int.reduceEq, Int.reduceLT, Int.reduceLE, Int.reduceAdd, Int.reduceSub, Int.reduceMul, Int.reduceNeg, Nat.reduceLT, Nat.reduceSub, Nat.reduceMul, Nat.reduceAdd, Nat.reduceLeDiff, reduceIte, reduceCtorEq, Nat.reduceEqDiff, hst, Item.toA]
  repeat' (first
    | (refine ifP_pos (by first | assumption | omega) ?_ <;> try simp (maxSteps := 4000000) (disch := first | assumption | omega | (simp only [push_next, put_next, empty_next, List.length_cons, List.length_nil] <;> omega) | exact _root_.id rfl | exact _root_.id (fun _ => rfl) | fail) only [↓pre, post, Int.reduceEq, Int.reduceLT, Int.reduceLE, Int.reduceAdd, Int.reduceSub, Int.reduceMul, Int.reduceNeg, Nat.reduceLT, Nat.reduceSub, Nat.reduceMul, Nat.reduceAdd, Nat.reduceLeDiff, reduceIte, reduceCtorEq, Nat.reduceEqDiff, hst, Item.toA])
    | (refine ifP_neg (by first | assumption | omega) ?_ <;> try simp (maxSteps := 4000000) (disch := first | assumption | omega | (simp only [push_next, put_next, empty_next, List.length_cons, List.length_nil] <;> omega) | exact _root_.id rfl | exact _root_.id (fun _ => rfl) | fail) only [↓pre, post, Int.reduceEq, Int.reduceLT, Int.reduceLE, Int.reduceAdd, Int.reduceSub, Int.reduceMul, Int.reduceNeg, Nat.reduceLT, Nat.reduceSub, Nat.reduceMul, Nat.reduceAdd, Nat.reduceLeDiff, reduceIte, reduceCtorEq, Nat.reduceEqDiff, hst, Item.toA])
    | (refine ifP_intro (fun hyp => ?_) (fun hyp => ?_) <;> first | simp (maxSteps := 4000000) (disch := first | assumption | omega | (simp only [push_next, put_next, empty_next, List.length_cons, List.length_nil] <;> omega) | exact _root_.id rfl | exact _root_.id (fun _ => rfl) | fail) only [↓pre, post, Int.reduceEq, Int.reduceLT, Int.reduceLE, Int.reduceAdd, Int.reduceSub, Int.reduceMul, Int.reduceNeg, Nat.reduceLT, Nat.reduceSub, Nat.reduceMul, Nat.reduceAdd, Nat.reduceLeDiff, reduceIte, reduceCtorEq, Nat.reduceEqDiff, hst, Item.toA, eq_false hyp] | simp (maxSteps := 4000000) (disch := first | assumption | omega | (simp only [push_next, put_next, empty_next, List.length_cons, List.length_nil] <;> omega) | exact _root_.id rfl | exact _root_.id (fun _ => rfl) | fail) only [↓pre, post, Int.reduceEq, Int.reduceLT, Int.reduceLE, Int.reduceAdd, Int.reduceSub, Int.reduceMul, Int.reduceNeg, Nat.reduceLT, Nat.reduceSub, Nat.reduceMul, Nat.reduceAdd, Nat.reduceLeDiff, reduceIte, reduceCtorEq, Nat.reduceEqDiff, hst, Item.toA, eq_true hyp] | skip))
  · have hk : ((p : Int) - 1) = ((p - 1 : Nat) : Int) := by omega
    have hpos : 0 < p := by omega
    rw [hk]
    refine CV_mono (hval s (p - 1) _ (by omega) (hpush _ _ _ (by omega) hI) (hF.push _)) ?_
    rintro r h2 ⟨rfl, i2, f2, v2⟩
    have g1 : h2.get h1.next = some (.row true (typed 3) false [.int .i64 0]) := f2.get (get_push _ _) hnv
    have gu2 := f2.get (get_push_old hu) hnu
    have g1' : ∀ o, (h2.put h1.next o).get h1.next = o := fun o => get_put_old g1
    have hle2 := f2.1
    rw [push_next] at hle2
    rw [show p - 1 + 1 = p by omega] at v2
    have i3 : ∀ o, I s (h2.put h1.next o) := fun o => hloc s h2 _ (fun j hj => get_put_ne (fun e => hnv (e ▸ hj))) i2
    have f3 : ∀ o, Fr S h (h2.put h1.next o) := fun o => ((hF.push _).trans f2).put (.inr (by omega)) o
    have gu3 : ∀ o, (h2.put h1.next o).get h.next = some (.row true 0 false [.fn gu capu]) := fun o => by rw [get_put_ne (by omega)]; exact gu2
    have hst' : PV F 37 [.sl (items l) t, .int .i64 ((p - 1 : Nat) : Int)] = some (.int .i64 (skip l p)) := by rw [← hk]; exact hst
    have r2 : ∀ vv, vv = val s (p - 1) → 0 ≤ vv → (nth l (p - 1)).kind ≠ 0 → roundS l w val step s p = (linesAt l w p).foldl (fun s x => step s vv x) s := fun vv e h0 hk => by
      subst e
      simp only [roundS, show ¬ p = 0 by omega, if_false, h0, hk, ne_eq, not_false_eq_true, or_true, and_self, if_true]
    have r3 : ¬ (0 ≤ val s (p - 1) ∧ (nth l (p - 1)).kind ≠ 0) → roundS l w val step s p = s := fun hn => by
      simp only [roundS, show ¬ p = 0 by omega, if_false, false_or]
      rw [if_neg hn]
    try simp (maxSteps := 4000000) (disch := first | assumption | omega | (simp only [push_next, put_next, empty_next, List.length_cons, List.length_nil] <;> omega) | exact _root_.id rfl | exact _root_.id (fun _ => rfl) | fail) only [↓pre, post, Int.reduceEq, Int.reduceLT, Int.reduceLE, Int.reduceAdd, Int.reduceSub, Int.reduceMul, Int.reduceNeg, Nat.reduceLT, Nat.reduceSub, Nat.reduceMul, Nat.reduceAdd, Nat.reduceLeDiff, reduceIte, reduceCtorEq, Nat.reduceEqDiff, g1, g1', hst', Item.toA]
    repeat' (first
      | (refine ifP_pos (by first | assumption | omega) ?_ <;> try simp (maxSteps := 4000000) (disch := first | assumption | omega | (simp only [push_next, put_next, empty_next, List.length_cons, List.length_nil] <;> omega) | exact _root_.id rfl | exact _root_.id (fun _ => rfl) | fail) only [↓pre, post, Int.reduceEq, Int.reduceLT, Int.reduceLE, Int.reduceAdd, Int.reduceSub, Int.reduceMul, Int.reduceNeg, Nat.reduceLT, Nat.reduceSub, Nat.reduceMul, Nat.reduceAdd, Nat.reduceLeDiff, reduceIte, reduceCtorEq, Nat.reduceEqDiff, g1, g1', hst', Item.toA])
      | (refine ifP_neg (by first | assumption | omega) ?_ <;> try simp (maxSteps := 4000000) (disch := first | assumption | omega | (simp only [push_next, put_next, empty_next, List.length_cons, List.length_nil] <;> omega) | exact _root_.id rfl | exact _root_.id (fun _ => rfl) | fail) only [↓pre, post, Int.reduceEq, Int.reduceLT, Int.reduceLE, Int.reduceAdd, Int.reduceSub, Int.reduceMul, Int.reduceNeg, Nat.reduceLT, Nat.reduceSub, Nat.reduceMul, Nat.reduceAdd, Nat.reduceLeDiff, reduceIte, reduceCtorEq, Nat.reduceEqDiff, g1, g1', hst', Item.toA])
      | (refine ifP_intro (fun hyp => ?_) (fun hyp => ?_) <;> first | simp (maxSteps := 4000000) (disch := first | assumption | omega | (simp only [push_next, put_next, empty_next, List.length_cons, List.length_nil] <;> omega) | exact _root_.id rfl | exact _root_.id (fun _ => rfl) | fail) only [↓pre, post, Int.reduceEq, Int.reduceLT, Int.reduceLE, Int.reduceAdd, Int.reduceSub, Int.reduceMul, Int.reduceNeg, Nat.reduceLT, Nat.reduceSub, Nat.reduceMul, Nat.reduceAdd, Nat.reduceLeDiff, reduceIte, reduceCtorEq, Nat.reduceEqDiff, g1, g1', hst', Item.toA, eq_false hyp] | simp (maxSteps := 4000000) (disch := first | assumption | omega | (simp only [push_next, put_next, empty_next, List.length_cons, List.length_nil] <;> omega) | exact _root_.id rfl | exact _root_.id (fun _ => rfl) | fail) only [↓pre, post, Int.reduceEq, Int.reduceLT, Int.reduceLE, Int.reduceAdd, Int.reduceSub, Int.reduceMul, Int.reduceNeg, Nat.reduceLT, Nat.reduceSub, Nat.reduceMul, Nat.reduceAdd, Nat.reduceLeDiff, reduceIte, reduceCtorEq, Nat.reduceEqDiff, g1, g1', hst', Item.toA, eq_true hyp] | skip))
    · exact lp_n (fin _ _ _ _ _ _ (by omega) (by omega) (by rw [r3 (fun h' => h'.2 (by assumption))]; exact i3 _) (f3 _) (by rw [put_next]; omega) (gu3 _))
    · refine body (val s (p - 1)) _ _ (by omega) v2 (by omega) (.inr (by assumption)) (gu3 _) (g1' _) (i3 _) (f3 _) (by rw [put_next]; omega) ?_
      intro h3 i4 f4 hlt4 hu4
      try simp (maxSteps := 4000000) (disch := first | assumption | omega | (simp only [push_next, put_next, empty_next, List.length_cons, List.length_nil] <;> omega) | exact _root_.id rfl | exact _root_.id (fun _ => rfl) | fail) only [↓pre, post, Int.reduceEq, Int.reduceLT, Int.reduceLE, Int.reduceAdd, Int.reduceSub, Int.reduceMul, Int.reduceNeg, Nat.reduceLT, Nat.reduceSub, Nat.reduceMul, Nat.reduceAdd, Nat.reduceLeDiff, reduceIte, reduceCtorEq, Nat.reduceEqDiff]
      repeat' (first
        | (refine ifP_pos (by first | assumption | omega) ?_ <;> try simp (maxSteps := 4000000) (disch := first | assumption | omega | (simp only [push_next, put_next, empty_next, List.length_cons, List.length_nil] <;> omega) | exact _root_.id rfl | exact _root_.id (fun _ => rfl) | fail) only [↓pre, post, Int.reduceEq, Int.reduceLT, Int.reduceLE, Int.reduceAdd, Int.reduceSub, Int.reduceMul, Int.reduceNeg, Nat.reduceLT, Nat.reduceSub, Nat.reduceMul, Nat.reduceAdd, Nat.reduceLeDiff, reduceIte, reduceCtorEq, Nat.reduceEqDiff])
        | (refine ifP_neg (by first | assumption | omega) ?_ <;> try simp (maxSteps := 4000000) (disch := first | assumption | omega | (simp only [push_next, put_next, empty_next, List.length_cons, List.length_nil] <;> omega) | exact _root_.id rfl | exact _root_.id (fun _ => rfl) | fail) only [↓pre, post, Int.reduceEq, Int.reduceLT, Int.reduceLE, Int.reduceAdd, Int.reduceSub, Int.reduceMul, Int.reduceNeg, Nat.reduceLT, Nat.reduceSub, Nat.reduceMul, Nat.reduceAdd, Nat.reduceLeDiff, reduceIte, reduceCtorEq, Nat.reduceEqDiff])
        | (refine ifP_intro (fun hyp => ?_) (fun hyp => ?_) <;> first | simp (maxSteps := 4000000) (disch := first | assumption | omega | (simp only [push_next, put_next, empty_next, List.length_cons, List.length_nil] <;> omega) | exact _root_.id rfl | exact _root_.id (fun _ => rfl) | fail) only [↓pre, post, Int.reduceEq, Int.reduceLT, Int.reduceLE, Int.reduceAdd, Int.reduceSub, Int.reduceMul, Int.reduceNeg, Nat.reduceLT, Nat.reduceSub, Nat.reduceMul, Nat.reduceAdd, Nat.reduceLeDiff, reduceIte, reduceCtorEq, Nat.reduceEqDiff, eq_false hyp] | simp (maxSteps := 4000000) (disch := first | assumption | omega | (simp only [push_next, put_next, empty_next, List.length_cons, List.length_nil] <;> omega) | exact _root_.id rfl | exact _root_.id (fun _ => rfl) | fail) only [↓pre, post, Int.reduceEq, Int.reduceLT, Int.reduceLE, Int.reduceAdd, Int.reduceSub, Int.reduceMul, Int.reduceNeg, Nat.reduceLT, Nat.reduceSub, Nat.reduceMul, Nat.reduceAdd, Nat.reduceLeDiff, reduceIte, reduceCtorEq, Nat.reduceEqDiff, eq_true hyp] | skip))
      exact lp_n (fin h3 _ _ _ _ _ (by omega) (by omega) (by rw [r2 _ rfl (by omega) (by assumption)]; exact i4) f4 hlt4 hu4)
    · exact lp_n (fin _ _ _ _ _ _ (by omega) (by omega) (by rw [r3 (fun h' => by omega)]; exact i3 _) (f3 _) (by rw [put_next]; omega) (gu3 _))
  · have hp0 : p = 0 := by omega
    subst hp0
    refine body 0 _ _ (by omega) hV0 (by omega) (.inl rfl) (get_push_old hu) (get_push _ _) (hpush _ _ _ (by omega) hI) (hF.push _) (Nat.lt_succ_self _) ?_
    intro h3 i3 f3 hlt3 hu3
    try simp (maxSteps := 4000000) (disch := first | assumption | omega | (simp only [push_next, put_next, empty_next, List.length_cons, List.length_nil] <;> omega) | exact _root_.id rfl | exact _root_.id (fun _ => rfl) | fail) only [↓pre, post, Int.reduceEq, Int.reduceLT, Int.reduceLE, Int.reduceAdd, Int.reduceSub, Int.reduceMul, Int.reduceNeg, Nat.reduceLT, Nat.reduceSub, Nat.reduceMul, Nat.reduceAdd, Nat.reduceLeDiff, reduceIte, reduceCtorEq, Nat.reduceEqDiff]
    repeat' (first
      | (refine ifP_pos (by first | assumption | omega) ?_ <;> try simp (maxSteps := 4000000) (disch := first | assumption | omega | (simp only [push_next, put_next, empty_next, List.length_cons, List.length_nil] <;> omega) | exact _root_.id rfl | exact _root_.id (fun _ => rfl) | fail) only [↓pre, post, Int.reduceEq, Int.reduceLT, Int.reduceLE, Int.reduceAdd, Int.reduceSub, Int.reduceMul, Int.reduceNeg, Nat.reduceLT, Nat.reduceSub, Nat.reduceMul, Nat.reduceAdd, Nat.reduceLeDiff, reduceIte, reduceCtorEq, Nat.reduceEqDiff])
      | (refine ifP_neg (by first | assumption | omega) ?_ <;> try simp (maxSteps := 4000000) (disch := first | assumption | omega | (simp only [push_next, put_next, empty_next, List.length_cons, List.length_nil] <;> omega) | exact _root_.id rfl | exact _root_.id (fun _ => rfl) | fail) only [↓pre, post, Int.reduceEq, Int.reduceLT, Int.reduceLE, Int.reduceAdd, Int.reduceSub, Int.reduceMul, Int.reduceNeg, Nat.reduceLT, Nat.reduceSub, Nat.reduceMul, Nat.reduceAdd, Nat.reduceLeDiff, reduceIte, reduceCtorEq, Nat.reduceEqDiff])
      | (refine ifP_intro (fun hyp => ?_) (fun hyp => ?_) <;> first | simp (maxSteps := 4000000) (disch := first | assumption | omega | (simp only [push_next, put_next, empty_next, List.length_cons, List.length_nil] <;> omega) | exact _root_.id rfl | exact _root_.id (fun _ => rfl) | fail) only [↓pre, post, Int.reduceEq, Int.reduceLT, Int.reduceLE, Int.reduceAdd, Int.reduceSub, Int.reduceMul, Int.reduceNeg, Nat.reduceLT, Nat.reduceSub, Nat.reduceMul, Nat.reduceAdd, Nat.reduceLeDiff, reduceIte, reduceCtorEq, Nat.reduceEqDiff, eq_false hyp] | simp (maxSteps := 4000000) (disch := first | assumption | omega | (simp only [push_next, put_next, empty_next, List.length_cons, List.length_nil] <;> omega) | exact _root_.id rfl | exact _root_.id (fun _ => rfl) | fail) only [↓pre, post, Int.reduceEq, Int.reduceLT, Int.reduceLE, Int.reduceAdd, Int.reduceSub, Int.reduceMul, Int.reduceNeg, Nat.reduceLT, Nat.reduceSub, Nat.reduceMul, Nat.reduceAdd, Nat.reduceLeDiff, reduceIte, reduceCtorEq, Nat.reduceEqDiff, eq_true hyp] | skip))
    exact lp_n (fin h3 _ _ _ _ _ (by omega) (by omega) i3 f3 hlt3 hu3)
  · have hpe : p = l.length := by omega
    subst hpe
    rw [hs]
    exact ⟨hI, hF⟩

end Go.Proofs.Ytcammfdljiingaa
