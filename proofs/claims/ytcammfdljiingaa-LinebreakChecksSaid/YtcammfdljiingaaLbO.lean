/-
  Check of the program; the sum of the reference model.
-/
import Derived.Test.YtcammfdljiingaaLbL
set_option linter.unusedSimpArgs false
set_option linter.unusedVariables false
set_option maxHeartbeats 8000000
namespace Go.Abs
/-- The lesser or the greater number. -/
def mnxA (mx : Bool) (x y : AVal) : Option AVal := match x, y with
  | .int k a, .int _ b => some (.int k (if mx then (if a < b then b else a) else (if b < a then b else a)))
  | _, _ => none
theorem XW_mnx {F : Nat → Option AEnt} {ev : Opd → AVal} {h : Heap} {K : AVal → Heap → Prop} {mx : Bool} {x y : Opd} : XW F (.mnx mx x y) ev h K ↔ bindK (mnxA mx (ev x) (ev y)) K h := by
  refine XW_val (fun _ => rfl) ?_
  simp only [evalA, mnxA]
  cases ev x <;> cases ev y <;> rfl
theorem mnx_min (k k' : IntKind) (a b : Int) : mnxA false (.int k a) (.int k' b) = some (.int k (if b < a then b else a)) := _root_.id rfl
end Go.Abs
namespace Go.Proofs.Ytcammfdljiingaa
open Go Go.Abs

def minF (m : Int) (l : List Int) : Int := l.foldl (fun m x => if x < m then x else m) m
theorem minF_lt (c : Int) : ∀ (l : List Int) (m : Int), minF m l < c ↔ m < c ∨ ∃ x ∈ l, x < c
  | [], m => by simp [minF]
  | x :: l, m => by
    have := minF_lt c l (if x < m then x else m)
    simp only [minF, List.foldl_cons] at this ⊢
    rw [this]
    constructor
    · rintro (h | ⟨y, h1, h2⟩)
      · split at h
        · exact .inr ⟨x, by simp, h⟩
        · exact .inl h
      · exact .inr ⟨y, by simp [h1], h2⟩
    · rintro (h | ⟨y, h1, h2⟩)
      · left; split <;> omega
      · rcases List.mem_cons.1 h1 with rfl | h1
        · left; split <;> omega
        · exact .inr ⟨y, h1, h2⟩

theorem min_v {l : List Int} {t : Tok} (h1 : 1 ≤ l.length) (h2 : l.length ≤ 100000) : PV F 45 [.sl (l.map (.int .i64)) t] = some (.int .i64 (minF (nth l 0) (l.drop 1))) := by
  refine PV_wp (fn := c45) rfl ?_
  dsimp only [c45]
  try simp (maxSteps := 4000000) (disch := first | assumption | omega | (simp only [push_next, put_next, empty_next, List.length_cons, List.length_nil] <;> omega) | exact _root_.id rfl | exact _root_.id (fun _ => rfl) | fail) only [↓pre, post, Int.reduceEq, Int.reduceLT, Int.reduceLE, Int.reduceAdd, Int.reduceSub, Int.reduceMul, Int.reduceNeg, Nat.reduceLT, Nat.reduceSub, Nat.reduceMul, Nat.reduceAdd, Nat.reduceLeDiff, reduceIte, reduceCtorEq, Nat.reduceEqDiff, ↓XW_mnx, mnx_min]
  repeat' (first
    | (refine ifP_pos (by first | assumption | omega) ?_ <;> try simp (maxSteps := 4000000) (disch := first | assumption | omega | (simp only [push_next, put_next, empty_next, List.length_cons, List.length_nil] <;> omega) | exact _root_.id rfl | exact _root_.id (fun _ => rfl) | fail) only [↓pre, post, Int.reduceEq, Int.reduceLT, Int.reduceLE, Int.reduceAdd, Int.reduceSub, Int.reduceMul, Int.reduceNeg, Nat.reduceLT, Nat.reduceSub, Nat.reduceMul, Nat.reduceAdd, Nat.reduceLeDiff, reduceIte, reduceCtorEq, Nat.reduceEqDiff, ↓XW_mnx, mnx_min])
    | (refine ifP_neg (by first | assumption | omega) ?_ <;> try simp (maxSteps := 4000000) (disch := first | assumption | omega | (simp only [push_next, put_next, empty_next, List.length_cons, List.length_nil] <;> omega) | exact _root_.id rfl | exact _root_.id (fun _ => rfl) | fail) only [↓pre, post, Int.reduceEq, Int.reduceLT, Int.reduceLE, Int.reduceAdd, Int.reduceSub, Int.reduceMul, Int.reduceNeg, Nat.reduceLT, Nat.reduceSub, Nat.reduceMul, Nat.reduceAdd, Nat.reduceLeDiff, reduceIte, reduceCtorEq, Nat.reduceEqDiff, ↓XW_mnx, mnx_min])
    | (refine ifP_intro (fun hyp => ?_) (fun hyp => ?_) <;> first | simp (maxSteps := 4000000) (disch := first | assumption | omega | (simp only [push_next, put_next, empty_next, List.length_cons, List.length_nil] <;> omega) | exact _root_.id rfl | exact _root_.id (fun _ => rfl) | fail) only [↓pre, post, Int.reduceEq, Int.reduceLT, Int.reduceLE, Int.reduceAdd, Int.reduceSub, Int.reduceMul, Int.reduceNeg, Nat.reduceLT, Nat.reduceSub, Nat.reduceMul, Nat.reduceAdd, Nat.reduceLeDiff, reduceIte, reduceCtorEq, Nat.reduceEqDiff, ↓XW_mnx, mnx_min, eq_false hyp] | simp (maxSteps := 4000000) (disch := first | assumption | omega | (simp only [push_next, put_next, empty_next, List.length_cons, List.length_nil] <;> omega) | exact _root_.id rfl | exact _root_.id (fun _ => rfl) | fail) only [↓pre, post, Int.reduceEq, Int.reduceLT, Int.reduceLE, Int.reduceAdd, Int.reduceSub, Int.reduceMul, Int.reduceNeg, Nat.reduceLT, Nat.reduceSub, Nat.reduceMul, Nat.reduceAdd, Nat.reduceLeDiff, reduceIte, reduceCtorEq, Nat.reduceEqDiff, ↓XW_mnx, mnx_min, eq_true hyp] | skip))
  refine w_loop (fun m vs h0 => ∃ (i : Nat) (s : Int) (x4 x5 : AVal), m = l.length - i ∧ 1 ≤ i ∧ i ≤ l.length ∧ minF (nth l 0) (l.drop 1) = minF s (l.drop i) ∧
    vs = [.sl (l.map (.int .i64)) t, .int .i64 0, .int .i64 s, .int .i64 i, x4, x5]) (l.length - 1)
    ⟨1, _, _, _, by omega, by omega, by omega, rfl, rfl⟩ ?_
  rintro m vs h0 ⟨i, s, x4, x5, rfl, hi1, hi, hm, rfl⟩
  try simp (maxSteps := 4000000) (disch := first | assumption | omega | (simp only [push_next, put_next, empty_next, List.length_cons, List.length_nil] <;> omega) | exact _root_.id rfl | exact _root_.id (fun _ => rfl) | fail) only [↓pre, post, Int.reduceEq, Int.reduceLT, Int.reduceLE, Int.reduceAdd, Int.reduceSub, Int.reduceMul, Int.reduceNeg, Nat.reduceLT, Nat.reduceSub, Nat.reduceMul, Nat.reduceAdd, Nat.reduceLeDiff, reduceIte, reduceCtorEq, Nat.reduceEqDiff, ↓XW_mnx, mnx_min]
  repeat' (first
    | (refine ifP_pos (by first | assumption | omega) ?_ <;> try simp (maxSteps := 4000000) (disch := first | assumption | omega | (simp only [push_next, put_next, empty_next, List.length_cons, List.length_nil] <;> omega) | exact _root_.id rfl | exact _root_.id (fun _ => rfl) | fail) only [↓pre, post, Int.reduceEq, Int.reduceLT, Int.reduceLE, Int.reduceAdd, Int.reduceSub, Int.reduceMul, Int.reduceNeg, Nat.reduceLT, Nat.reduceSub, Nat.reduceMul, Nat.reduceAdd, Nat.reduceLeDiff, reduceIte, reduceCtorEq, Nat.reduceEqDiff, ↓XW_mnx, mnx_min])
    | (refine ifP_neg (by first | assumption | omega) ?_ <;> try simp (maxSteps := 4000000) (disch := first | assumption | omega | (simp only [push_next, put_next, empty_next, List.length_cons, List.length_nil] <;> omega) | exact _root_.id rfl | exact _root_.id (fun _ => rfl) | fail) only [↓pre, post, Int.reduceEq, Int.reduceLT, Int.reduceLE, Int.reduceAdd, Int.reduceSub, Int.reduceMul, Int.reduceNeg, Nat.reduceLT, Nat.reduceSub, Nat.reduceMul, Nat.reduceAdd, Nat.reduceLeDiff, reduceIte, reduceCtorEq, Nat.reduceEqDiff, ↓XW_mnx, mnx_min])
    | (refine ifP_intro (fun hyp => ?_) (fun hyp => ?_) <;> first | simp (maxSteps := 4000000) (disch := first | assumption | omega | (simp only [push_next, put_next, empty_next, List.length_cons, List.length_nil] <;> omega) | exact _root_.id rfl | exact _root_.id (fun _ => rfl) | fail) only [↓pre, post, Int.reduceEq, Int.reduceLT, Int.reduceLE, Int.reduceAdd, Int.reduceSub, Int.reduceMul, Int.reduceNeg, Nat.reduceLT, Nat.reduceSub, Nat.reduceMul, Nat.reduceAdd, Nat.reduceLeDiff, reduceIte, reduceCtorEq, Nat.reduceEqDiff, ↓XW_mnx, mnx_min, eq_false hyp] | simp (maxSteps := 4000000) (disch := first | assumption | omega | (simp only [push_next, put_next, empty_next, List.length_cons, List.length_nil] <;> omega) | exact _root_.id rfl | exact _root_.id (fun _ => rfl) | fail) only [↓pre, post, Int.reduceEq, Int.reduceLT, Int.reduceLE, Int.reduceAdd, Int.reduceSub, Int.reduceMul, Int.reduceNeg, Nat.reduceLT, Nat.reduceSub, Nat.reduceMul, Nat.reduceAdd, Nat.reduceLeDiff, reduceIte, reduceCtorEq, Nat.reduceEqDiff, ↓XW_mnx, mnx_min, eq_true hyp] | skip))
  · have hlt : i < l.length := by omega
    exact lp_n ⟨l.length - (i + 1), by omega, i + 1, _, _, _, rfl, by omega, by omega, by rw [hm, List.drop_eq_getElem_cons hlt, ← nth_eq hlt]; rfl, rfl⟩
  · rw [hm, List.drop_eq_nil_of_le (by omega)]; rfl

/-- What the reference model sums up. -/
theorem costR_fits {l : List Item} {w : Int} {p : Nat} {x : Ln} (hv : valid l) (hw : widthOk w) (hp : p < l.length) : fits l w p x ↔ 0 ≤ costR l w x.a x.b ∧ x.a = skip l p ∧ x.n = natS l x.a.toNat x.b.toNat := by
  constructor
  · rintro ⟨h1, h2, h3, h4, h5⟩
    have ha : x.a.toNat = skip l p := by omega
    refine ⟨?_, h2, by rw [ha]; exact h5⟩
    rw [costR, if_pos ⟨⟨hw, hv⟩, by omega, h3, by rw [ha]; exact h4⟩, ha]
    exact (cost_bound hv hw h4).1
  · rintro ⟨h1, h2, h3⟩
    have ha : x.a.toNat = skip l p := by omega
    unfold costR at h1
    split at h1
    · rename_i hc
      exact ⟨hp, h2, hc.2.2.1, by rw [← ha]; exact hc.2.2.2, by rw [← ha]; exact h3⟩
    · omega

theorem refSum_v {l : List Item} {t t2 : Tok} {w : Int} {ls : List Ln} (ht : Pt t) (ht2 : Pt t2) (hv : valid l) (hw : widthOk w) (hls : ls.length ≤ 100000) (hi : ∀ x ∈ ls, i64 x.b) :
    PV F 48 [.sl (items l) t, .int .i64 w, .sl (ls.map Ln.toA) t2] = some (match sumF l w 0 0 ls with | some (p, s) => .tup [.int .i64 s, .bool (decide (p = l.length))] | none => .tup [.int .i64 0, .bool false]) := by
  have hl := hv.2.1
  have hl1 := hv.1
  refine PV_wp (fn := c48) rfl ?_
  dsimp only [c48]
  try simp (maxSteps := 4000000) (disch := first | assumption | omega | (simp only [push_next, put_next, empty_next, List.length_cons, List.length_nil] <;> omega) | exact _root_.id rfl | exact _root_.id (fun _ => rfl) | fail) only [↓pre, post, Int.reduceEq, Int.reduceLT, Int.reduceLE, Int.reduceAdd, Int.reduceSub, Int.reduceMul, Int.reduceNeg, Nat.reduceLT, Nat.reduceSub, Nat.reduceMul, Nat.reduceAdd, Nat.reduceLeDiff, reduceIte, reduceCtorEq, Nat.reduceEqDiff]
  repeat' (first
    | (refine ifP_pos (by first | assumption | omega) ?_ <;> try simp (maxSteps := 4000000) (disch := first | assumption | omega | (simp only [push_next, put_next, empty_next, List.length_cons, List.length_nil] <;> omega) | exact _root_.id rfl | exact _root_.id (fun _ => rfl) | fail) only [↓pre, post, Int.reduceEq, Int.reduceLT, Int.reduceLE, Int.reduceAdd, Int.reduceSub, Int.reduceMul, Int.reduceNeg, Nat.reduceLT, Nat.reduceSub, Nat.reduceMul, Nat.reduceAdd, Nat.reduceLeDiff, reduceIte, reduceCtorEq, Nat.reduceEqDiff])
    | (refine ifP_neg (by first | assumption | omega) ?_ <;> try simp (maxSteps := 4000000) (disch := first | assumption | omega | (simp only [push_next, put_next, empty_next, List.length_cons, List.length_nil] <;> omega) | exact _root_.id rfl | exact _root_.id (fun _ => rfl) | fail) only [↓pre, post, Int.reduceEq, Int.reduceLT, Int.reduceLE, Int.reduceAdd, Int.reduceSub, Int.reduceMul, Int.reduceNeg, Nat.reduceLT, Nat.reduceSub, Nat.reduceMul, Nat.reduceAdd, Nat.reduceLeDiff, reduceIte, reduceCtorEq, Nat.reduceEqDiff])
    | (refine ifP_intro (fun hyp => ?_) (fun hyp => ?_) <;> first | simp (maxSteps := 4000000) (disch := first | assumption | omega | (simp only [push_next, put_next, empty_next, List.length_cons, List.length_nil] <;> omega) | exact _root_.id rfl | exact _root_.id (fun _ => rfl) | fail) only [↓pre, post, Int.reduceEq, Int.reduceLT, Int.reduceLE, Int.reduceAdd, Int.reduceSub, Int.reduceMul, Int.reduceNeg, Nat.reduceLT, Nat.reduceSub, Nat.reduceMul, Nat.reduceAdd, Nat.reduceLeDiff, reduceIte, reduceCtorEq, Nat.reduceEqDiff, eq_false hyp] | simp (maxSteps := 4000000) (disch := first | assumption | omega | (simp only [push_next, put_next, empty_next, List.length_cons, List.length_nil] <;> omega) | exact _root_.id rfl | exact _root_.id (fun _ => rfl) | fail) only [↓pre, post, Int.reduceEq, Int.reduceLT, Int.reduceLE, Int.reduceAdd, Int.reduceSub, Int.reduceMul, Int.reduceNeg, Nat.reduceLT, Nat.reduceSub, Nat.reduceMul, Nat.reduceAdd, Nat.reduceLeDiff, reduceIte, reduceCtorEq, Nat.reduceEqDiff, eq_true hyp] | skip))
  refine w_loop (fun m vs h0 => ∃ (i p : Nat) (s z : Int) (x8 x9 x10 x11 : AVal), m = ls.length - i ∧ i ≤ ls.length ∧ p ≤ l.length ∧ (p = 0 ∨ (nth l (p - 1)).kind ≠ 0) ∧ 0 ≤ s ∧ s ≤ p * 5000000000 ∧ z = (p : Int) - 1 ∧ sumF l w 0 0 ls = sumF l w p s (ls.drop i) ∧
    vs = [.sl (items l) t, .int .i64 w, .sl (ls.map Ln.toA) t2, .int .i64 0, .bool false, .int .i64 s, .int .i64 z, .int .i64 i, x8, x9, x10, x11]) ls.length
    ⟨0, 0, 0, -1, _, _, _, _, rfl, by omega, by omega, .inl rfl, by omega, by omega, by omega, rfl, rfl⟩ ?_
  rintro m vs h0 ⟨i, p, s, z, x8, x9, x10, x11, rfl, hil, hp, hpk, hs0, hs1, hz, hsum, rfl⟩
  have hst : p ≤ l.length → PV F 29 [.sl (items l) t, .int .i64 z] = some (.int .i64 (skip l p)) := fun h => refStart_v p hz (by omega) (by omega)
  have hdrop : i < ls.length → ls.drop i = nth ls i :: ls.drop (i + 1) := fun h => by rw [List.drop_eq_getElem_cons h, nth_eq h]
  have hno : i < ls.length → ¬ fits l w p (nth ls i) → sumF l w 0 0 ls = none := fun h hf => by rw [hsum, hdrop h, sumF, if_neg hf]
  have hrc : ∀ a b, PV F 28 [.sl (items l) t, .int .i64 a, .int .i64 b, .int .i64 w] = some (.int .i64 (costR l w a b)) := fun a b => refCost_v ht (by omega)
  have hcc : 0 ≤ costR l w (nth ls i).a (nth ls i).b → 0 ≤ (nth ls i).a ∧ (nth ls i).a < (nth ls i).b ∧ (nth ls i).b ≤ l.length ∧ costR l w (nth ls i).a (nth ls i).b ≤ 5000000000 ∧ (nth l ((nth ls i).b.toNat - 1)).kind ≠ 0 ∧ lineOk l w (nth ls i).a.toNat (nth ls i).b.toNat := fun h => by
    unfold costR at h ⊢
    split at h
    · rename_i hc
      rw [if_pos hc]
      have h1 := hc.2.2.2.1
      have h2 := hc.2.2.2.2.1
      exact ⟨hc.2.1, by omega, by omega, (cost_bound hv hw hc.2.2.2).2, hc.2.2.2.2.2.2.1, hc.2.2.2⟩
    · omega
  have hnat : 0 ≤ costR l w (nth ls i).a (nth ls i).b → PV F 31 [.sl (items l) t, .int .i64 (nth ls i).a, .int .i64 (nth ls i).b] = some (.int .i64 (natS l (nth ls i).a.toNat (nth ls i).b.toNat)) := fun h => natural_i hv (hcc h).1 (hcc h).2.1 (hcc h).2.2.1
  try simp (maxSteps := 4000000) (disch := first | assumption | omega | (simp only [push_next, put_next, empty_next, List.length_cons, List.length_nil] <;> omega) | exact _root_.id rfl | exact _root_.id (fun _ => rfl) | fail) only [↓pre, post, Int.reduceEq, Int.reduceLT, Int.reduceLE, Int.reduceAdd, Int.reduceSub, Int.reduceMul, Int.reduceNeg, Nat.reduceLT, Nat.reduceSub, Nat.reduceMul, Nat.reduceAdd, Nat.reduceLeDiff, reduceIte, reduceCtorEq, Nat.reduceEqDiff, hst, Ln.toA, hrc, hnat]
  repeat' (first
    | (refine ifP_pos (by first | assumption | omega) ?_ <;> try simp (maxSteps := 4000000) (disch := first | assumption | omega | (simp only [push_next, put_next, empty_next, List.length_cons, List.length_nil] <;> omega) | exact _root_.id rfl | exact _root_.id (fun _ => rfl) | fail) only [↓pre, post, Int.reduceEq, Int.reduceLT, Int.reduceLE, Int.reduceAdd, Int.reduceSub, Int.reduceMul, Int.reduceNeg, Nat.reduceLT, Nat.reduceSub, Nat.reduceMul, Nat.reduceAdd, Nat.reduceLeDiff, reduceIte, reduceCtorEq, Nat.reduceEqDiff, hst, Ln.toA, hrc, hnat])
    | (refine ifP_neg (by first | assumption | omega) ?_ <;> try simp (maxSteps := 4000000) (disch := first | assumption | omega | (simp only [push_next, put_next, empty_next, List.length_cons, List.length_nil] <;> omega) | exact _root_.id rfl | exact _root_.id (fun _ => rfl) | fail) only [↓pre, post, Int.reduceEq, Int.reduceLT, Int.reduceLE, Int.reduceAdd, Int.reduceSub, Int.reduceMul, Int.reduceNeg, Nat.reduceLT, Nat.reduceSub, Nat.reduceMul, Nat.reduceAdd, Nat.reduceLeDiff, reduceIte, reduceCtorEq, Nat.reduceEqDiff, hst, Ln.toA, hrc, hnat])
    | (refine ifP_intro (fun hyp => ?_) (fun hyp => ?_) <;> first | simp (maxSteps := 4000000) (disch := first | assumption | omega | (simp only [push_next, put_next, empty_next, List.length_cons, List.length_nil] <;> omega) | exact _root_.id rfl | exact _root_.id (fun _ => rfl) | fail) only [↓pre, post, Int.reduceEq, Int.reduceLT, Int.reduceLE, Int.reduceAdd, Int.reduceSub, Int.reduceMul, Int.reduceNeg, Nat.reduceLT, Nat.reduceSub, Nat.reduceMul, Nat.reduceAdd, Nat.reduceLeDiff, reduceIte, reduceCtorEq, Nat.reduceEqDiff, hst, Ln.toA, hrc, hnat, eq_false hyp] | simp (maxSteps := 4000000) (disch := first | assumption | omega | (simp only [push_next, put_next, empty_next, List.length_cons, List.length_nil] <;> omega) | exact _root_.id rfl | exact _root_.id (fun _ => rfl) | fail) only [↓pre, post, Int.reduceEq, Int.reduceLT, Int.reduceLE, Int.reduceAdd, Int.reduceSub, Int.reduceMul, Int.reduceNeg, Nat.reduceLT, Nat.reduceSub, Nat.reduceMul, Nat.reduceAdd, Nat.reduceLeDiff, reduceIte, reduceCtorEq, Nat.reduceEqDiff, hst, Ln.toA, hrc, hnat, eq_true hyp] | skip))
  · rw [hno (by omega) (fun hf => by have := ((costR_fits hv hw hf.1).1 hf).1; omega)]
  · rw [hno (by omega) (fun hf => by have := hf.1; omega)]
  · have hf : fits l w p (nth ls i) := (costR_fits hv hw (by omega)).2 ⟨by omega, by assumption, hyp⟩
    have hce : costR l w (nth ls i).a (nth ls i).b = costN l w (skip l p) (nth ls i).b.toNat := by
      have ha : (nth ls i).a.toNat = skip l p := by omega
      rw [costR, if_pos ⟨⟨hw, hv⟩, by omega, hf.2.2.1, by rw [ha]; exact hf.2.2.2.1⟩, ha]
    have hcb := cost_bound hv hw hf.2.2.2.1
    have hb1 := hf.2.2.2.1.1
    have hb2 := hf.2.2.2.1.2.1
    have hge := skip_ge (l := l) (p := p)
    exact lp_n ⟨ls.length - (i + 1), by omega, i + 1, (nth ls i).b.toNat, _, _, _, _, _, _, rfl, by omega, by omega, .inr hf.2.2.2.1.2.2.2.1, by omega, by omega, by have := hf.2.2.1; omega, by rw [hsum, hdrop (by omega), sumF, if_pos hf, hce], rfl⟩
  · rw [hno (by omega) (fun hf => hyp ((costR_fits hv hw hf.1).1 hf).2.2)]
  · rw [hno (by omega) (fun hf => hyp hf.2.1)]
  · rw [hsum, List.drop_eq_nil_of_le (by omega), sumF]
    have : (z = (l.length : Int) - 1) ↔ p = l.length := by omega
    simp only [this]

/-! ### Check -/
def valP (duals : List Int) (p : Nat) : Int := if p = 0 then 0 else nth duals (p - 1)
def badLine (duals : List Int) (v : Int) (x : Nat × Int × Int) : Prop := nth duals (x.1 - 1) < 0 ∨ x.2.2 < nth duals (x.1 - 1) - v
instance (duals : List Int) (v : Int) (x : Nat × Int × Int) : Decidable (badLine duals v x) := by unfold badLine; infer_instance
/-- A line that costs less than the duals say. -/
def dualBad (l : List Item) (w : Int) (duals : List Int) : Prop := ∃ p, p < l.length ∧ 0 ≤ valP duals p ∧ (p = 0 ∨ (nth l (p - 1)).kind ≠ 0) ∧ ∃ x ∈ linesAt l w p, badLine duals (valP duals p) x

def chk (duals : List Int) (r : Bool) (v : Int) (x : Nat × Int × Int) : Bool := if badLine duals v x then false else r

theorem chk_fold (duals : List Int) (v : Int) : ∀ (xs : List (Nat × Int × Int)) (r : Bool), xs.foldl (fun s x => chk duals s v x) r = true ↔ r = true ∧ ∀ x ∈ xs, ¬ badLine duals v x
  | [], r => by simp
  | x :: xs, r => by
    rw [List.foldl_cons, chk_fold duals v xs]
    unfold chk
    by_cases h : badLine duals v x
    · simp [h]
    · simp [h]

theorem round_fold (l : List Item) (w : Int) (duals : List Int) : ∀ (ps : List Nat) (r : Bool), ps.foldl (roundS l w (fun (_ : Bool) k => nth duals k) (chk duals)) r = true ↔ r = true ∧ ∀ p ∈ ps, 0 ≤ valP duals p → (p = 0 ∨ (nth l (p - 1)).kind ≠ 0) → ∀ x ∈ linesAt l w p, ¬ badLine duals (valP duals p) x
  | [], r => by simp
  | p :: ps, r => by
    rw [List.foldl_cons, round_fold l w duals ps]
    have e : roundS l w (fun (_ : Bool) k => nth duals k) (chk duals) r p = true ↔ r = true ∧ (0 ≤ valP duals p → (p = 0 ∨ (nth l (p - 1)).kind ≠ 0) → ∀ x ∈ linesAt l w p, ¬ badLine duals (valP duals p) x) := by
      unfold roundS
      simp only
      rw [show (if p = 0 then (0 : Int) else nth duals (p - 1)) = valP duals p from rfl]
      split
      · rename_i hc
        rw [chk_fold]
        constructor
        · rintro ⟨h1, h2⟩; exact ⟨h1, fun _ _ => h2⟩
        · rintro ⟨h1, h2⟩; exact ⟨h1, h2 hc.1 hc.2⟩
      · rename_i hc
        constructor
        · intro h; exact ⟨h, fun h1 h2 => (hc ⟨h1, h2⟩).elim⟩
        · rintro ⟨h, _⟩; exact h
    rw [e]
    constructor
    · rintro ⟨⟨h1, h2⟩, h3⟩
      refine ⟨h1, fun q hq => ?_⟩
      rcases List.mem_cons.1 hq with rfl | hq
      · exact h2
      · exact h3 q hq
    · rintro ⟨h1, h2⟩
      exact ⟨⟨h1, h2 p (by simp)⟩, fun q hq => h2 q (by simp [hq])⟩

theorem check1_c {k : Nat} {d : List Int} {t : Tok} {h : Heap} (h0 : h.get 0 = some (.row true 0 false [.sl (d.map (.int .i64)) t])) (hk : k < d.length) : CV F 46 ([.int .i64 (k : Int)] ++ [.ptr 0 0]) h (fun r h2 => r = .int .i64 (nth d k) ∧ h2 = h) := by
  refine CV_wp (fn := c46) rfl ?_
  dsimp only [c46]
  try simp (maxSteps := 4000000) (disch := first | assumption | omega | (simp only [push_next, put_next, empty_next, List.length_cons, List.length_nil] <;> omega) | exact _root_.id rfl | exact _root_.id (fun _ => rfl) | fail) only [↓pre, post, Int.reduceEq, Int.reduceLT, Int.reduceLE, Int.reduceAdd, Int.reduceSub, Int.reduceMul, Int.reduceNeg, Nat.reduceLT, Nat.reduceSub, Nat.reduceMul, Nat.reduceAdd, Nat.reduceLeDiff, reduceIte, reduceCtorEq, Nat.reduceEqDiff, h0]
  repeat' (first
    | (refine ifP_pos (by first | assumption | omega) ?_ <;> try simp (maxSteps := 4000000) (disch := first | assumption | omega | (simp only [push_next, put_next, empty_next, List.length_cons, List.length_nil] <;> omega) | exact _root_.id rfl | exact _root_.id (fun _ => rfl) | fail) only [↓pre, post, Int.reduceEq, Int.reduceLT, Int.reduceLE, Int.reduceAdd, Int.reduceSub, Int.reduceMul, Int.reduceNeg, Nat.reduceLT, Nat.reduceSub, Nat.reduceMul, Nat.reduceAdd, Nat.reduceLeDiff, reduceIte, reduceCtorEq, Nat.reduceEqDiff, h0])
    | (refine ifP_neg (by first | assumption | omega) ?_ <;> try simp (maxSteps := 4000000) (disch := first | assumption | omega | (simp only [push_next, put_next, empty_next, List.length_cons, List.length_nil] <;> omega) | exact _root_.id rfl | exact _root_.id (fun _ => rfl) | fail) only [↓pre, post, Int.reduceEq, Int.reduceLT, Int.reduceLE, Int.reduceAdd, Int.reduceSub, Int.reduceMul, Int.reduceNeg, Nat.reduceLT, Nat.reduceSub, Nat.reduceMul, Nat.reduceAdd, Nat.reduceLeDiff, reduceIte, reduceCtorEq, Nat.reduceEqDiff, h0])
    | (refine ifP_intro (fun hyp => ?_) (fun hyp => ?_) <;> first | simp (maxSteps := 4000000) (disch := first | assumption | omega | (simp only [push_next, put_next, empty_next, List.length_cons, List.length_nil] <;> omega) | exact _root_.id rfl | exact _root_.id (fun _ => rfl) | fail) only [↓pre, post, Int.reduceEq, Int.reduceLT, Int.reduceLE, Int.reduceAdd, Int.reduceSub, Int.reduceMul, Int.reduceNeg, Nat.reduceLT, Nat.reduceSub, Nat.reduceMul, Nat.reduceAdd, Nat.reduceLeDiff, reduceIte, reduceCtorEq, Nat.reduceEqDiff, h0, eq_false hyp] | simp (maxSteps := 4000000) (disch := first | assumption | omega | (simp only [push_next, put_next, empty_next, List.length_cons, List.length_nil] <;> omega) | exact _root_.id rfl | exact _root_.id (fun _ => rfl) | fail) only [↓pre, post, Int.reduceEq, Int.reduceLT, Int.reduceLE, Int.reduceAdd, Int.reduceSub, Int.reduceMul, Int.reduceNeg, Nat.reduceLT, Nat.reduceSub, Nat.reduceMul, Nat.reduceAdd, Nat.reduceLeDiff, reduceIte, reduceCtorEq, Nat.reduceEqDiff, h0, eq_true hyp] | skip))

theorem check2_c {a : Nat} {v : Int} {x : Nat × Int × Int} {d : List Int} {t : Tok} {r : Bool} {h : Heap} (h0 : h.get 0 = some (.row true 0 false [.sl (d.map (.int .i64)) t])) (hr : h.get 1 = some (.row true (typed 4) false [.bool r])) (h1 : 1 ≤ x.1) (h2 : x.1 ≤ d.length) (hd : d.length ≤ 100000) (hv : 0 ≤ v) (hv2 : i64 v) (hi : i64 (nth d (x.1 - 1))) :
    CV F 47 ([lineA a x, .int .i64 v, .int .i64 x.2.2] ++ [.ptr 0 0, .ptr 1 0]) h (fun _ h2 => h2.get 0 = some (.row true 0 false [.sl (d.map (.int .i64)) t]) ∧ h2.get 1 = some (.row true (typed 4) false [.bool (chk d r v x)]) ∧ Fr (· = 1) h h2) := by
  have hn0 := get_lt h0
  have hn1 := get_lt hr
  obtain ⟨v1, v2⟩ := hv2
  obtain ⟨d1, d2⟩ := hi
  have hr' : ∀ o, (h.put 1 o).get 1 = o := fun o => get_put_old hr
  refine CV_wp (fn := c47) rfl ?_
  dsimp only [c47, lineA]
  try simp (maxSteps := 4000000) (disch := first | assumption | omega | (simp only [push_next, put_next, empty_next, List.length_cons, List.length_nil] <;> omega) | exact _root_.id rfl | exact _root_.id (fun _ => rfl) | fail) only [↓pre, post, Int.reduceEq, Int.reduceLT, Int.reduceLE, Int.reduceAdd, Int.reduceSub, Int.reduceMul, Int.reduceNeg, Nat.reduceLT, Nat.reduceSub, Nat.reduceMul, Nat.reduceAdd, Nat.reduceLeDiff, reduceIte, reduceCtorEq, Nat.reduceEqDiff, h0, hr, hr']
  repeat' (first
    | (refine ifP_pos (by first | assumption | omega) ?_ <;> try simp (maxSteps := 4000000) (disch := first | assumption | omega | (simp only [push_next, put_next, empty_next, List.length_cons, List.length_nil] <;> omega) | exact _root_.id rfl | exact _root_.id (fun _ => rfl) | fail) only [↓pre, post, Int.reduceEq, Int.reduceLT, Int.reduceLE, Int.reduceAdd, Int.reduceSub, Int.reduceMul, Int.reduceNeg, Nat.reduceLT, Nat.reduceSub, Nat.reduceMul, Nat.reduceAdd, Nat.reduceLeDiff, reduceIte, reduceCtorEq, Nat.reduceEqDiff, h0, hr, hr'])
    | (refine ifP_neg (by first | assumption | omega) ?_ <;> try simp (maxSteps := 4000000) (disch := first | assumption | omega | (simp only [push_next, put_next, empty_next, List.length_cons, List.length_nil] <;> omega) | exact _root_.id rfl | exact _root_.id (fun _ => rfl) | fail) only [↓pre, post, Int.reduceEq, Int.reduceLT, Int.reduceLE, Int.reduceAdd, Int.reduceSub, Int.reduceMul, Int.reduceNeg, Nat.reduceLT, Nat.reduceSub, Nat.reduceMul, Nat.reduceAdd, Nat.reduceLeDiff, reduceIte, reduceCtorEq, Nat.reduceEqDiff, h0, hr, hr'])
    | (refine ifP_intro (fun hyp => ?_) (fun hyp => ?_) <;> first | simp (maxSteps := 4000000) (disch := first | assumption | omega | (simp only [push_next, put_next, empty_next, List.length_cons, List.length_nil] <;> omega) | exact _root_.id rfl | exact _root_.id (fun _ => rfl) | fail) only [↓pre, post, Int.reduceEq, Int.reduceLT, Int.reduceLE, Int.reduceAdd, Int.reduceSub, Int.reduceMul, Int.reduceNeg, Nat.reduceLT, Nat.reduceSub, Nat.reduceMul, Nat.reduceAdd, Nat.reduceLeDiff, reduceIte, reduceCtorEq, Nat.reduceEqDiff, h0, hr, hr', eq_false hyp] | simp (maxSteps := 4000000) (disch := first | assumption | omega | (simp only [push_next, put_next, empty_next, List.length_cons, List.length_nil] <;> omega) | exact _root_.id rfl | exact _root_.id (fun _ => rfl) | fail) only [↓pre, post, Int.reduceEq, Int.reduceLT, Int.reduceLE, Int.reduceAdd, Int.reduceSub, Int.reduceMul, Int.reduceNeg, Nat.reduceLT, Nat.reduceSub, Nat.reduceMul, Nat.reduceAdd, Nat.reduceLeDiff, reduceIte, reduceCtorEq, Nat.reduceEqDiff, h0, hr, hr', eq_true hyp] | skip))
  · rw [chk, if_pos (.inl hyp)]
    exact ⟨rfl, (Fr.put (S := (· = 1)) (Fr.refl _ _) (.inl rfl) _).push _⟩
  · rw [chk, if_pos (.inr hyp)]
    exact ⟨rfl, (Fr.put (S := (· = 1)) (Fr.refl _ _) (.inl rfl) _).push _⟩
  · rw [chk, if_neg (by unfold badLine; omega)]
    exact ⟨rfl, (Fr.refl _ _).push _⟩

/-- What Check answers. -/
def checkS (l : List Item) (w : Int) (ls : List Ln) (d : List Int) : Prop :=
  (∃ s, sumF l w 0 0 ls = some (l.length, s) ∧ d.length = l.length ∧ nth d (l.length - 1) = s) ∧ (∀ x ∈ d, ¬ x < -1) ∧ ¬ dualBad l w d

theorem sumF_inv {l : List Item} {w : Int} (hv : valid l) (hw : widthOk w) : ∀ (xs : List Ln) {p : Nat} {s : Int} {q : Nat} {t : Int}, sumF l w p s xs = some (q, t) → p ≤ l.length → 0 ≤ s → q ≤ l.length ∧ 0 ≤ t
  | [], p, s, q, t, e, hp, hs => by simp only [sumF, Option.some.injEq, Prod.mk.injEq] at e; obtain ⟨rfl, rfl⟩ := e; exact ⟨hp, hs⟩
  | x :: xs, p, s, q, t, e, hp, hs => by
    unfold sumF at e
    split at e
    · rename_i hf
      have hcb := cost_bound hv hw hf.2.2.2.1
      exact sumF_inv hv hw xs e hf.2.2.2.1.2.1 (by omega)
    · simp at e

open Classical in
theorem check_v {l : List Item} {t t2 t3 : Tok} {w : Int} {ls : List Ln} {d : List Int} (ht : Pt t) (ht2 : Pt t2) (ht3 : Pt t3) (hl : l.length < 100000) (hls : ls.length ≤ 100000) (hi : ∀ x ∈ ls, i64 x.b) (hd : d.length ≤ 100000) (hdi : ∀ x ∈ d, i64 x) :
    PV F 20 [.sl (items l) t, .int .i64 w, .sl (ls.map Ln.toA) t2, .sl (d.map (.int .i64)) t3] = some (.int .i64 (if widthOk w ∧ valid l then (if checkS l w ls d then 0 else 24) else 1)) := by
  refine PV_wp (fn := c20) rfl ?_
  dsimp only [c20]
  by_cases hr : widthOk w ∧ valid l
  · have hv := hr.2
    have hw := hr.1
    have hsv := sum_v (t := t) (t2 := t2) ht ht2 hv hw hls hi
    rw [if_pos hr]
    have hl1 := hv.1
    have hmin := fun h => min_v (l := d) (t := t3) h hd
    obtain ⟨T, hT, hTs, hsv⟩ : ∃ T : Int, (0 ≤ T ↔ ∃ s, sumF l w 0 0 ls = some (l.length, s)) ∧ (∀ s, sumF l w 0 0 ls = some (l.length, s) → T = s) ∧ PV F 44 [.sl (items l) t, .int .i64 w, .sl (ls.map Ln.toA) t2] = some (.int .i64 T) := by
      refine ⟨_, ?_, ?_, hsv⟩
      · constructor
        · intro h0
          cases hs : sumF l w 0 0 ls with
          | none => rw [hs] at h0; simp only at h0; omega
          | some ps =>
            obtain ⟨p, s⟩ := ps
            have := sumF_inv hv hw ls hs (by omega) (by omega)
            rw [hs] at h0
            simp only at h0
            split at h0
            · omega
            · exact ⟨s, by rw [show p = l.length by omega]⟩
        · rintro ⟨s, hs⟩
          rw [hs]
          simp only [Nat.lt_irrefl, if_false]
          exact (sumF_inv hv hw ls hs (by omega) (by omega)).2
      · intro s hs
        rw [hs]
        simp only [Nat.lt_irrefl, if_false]
    have hmem : 1 ≤ d.length → (minF (nth d 0) (List.drop 1 d) < -1 ↔ ∃ x ∈ d, x < -1) := fun h => by
      rw [minF_lt]
      cases d with
      | nil => simp at h
      | cons y d => simp [nth]
    try simp (maxSteps := 4000000) (disch := first | assumption | omega | (simp only [push_next, put_next, empty_next, List.length_cons, List.length_nil] <;> omega) | exact _root_.id rfl | exact _root_.id (fun _ => rfl) | fail) only [↓pre, post, Int.reduceEq, Int.reduceLT, Int.reduceLE, Int.reduceAdd, Int.reduceSub, Int.reduceMul, Int.reduceNeg, Nat.reduceLT, Nat.reduceSub, Nat.reduceMul, Nat.reduceAdd, Nat.reduceLeDiff, reduceIte, reduceCtorEq, Nat.reduceEqDiff, ready_v, hsv, hmin, eq_true hr]
    repeat' (first
      | (refine ifP_pos (by first | assumption | omega) ?_ <;> try simp (maxSteps := 4000000) (disch := first | assumption | omega | (simp only [push_next, put_next, empty_next, List.length_cons, List.length_nil] <;> omega) | exact _root_.id rfl | exact _root_.id (fun _ => rfl) | fail) only [↓pre, post, Int.reduceEq, Int.reduceLT, Int.reduceLE, Int.reduceAdd, Int.reduceSub, Int.reduceMul, Int.reduceNeg, Nat.reduceLT, Nat.reduceSub, Nat.reduceMul, Nat.reduceAdd, Nat.reduceLeDiff, reduceIte, reduceCtorEq, Nat.reduceEqDiff, ready_v, hsv, hmin, eq_true hr])
      | (refine ifP_neg (by first | assumption | omega) ?_ <;> try simp (maxSteps := 4000000) (disch := first | assumption | omega | (simp only [push_next, put_next, empty_next, List.length_cons, List.length_nil] <;> omega) | exact _root_.id rfl | exact _root_.id (fun _ => rfl) | fail) only [↓pre, post, Int.reduceEq, Int.reduceLT, Int.reduceLE, Int.reduceAdd, Int.reduceSub, Int.reduceMul, Int.reduceNeg, Nat.reduceLT, Nat.reduceSub, Nat.reduceMul, Nat.reduceAdd, Nat.reduceLeDiff, reduceIte, reduceCtorEq, Nat.reduceEqDiff, ready_v, hsv, hmin, eq_true hr])
      | (refine ifP_intro (fun hyp => ?_) (fun hyp => ?_) <;> first | simp (maxSteps := 4000000) (disch := first | assumption | omega | (simp only [push_next, put_next, empty_next, List.length_cons, List.length_nil] <;> omega) | exact _root_.id rfl | exact _root_.id (fun _ => rfl) | fail) only [↓pre, post, Int.reduceEq, Int.reduceLT, Int.reduceLE, Int.reduceAdd, Int.reduceSub, Int.reduceMul, Int.reduceNeg, Nat.reduceLT, Nat.reduceSub, Nat.reduceMul, Nat.reduceAdd, Nat.reduceLeDiff, reduceIte, reduceCtorEq, Nat.reduceEqDiff, ready_v, hsv, hmin, eq_true hr, eq_false hyp] | simp (maxSteps := 4000000) (disch := first | assumption | omega | (simp only [push_next, put_next, empty_next, List.length_cons, List.length_nil] <;> omega) | exact _root_.id rfl | exact _root_.id (fun _ => rfl) | fail) only [↓pre, post, Int.reduceEq, Int.reduceLT, Int.reduceLE, Int.reduceAdd, Int.reduceSub, Int.reduceMul, Int.reduceNeg, Nat.reduceLT, Nat.reduceSub, Nat.reduceMul, Nat.reduceAdd, Nat.reduceLeDiff, reduceIte, reduceCtorEq, Nat.reduceEqDiff, ready_v, hsv, hmin, eq_true hr, eq_true hyp] | skip))
    · rw [if_neg]; rintro ⟨⟨s, e, _⟩, _⟩; have h0 := hT.2 ⟨s, e⟩; omega
    · rw [if_neg]; rintro ⟨_, h2, _⟩
      obtain ⟨x, h3, h4⟩ := (hmem (by omega)).1 hyp
      exact h2 x h3 h4
    · obtain ⟨s, hs1⟩ := hT.1 (by omega)
      have hs2 := hTs s hs1
      refine CV_mono (reach_c (S := fun j => j = 0 ∨ j = 1) ht hv hw ?_ (fun p v => v = valP d p) (fun _ k => nth d k) (chk d)
        (fun r h => h.get 0 = some (.row true 0 false [.sl (d.map (.int .i64)) t3]) ∧ h.get 1 = some (.row true (typed 4) false [.bool r])) ?_ rfl ?_ ?_ true ?_) ?_
      · rintro j (rfl | rfl)
        · exact Nat.lt_of_lt_of_le (by decide : 0 < 2) (Nat.le_refl 2)
        · exact Nat.lt_succ_self 1
      · rintro r h1 h2 he ⟨i1, i2⟩
        exact ⟨by rw [he 0 (.inl rfl)]; exact i1, by rw [he 1 (.inr rfl)]; exact i2⟩
      · rintro r k h1 hk ⟨i1, i2⟩ hF
        refine CV_mono (check1_c i1 (by omega)) ?_
        rintro r' h2 ⟨rfl, rfl⟩
        exact ⟨rfl, ⟨i1, i2⟩, Fr.refl _ _, by simp [valP]⟩
      · rintro r p v x h1 hp rfl h0 hx ⟨i1, i2⟩ hF
        obtain ⟨m1, m2, m3, m4, m5⟩ := mem_linesAt hx
        have hvi : i64 (valP d p) := by
          unfold valP
          split
          · unfold i64; omega
          · exact nth_i64 hdi _
        refine CV_mono (check2_c i1 i2 (by omega) (by omega) hd h0 hvi (nth_i64 hdi _)) ?_
        rintro r' h2 ⟨k1, k2, k3⟩
        exact ⟨⟨k1, k2⟩, k3.mono fun j _ hj => .inr hj⟩
      · exact ⟨get_push_old (get_push _ _), get_push_eq rfl⟩
      · rintro r h2 ⟨rfl, ⟨i1, i2⟩, hF⟩
        have hfold := round_fold l w d (List.range l.length) true
        have hbad : (List.range l.length).foldl (roundS l w (fun (_ : Bool) k => nth d k) (chk d)) true = true ↔ ¬ dualBad l w d := by
          rw [hfold]
          constructor
          · rintro ⟨_, h⟩ ⟨p, h1, h2, h3, x, h4, h5⟩
            exact h p (by rw [List.mem_range]; exact h1) h2 h3 x h4 h5
          · intro h
            refine ⟨rfl, fun p hp h2 h3 x h4 h5 => h ⟨p, List.mem_range.1 hp, h2, h3, x, h4, h5⟩⟩
        try simp (maxSteps := 4000000) (disch := first | assumption | omega | (simp only [push_next, put_next, empty_next, List.length_cons, List.length_nil] <;> omega) | exact _root_.id rfl | exact _root_.id (fun _ => rfl) | fail) only [↓pre, post, Int.reduceEq, Int.reduceLT, Int.reduceLE, Int.reduceAdd, Int.reduceSub, Int.reduceMul, Int.reduceNeg, Nat.reduceLT, Nat.reduceSub, Nat.reduceMul, Nat.reduceAdd, Nat.reduceLeDiff, reduceIte, reduceCtorEq, Nat.reduceEqDiff, i2]
        repeat' (first
          | (refine ifP_pos (by first | assumption | omega) ?_ <;> try simp (maxSteps := 4000000) (disch := first | assumption | omega | (simp only [push_next, put_next, empty_next, List.length_cons, List.length_nil] <;> omega) | exact _root_.id rfl | exact _root_.id (fun _ => rfl) | fail) only [↓pre, post, Int.reduceEq, Int.reduceLT, Int.reduceLE, Int.reduceAdd, Int.reduceSub, Int.reduceMul, Int.reduceNeg, Nat.reduceLT, Nat.reduceSub, Nat.reduceMul, Nat.reduceAdd, Nat.reduceLeDiff, reduceIte, reduceCtorEq, Nat.reduceEqDiff, i2])
          | (refine ifP_neg (by first | assumption | omega) ?_ <;> try simp (maxSteps := 4000000) (disch := first | assumption | omega | (simp only [push_next, put_next, empty_next, List.length_cons, List.length_nil] <;> omega) | exact _root_.id rfl | exact _root_.id (fun _ => rfl) | fail) only [↓pre, post, Int.reduceEq, Int.reduceLT, Int.reduceLE, Int.reduceAdd, Int.reduceSub, Int.reduceMul, Int.reduceNeg, Nat.reduceLT, Nat.reduceSub, Nat.reduceMul, Nat.reduceAdd, Nat.reduceLeDiff, reduceIte, reduceCtorEq, Nat.reduceEqDiff, i2])
          | (refine ifP_intro (fun hyp => ?_) (fun hyp => ?_) <;> first | simp (maxSteps := 4000000) (disch := first | assumption | omega | (simp only [push_next, put_next, empty_next, List.length_cons, List.length_nil] <;> omega) | exact _root_.id rfl | exact _root_.id (fun _ => rfl) | fail) only [↓pre, post, Int.reduceEq, Int.reduceLT, Int.reduceLE, Int.reduceAdd, Int.reduceSub, Int.reduceMul, Int.reduceNeg, Nat.reduceLT, Nat.reduceSub, Nat.reduceMul, Nat.reduceAdd, Nat.reduceLeDiff, reduceIte, reduceCtorEq, Nat.reduceEqDiff, i2, eq_false hyp] | simp (maxSteps := 4000000) (disch := first | assumption | omega | (simp only [push_next, put_next, empty_next, List.length_cons, List.length_nil] <;> omega) | exact _root_.id rfl | exact _root_.id (fun _ => rfl) | fail) only [↓pre, post, Int.reduceEq, Int.reduceLT, Int.reduceLE, Int.reduceAdd, Int.reduceSub, Int.reduceMul, Int.reduceNeg, Nat.reduceLT, Nat.reduceSub, Nat.reduceMul, Nat.reduceAdd, Nat.reduceLeDiff, reduceIte, reduceCtorEq, Nat.reduceEqDiff, i2, eq_true hyp] | skip))
        · rw [if_pos ⟨⟨s, hs1, by omega, by rw [← hs2]; assumption⟩, fun x hx h => (fun h' => (by assumption : ¬ minF (nth d 0) (List.drop 1 d) < -1) h') ((hmem (by omega)).2 ⟨x, hx, h⟩), hbad.1 hyp⟩]
        · rw [if_neg (fun h => hyp (hbad.2 h.2.2))]
    · rw [if_neg]; rintro ⟨⟨s, e, _, e2⟩, _⟩
      exact hyp (by rw [hTs s e]; exact e2)
    · rw [if_neg]; rintro ⟨⟨s, e, e1, e2⟩, _⟩; omega
  · try simp (maxSteps := 4000000) (disch := first | assumption | omega | (simp only [push_next, put_next, empty_next, List.length_cons, List.length_nil] <;> omega) | exact _root_.id rfl | exact _root_.id (fun _ => rfl) | fail) only [↓pre, post, Int.reduceEq, Int.reduceLT, Int.reduceLE, Int.reduceAdd, Int.reduceSub, Int.reduceMul, Int.reduceNeg, Nat.reduceLT, Nat.reduceSub, Nat.reduceMul, Nat.reduceAdd, Nat.reduceLeDiff, reduceIte, reduceCtorEq, Nat.reduceEqDiff, ready_v, eq_false hr]
    repeat' (first
      | (refine ifP_pos (by first | assumption | omega) ?_ <;> try simp (maxSteps := 4000000) (disch := first | assumption | omega | (simp only [push_next, put_next, empty_next, List.length_cons, List.length_nil] <;> omega) | exact _root_.id rfl | exact _root_.id (fun _ => rfl) | fail) only [↓pre, post, Int.reduceEq, Int.reduceLT, Int.reduceLE, Int.reduceAdd, Int.reduceSub, Int.reduceMul, Int.reduceNeg, Nat.reduceLT, Nat.reduceSub, Nat.reduceMul, Nat.reduceAdd, Nat.reduceLeDiff, reduceIte, reduceCtorEq, Nat.reduceEqDiff, ready_v, eq_false hr])
      | (refine ifP_neg (by first | assumption | omega) ?_ <;> try simp (maxSteps := 4000000) (disch := first | assumption | omega | (simp only [push_next, put_next, empty_next, List.length_cons, List.length_nil] <;> omega) | exact _root_.id rfl | exact _root_.id (fun _ => rfl) | fail) only [↓pre, post, Int.reduceEq, Int.reduceLT, Int.reduceLE, Int.reduceAdd, Int.reduceSub, Int.reduceMul, Int.reduceNeg, Nat.reduceLT, Nat.reduceSub, Nat.reduceMul, Nat.reduceAdd, Nat.reduceLeDiff, reduceIte, reduceCtorEq, Nat.reduceEqDiff, ready_v, eq_false hr])
      | (refine ifP_intro (fun hyp => ?_) (fun hyp => ?_) <;> first | simp (maxSteps := 4000000) (disch := first | assumption | omega | (simp only [push_next, put_next, empty_next, List.length_cons, List.length_nil] <;> omega) | exact _root_.id rfl | exact _root_.id (fun _ => rfl) | fail) only [↓pre, post, Int.reduceEq, Int.reduceLT, Int.reduceLE, Int.reduceAdd, Int.reduceSub, Int.reduceMul, Int.reduceNeg, Nat.reduceLT, Nat.reduceSub, Nat.reduceMul, Nat.reduceAdd, Nat.reduceLeDiff, reduceIte, reduceCtorEq, Nat.reduceEqDiff, ready_v, eq_false hr, eq_false hyp] | simp (maxSteps := 4000000) (disch := first | assumption | omega | (simp only [push_next, put_next, empty_next, List.length_cons, List.length_nil] <;> omega) | exact _root_.id rfl | exact _root_.id (fun _ => rfl) | fail) only [↓pre, post, Int.reduceEq, Int.reduceLT, Int.reduceLE, Int.reduceAdd, Int.reduceSub, Int.reduceMul, Int.reduceNeg, Nat.reduceLT, Nat.reduceSub, Nat.reduceMul, Nat.reduceAdd, Nat.reduceLeDiff, reduceIte, reduceCtorEq, Nat.reduceEqDiff, ready_v, eq_false hr, eq_true hyp] | skip))

end Go.Proofs.Ytcammfdljiingaa
