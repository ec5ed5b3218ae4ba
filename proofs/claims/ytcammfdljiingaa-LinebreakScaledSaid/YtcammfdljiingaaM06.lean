/-
  Merged from LbO LbP LbQ LbR LbS LbT: Check of the program; the sum of the reference model.
-/
import Derived.Test.YtcammfdljiingaaM05
import Derived.Test.YtcammfdljiingaaM04
/-
  Check of the program; the sum of the reference model.
-/
set_option linter.unusedSimpArgs false
set_option linter.unusedVariables false
set_option maxHeartbeats 8000000
namespace Go.Abs
/-- The lesser or the greater number. -/
def mnxA (mx : Bool) (x y : AVal) : Option AVal := match x, y with
  | .int k a, .int _ b => some (.int k (if mx then (if a < b then b else a) else (if b < a then b else a)))
  | _, _ => none
theorem XW_mnx {F : Nat → Option AEnt} {ev : Opd → AVal} {h : Heap} {K : AVal → Heap → Prop} {mx : Bool} {x y : Opd} : XW F (.mnx mx x y) ev h K ↔ bindK (mnxA mx (ev x) (ev y)) K h := by
  refine XW_val (fun _ => rfl) ?_
  simp only [evalA, mnxA]
  cases ev x <;> cases ev y <;> rfl
theorem mnx_min (k k' : IntKind) (a b : Int) : mnxA false (.int k a) (.int k' b) = some (.int k (if b < a then b else a)) := _root_.id rfl
end Go.Abs
namespace Go.Proofs.Ytcammfdljiingaa
open Go Go.Abs

def minF (m : Int) (l : List Int) : Int := l.foldl (fun m x => if x < m then x else m) m
theorem minF_lt (c : Int) : ∀ (l : List Int) (m : Int), minF m l < c ↔ m < c ∨ ∃ x ∈ l, x < c
  | [], m => by simp [minF]
  | x :: l, m => by
    have := minF_lt c l (if x < m then x else m)
    simp only [minF, List.foldl_cons] at this ⊢
    rw [this]
    constructor
    · rintro (h | ⟨y, h1, h2⟩)
      · split at h
        · exact .inr ⟨x, by simp, h⟩
        · exact .inl h
      · exact .inr ⟨y, by simp [h1], h2⟩
    · rintro (h | ⟨y, h1, h2⟩)
      · left; split <;> omega
      · rcases List.mem_cons.1 h1 with rfl | h1
        · left; split <;> omega
        · exact .inr ⟨y, h1, h2⟩

theorem min_v {l : List Int} {t : Tok} (h1 : 1 ≤ l.length) (h2 : l.length ≤ 100000) : PV F 45 [.sl (l.map (.int .i64)) t] = some (.int .i64 (minF (nth l 0) (l.drop 1))) := by
  refine PV_wp (fn := c45) rfl ?_
  dsimp only [c45]
  try simp (maxSteps := 4000000) (disch := first | assumption | omega | (simp only [push_next, put_next, empty_next, List.length_cons, List.length_nil] <;> omega) | exact _root_.id rfl | exact _root_.id (fun _ => rfl) | fail) only [↓pre, post, Int.reduceEq, Int.reduceLT, Int.reduceLE, Int.reduceAdd, Int.reduceSub, Int.reduceMul, Int.reduceNeg, Nat.reduceLT, Nat.reduceSub, Nat.reduceMul, Nat.reduceAdd, Nat.reduceLeDiff, reduceIte, reduceCtorEq, Nat.reduceEqDiff, ↓XW_mnx, mnx_min]
  repeat' (first
    | (refine ifP_pos (by first | assumption | omega) ?_ <;> try simp (maxSteps := 4000000) (disch := first | assumption | omega | (simp only [push_next, put_next, empty_next, List.length_cons, List.length_nil] <;> omega) | exact _root_.id rfl | exact _root_.id (fun _ => rfl) | fail) only [↓pre, post, Int.reduceEq, Int.reduceLT, Int.reduceLE, Int.reduceAdd, Int.reduceSub, Int.reduceMul, Int.reduceNeg, Nat.reduceLT, Nat.reduceSub, Nat.reduceMul, Nat.reduceAdd, Nat.reduceLeDiff, reduceIte, reduceCtorEq, Nat.reduceEqDiff, ↓XW_mnx, mnx_min])
    | (refine ifP_neg (by first | assumption | omega) ?_ <;> try simp (maxSteps := 4000000) (disch := first | assumption | omega | (simp only [push_next, put_next, empty_next, List.length_cons, List.length_nil] <;> omega) | exact _root_.id rfl | exact _root_.id (fun _ => rfl) | fail) only [↓pre, post, Int.reduceEq, Int.reduceLT, Int.reduceLE, Int.reduceAdd, Int.reduceSub, Int.reduceMul, Int.reduceNeg, Nat.reduceLT, Nat.reduceSub, Nat.reduceMul, Nat.reduceAdd, Nat.reduceLeDiff, reduceIte, reduceCtorEq, Nat.reduceEqDiff, ↓XW_mnx, mnx_min])
    | (refine ifP_intro (fun hyp => ?_) (fun hyp => ?_) <;> first | simp (maxSteps := 4000000) (disch := first | assumption | omega | (simp only [push_next, put_next, empty_next, List.length_cons, List.length_nil] <;> omega) | exact _root_.id rfl | exact _root_.id (fun _ => rfl) | fail) only [↓pre, post, Int.reduceEq, Int.reduceLT, Int.reduceLE, Int.reduceAdd, Int.reduceSub, Int.reduceMul, Int.reduceNeg, Nat.reduceLT, Nat.reduceSub, Nat.reduceMul, Nat.reduceAdd, Nat.reduceLeDiff, reduceIte, reduceCtorEq, Nat.reduceEqDiff, ↓XW_mnx, mnx_min, eq_false hyp] | simp (maxSteps := 4000000) (disch := first | assumption | omega | (simp only [push_next, put_next, empty_next, List.length_cons, List.length_nil] <;> omega) | exact _root_.id rfl | exact _root_.id (fun _ => rfl) | fail) only [↓pre, post, Int.reduceEq, Int.reduceLT, Int.reduceLE, Int.reduceAdd, Int.reduceSub, Int.reduceMul, Int.reduceNeg, Nat.reduceLT, Nat.reduceSub, Nat.reduceMul, Nat.reduceAdd, Nat.reduceLeDiff, reduceIte, reduceCtorEq, Nat.reduceEqDiff, ↓XW_mnx, mnx_min, eq_true hyp] | skip))
  refine w_loop (fun m vs h0 => ∃ (i : Nat) (s : Int) (x4 x5 : AVal), m = l.length - i ∧ 1 ≤ i ∧ i ≤ l.length ∧ minF (nth l 0) (l.drop 1) = minF s (l.drop i) ∧
    vs = [.sl (l.map (.int .i64)) t, .int .i64 0, .int .i64 s, .int .i64 i, x4, x5]) (l.length - 1)
    ⟨1, _, _, _, by omega, by omega, by omega, rfl, rfl⟩ ?_
  rintro m vs h0 ⟨i, s, x4, x5, rfl, hi1, hi, hm, rfl⟩
  try simp (maxSteps := 4000000) (disch := first | assumption | omega | (simp only [push_next, put_next, empty_next, List.length_cons, List.length_nil] <;> omega) | exact _root_.id rfl | exact _root_.id (fun _ => rfl) | fail) only [↓pre, post, Int.reduceEq, Int.reduceLT, Int.reduceLE, Int.reduceAdd, Int.reduceSub, Int.reduceMul, Int.reduceNeg, Nat.reduceLT, Nat.reduceSub, Nat.reduceMul, Nat.reduceAdd, Nat.reduceLeDiff, reduceIte, reduceCtorEq, Nat.reduceEqDiff, ↓XW_mnx, mnx_min]
  repeat' (first
    | (refine ifP_pos (by first | assumption | omega) ?_ <;> try simp (maxSteps := 4000000) (disch := first | assumption | omega | (simp only [push_next, put_next, empty_next, List.length_cons, List.length_nil] <;> omega) | exact _root_.id rfl | exact _root_.id (fun _ => rfl) | fail) only [↓pre, post, Int.reduceEq, Int.reduceLT, Int.reduceLE, Int.reduceAdd, Int.reduceSub, Int.reduceMul, Int.reduceNeg, Nat.reduceLT, Nat.reduceSub, Nat.reduceMul, Nat.reduceAdd, Nat.reduceLeDiff, reduceIte, reduceCtorEq, Nat.reduceEqDiff, ↓XW_mnx, mnx_min])
    | (refine ifP_neg (by first | assumption | omega) ?_ <;> try simp (maxSteps := 4000000) (disch := first | assumption | omega | (simp only [push_next, put_next, empty_next, List.length_cons, List.length_nil] <;> omega) | exact _root_.id rfl | exact _root_.id (fun _ => rfl) | fail) only [↓pre, post, Int.reduceEq, Int.reduceLT, Int.reduceLE, Int.reduceAdd, Int.reduceSub, Int.reduceMul, Int.reduceNeg, Nat.reduceLT, Nat.reduceSub, Nat.reduceMul, Nat.reduceAdd, Nat.reduceLeDiff, reduceIte, reduceCtorEq, Nat.reduceEqDiff, ↓XW_mnx, mnx_min])
    | (refine ifP_intro (fun hyp => ?_) (fun hyp => ?_) <;> first | simp (maxSteps := 4000000) (disch := first | assumption | omega | (simp only [push_next, put_next, empty_next, List.length_cons, List.length_nil] <;> omega) | exact _root_.id rfl | exact _root_.id (fun _ => rfl) | fail) only [↓pre, post, Int.reduceEq, Int.reduceLT, Int.reduceLE, Int.reduceAdd, Int.reduceSub, Int.reduceMul, Int.reduceNeg, Nat.reduceLT, Nat.reduceSub, Nat.reduceMul, Nat.reduceAdd, Nat.reduceLeDiff, reduceIte, reduceCtorEq, Nat.reduceEqDiff, ↓XW_mnx, mnx_min, eq_false hyp] | simp (maxSteps := 4000000) (disch := first | assumption | omega | (simp only [push_next, put_next, empty_next, List.length_cons, List.length_nil] <;> omega) | exact _root_.id rfl | exact _root_.id (fun _ => rfl) | fail) only [↓pre, post, Int.reduceEq, Int.reduceLT, Int.reduceLE, Int.reduceAdd, Int.reduceSub, Int.reduceMul, Int.reduceNeg, Nat.reduceLT, Nat.reduceSub, Nat.reduceMul, Nat.reduceAdd, Nat.reduceLeDiff, reduceIte, reduceCtorEq, Nat.reduceEqDiff, ↓XW_mnx, mnx_min, eq_true hyp] | skip))
  · have hlt : i < l.length := by omega
    exact lp_n ⟨l.length - (i + 1), by omega, i + 1, _, _, _, rfl, by omega, by omega, by rw [hm, List.drop_eq_getElem_cons hlt, ← nth_eq hlt]; rfl, rfl⟩
  · rw [hm, List.drop_eq_nil_of_le (by omega)]; rfl

/-- What the reference model sums up. -/
theorem costR_fits {l : List Item} {w : Int} {p : Nat} {x : Ln} (hv : valid l) (hw : widthOk w) (hp : p < l.length) : fits l w p x ↔ 0 ≤ costR l w x.a x.b ∧ x.a = skip l p ∧ x.n = natS l x.a.toNat x.b.toNat := by
  constructor
  · rintro ⟨h1, h2, h3, h4, h5⟩
    have ha : x.a.toNat = skip l p := by omega
    refine ⟨?_, h2, by rw [ha]; exact h5⟩
    rw [costR, if_pos ⟨⟨hw, hv⟩, by omega, h3, by rw [ha]; exact h4⟩, ha]
    exact (cost_bound hv hw h4).1
  · rintro ⟨h1, h2, h3⟩
    have ha : x.a.toNat = skip l p := by omega
    unfold costR at h1
    split at h1
    · rename_i hc
      exact ⟨hp, h2, hc.2.2.1, by rw [← ha]; exact hc.2.2.2, by rw [← ha]; exact h3⟩
    · omega

theorem refSum_v {l : List Item} {t t2 : Tok} {w : Int} {ls : List Ln} (ht : Pt t) (ht2 : Pt t2) (hv : valid l) (hw : widthOk w) (hls : ls.length ≤ 100000) (hi : ∀ x ∈ ls, i64 x.b) :
    PV F 48 [.sl (items l) t, .int .i64 w, .sl (ls.map Ln.toA) t2] = some (match sumF l w 0 0 ls with | some (p, s) => .tup [.int .i64 s, .bool (decide (p = l.length))] | none => .tup [.int .i64 0, .bool false]) := by
  have hl := hv.2.1
  have hl1 := hv.1
  refine PV_wp (fn := c48) rfl ?_
  dsimp only [c48]
  try simp (maxSteps := 4000000) (disch := first | assumption | omega | (simp only [push_next, put_next, empty_next, List.length_cons, List.length_nil] <;> omega) | exact _root_.id rfl | exact _root_.id (fun _ => rfl) | fail) only [↓pre, post, Int.reduceEq, Int.reduceLT, Int.reduceLE, Int.reduceAdd, Int.reduceSub, Int.reduceMul, Int.reduceNeg, Nat.reduceLT, Nat.reduceSub, Nat.reduceMul, Nat.reduceAdd, Nat.reduceLeDiff, reduceIte, reduceCtorEq, Nat.reduceEqDiff]
  repeat' (first
    | (refine ifP_pos (by first | assumption | omega) ?_ <;> try simp (maxSteps := 4000000) (disch := first | assumption | omega | (simp only [push_next, put_next, empty_next, List.length_cons, List.length_nil] <;> omega) | exact _root_.id rfl | exact _root_.id (fun _ => rfl) | fail) only [↓pre, post, Int.reduceEq, Int.reduceLT, Int.reduceLE, Int.reduceAdd, Int.reduceSub, Int.reduceMul, Int.reduceNeg, Nat.reduceLT, Nat.reduceSub, Nat.reduceMul, Nat.reduceAdd, Nat.reduceLeDiff, reduceIte, reduceCtorEq, Nat.reduceEqDiff])
    | (refine ifP_neg (by first | assumption | omega) ?_ <;> try simp (maxSteps := 4000000) (disch := first | assumption | omega | (simp only [push_next, put_next, empty_next, List.length_cons, List.length_nil] <;> omega) | exact _root_.id rfl | exact _root_.id (fun _ => rfl) | fail) only [↓pre, post, Int.reduceEq, Int.reduceLT, Int.reduceLE, Int.reduceAdd, Int.reduceSub, Int.reduceMul, Int.reduceNeg, Nat.reduceLT, Nat.reduceSub, Nat.reduceMul, Nat.reduceAdd, Nat.reduceLeDiff, reduceIte, reduceCtorEq, Nat.reduceEqDiff])
    | (refine ifP_intro (fun hyp => ?_) (fun hyp => ?_) <;> first | simp (maxSteps := 4000000) (disch := first | assumption | omega | (simp only [push_next, put_next, empty_next, List.length_cons, List.length_nil] <;> omega) | exact _root_.id rfl | exact _root_.id (fun _ => rfl) | fail) only [↓pre, post, Int.reduceEq, Int.reduceLT, Int.reduceLE, Int.reduceAdd, Int.reduceSub, Int.reduceMul, Int.reduceNeg, Nat.reduceLT, Nat.reduceSub, Nat.reduceMul, Nat.reduceAdd, Nat.reduceLeDiff, reduceIte, reduceCtorEq, Nat.reduceEqDiff, eq_false hyp] | simp (maxSteps := 4000000) (disch := first | assumption | omega | (simp only [push_next, put_next, empty_next, List.length_cons, List.length_nil] <;> omega) | exact _root_.id rfl | exact _root_.id (fun _ => rfl) | fail) only [↓pre, post, Int.reduceEq, Int.reduceLT, Int.reduceLE, Int.reduceAdd, Int.reduceSub, Int.reduceMul, Int.reduceNeg, Nat.reduceLT, Nat.reduceSub, Nat.reduceMul, Nat.reduceAdd, Nat.reduceLeDiff, reduceIte, reduceCtorEq, Nat.reduceEqDiff, eq_true hyp] | skip))
  refine w_loop (fun m vs h0 => ∃ (i p : Nat) (s z : Int) (x8 x9 x10 x11 : AVal), m = ls.length - i ∧ i ≤ ls.length ∧ p ≤ l.length ∧ (p = 0 ∨ (nth l (p - 1)).kind ≠ 0) ∧ 0 ≤ s ∧ s ≤ p * 5000000000 ∧ z = (p : Int) - 1 ∧ sumF l w 0 0 ls = sumF l w p s (ls.drop i) ∧
    vs = [.sl (items l) t, .int .i64 w, .sl (ls.map Ln.toA) t2, .int .i64 0, .bool false, .int .i64 s, .int .i64 z, .int .i64 i, x8, x9, x10, x11]) ls.length
    ⟨0, 0, 0, -1, _, _, _, _, rfl, by omega, by omega, .inl rfl, by omega, by omega, by omega, rfl, rfl⟩ ?_
  rintro m vs h0 ⟨i, p, s, z, x8, x9, x10, x11, rfl, hil, hp, hpk, hs0, hs1, hz, hsum, rfl⟩
  have hst : p ≤ l.length → PV F 29 [.sl (items l) t, .int .i64 z] = some (.int .i64 (skip l p)) := fun h => refStart_v p hz (by omega) (by omega)
  have hdrop : i < ls.length → ls.drop i = nth ls i :: ls.drop (i + 1) := fun h => by rw [List.drop_eq_getElem_cons h, nth_eq h]
  have hno : i < ls.length → ¬ fits l w p (nth ls i) → sumF l w 0 0 ls = none := fun h hf => by rw [hsum, hdrop h, sumF, if_neg hf]
  have hrc : ∀ a b, PV F 28 [.sl (items l) t, .int .i64 a, .int .i64 b, .int .i64 w] = some (.int .i64 (costR l w a b)) := fun a b => refCost_v ht (by omega)
  have hcc : 0 ≤ costR l w (nth ls i).a (nth ls i).b → 0 ≤ (nth ls i).a ∧ (nth ls i).a < (nth ls i).b ∧ (nth ls i).b ≤ l.length ∧ costR l w (nth ls i).a (nth ls i).b ≤ 5000000000 ∧ (nth l ((nth ls i).b.toNat - 1)).kind ≠ 0 ∧ lineOk l w (nth ls i).a.toNat (nth ls i).b.toNat := fun h => by
    unfold costR at h ⊢
    split at h
    · rename_i hc
      rw [if_pos hc]
      have h1 := hc.2.2.2.1
      have h2 := hc.2.2.2.2.1
      exact ⟨hc.2.1, by omega, by omega, (cost_bound hv hw hc.2.2.2).2, hc.2.2.2.2.2.2.1, hc.2.2.2⟩
    · omega
  have hnat : 0 ≤ costR l w (nth ls i).a (nth ls i).b → PV F 31 [.sl (items l) t, .int .i64 (nth ls i).a, .int .i64 (nth ls i).b] = some (.int .i64 (natS l (nth ls i).a.toNat (nth ls i).b.toNat)) := fun h => natural_i hv (hcc h).1 (hcc h).2.1 (hcc h).2.2.1
  try simp (maxSteps := 4000000) (disch := first | assumption | omega | (simp only [push_next, put_next, empty_next, List.length_cons, List.length_nil] <;> omega) | exact _root_.id rfl | exact _root_.id (fun _ => rfl) | fail) only [↓pre, post, Int.reduceEq, Int.reduceLT, Int.reduceLE, Int.reduceAdd, Int.reduceSub, Int.reduceMul, Int.reduceNeg, Nat.reduceLT, Nat.reduceSub, Nat.reduceMul, Nat.reduceAdd, Nat.reduceLeDiff, reduceIte, reduceCtorEq, Nat.reduceEqDiff, hst, Ln.toA, hrc, hnat]
  repeat' (first
    | (refine ifP_pos (by first | assumption | omega) ?_ <;> try simp (maxSteps := 4000000) (disch := first | assumption | omega | (simp only [push_next, put_next, empty_next, List.length_cons, List.length_nil] <;> omega) | exact _root_.id rfl | exact _root_.id (fun _ => rfl) | fail) only [↓pre, post, Int.reduceEq, Int.reduceLT, Int.reduceLE, Int.reduceAdd, Int.reduceSub, Int.reduceMul, Int.reduceNeg, Nat.reduceLT, Nat.reduceSub, Nat.reduceMul, Nat.reduceAdd, Nat.reduceLeDiff, reduceIte, reduceCtorEq, Nat.reduceEqDiff, hst, Ln.toA, hrc, hnat])
    | (refine ifP_neg (by first | assumption | omega) ?_ <;> try simp (maxSteps := 4000000) (disch := first | assumption | omega | (simp only [push_next, put_next, empty_next, List.length_cons, List.length_nil] <;> omega) | exact _root_.id rfl | exact _root_.id (fun _ => rfl) | fail) only [↓pre, post, Int.reduceEq, Int.reduceLT, Int.reduceLE, Int.reduceAdd, Int.reduceSub, Int.reduceMul, Int.reduceNeg, Nat.reduceLT, Nat.reduceSub, Nat.reduceMul, Nat.reduceAdd, Nat.reduceLeDiff, reduceIte, reduceCtorEq, Nat.reduceEqDiff, hst, Ln.toA, hrc, hnat])
    | (refine ifP_intro (fun hyp => ?_) (fun hyp => ?_) <;> first | simp (maxSteps := 4000000) (disch := first | assumption | omega | (simp only [push_next, put_next, empty_next, List.length_cons, List.length_nil] <;> omega) | exact _root_.id rfl | exact _root_.id (fun _ => rfl) | fail) only [↓pre, post, Int.reduceEq, Int.reduceLT, Int.reduceLE, Int.reduceAdd, Int.reduceSub, Int.reduceMul, Int.reduceNeg, Nat.reduceLT, Nat.reduceSub, Nat.reduceMul, Nat.reduceAdd, Nat.reduceLeDiff, reduceIte, reduceCtorEq, Nat.reduceEqDiff, hst, Ln.toA, hrc, hnat, eq_false hyp] | simp (maxSteps := 4000000) (disch := first | assumption | omega | (simp only [push_next, put_next, empty_next, List.length_cons, List.length_nil] <;> omega) | exact _root_.id rfl | exact _root_.id (fun _ => rfl) | fail) only [↓pre, post, Int.reduceEq, Int.reduceLT, Int.reduceLE, Int.reduceAdd, Int.reduceSub, Int.reduceMul, Int.reduceNeg, Nat.reduceLT, Nat.reduceSub, Nat.reduceMul, Nat.reduceAdd, Nat.reduceLeDiff, reduceIte, reduceCtorEq, Nat.reduceEqDiff, hst, Ln.toA, hrc, hnat, eq_true hyp] | skip))
  · rw [hno (by omega) (fun hf => by have := ((costR_fits hv hw hf.1).1 hf).1; omega)]
  · rw [hno (by omega) (fun hf => by have := hf.1; omega)]
  · have hf : fits l w p (nth ls i) := (costR_fits hv hw (by omega)).2 ⟨by omega, by assumption, hyp⟩
    have hce : costR l w (nth ls i).a (nth ls i).b = costN l w (skip l p) (nth ls i).b.toNat := by
      have ha : (nth ls i).a.toNat = skip l p := by omega
      rw [costR, if_pos ⟨⟨hw, hv⟩, by omega, hf.2.2.1, by rw [ha]; exact hf.2.2.2.1⟩, ha]
    have hcb := cost_bound hv hw hf.2.2.2.1
    have hb1 := hf.2.2.2.1.1
    have hb2 := hf.2.2.2.1.2.1
    have hge := skip_ge (l := l) (p := p)
    exact lp_n ⟨ls.length - (i + 1), by omega, i + 1, (nth ls i).b.toNat, _, _, _, _, _, _, rfl, by omega, by omega, .inr hf.2.2.2.1.2.2.2.1, by omega, by omega, by have := hf.2.2.1; omega, by rw [hsum, hdrop (by omega), sumF, if_pos hf, hce], rfl⟩
  · rw [hno (by omega) (fun hf => hyp ((costR_fits hv hw hf.1).1 hf).2.2)]
  · rw [hno (by omega) (fun hf => hyp hf.2.1)]
  · rw [hsum, List.drop_eq_nil_of_le (by omega), sumF]
    have : (z = (l.length : Int) - 1) ↔ p = l.length := by omega
    simp only [this]

/-! ### Check -/
def valP (duals : List Int) (p : Nat) : Int := if p = 0 then 0 else nth duals (p - 1)
def badLine (duals : List Int) (v : Int) (x : Nat × Int × Int) : Prop := nth duals (x.1 - 1) < 0 ∨ x.2.2 < nth duals (x.1 - 1) - v
instance (duals : List Int) (v : Int) (x : Nat × Int × Int) : Decidable (badLine duals v x) := by unfold badLine; infer_instance
/-- A line that costs less than the duals say. -/
def dualBad (l : List Item) (w : Int) (duals : List Int) : Prop := ∃ p, p < l.length ∧ 0 ≤ valP duals p ∧ (p = 0 ∨ (nth l (p - 1)).kind ≠ 0) ∧ ∃ x ∈ linesAt l w p, badLine duals (valP duals p) x

def chk (duals : List Int) (r : Bool) (v : Int) (x : Nat × Int × Int) : Bool := if badLine duals v x then false else r

theorem chk_fold (duals : List Int) (v : Int) : ∀ (xs : List (Nat × Int × Int)) (r : Bool), xs.foldl (fun s x => chk duals s v x) r = true ↔ r = true ∧ ∀ x ∈ xs, ¬ badLine duals v x
  | [], r => by simp
  | x :: xs, r => by
    rw [List.foldl_cons, chk_fold duals v xs]
    unfold chk
    by_cases h : badLine duals v x
    · simp [h]
    · simp [h]

theorem round_fold (l : List Item) (w : Int) (duals : List Int) : ∀ (ps : List Nat) (r : Bool), ps.foldl (roundS l w (fun (_ : Bool) k => nth duals k) (chk duals)) r = true ↔ r = true ∧ ∀ p ∈ ps, 0 ≤ valP duals p → (p = 0 ∨ (nth l (p - 1)).kind ≠ 0) → ∀ x ∈ linesAt l w p, ¬ badLine duals (valP duals p) x
  | [], r => by simp
  | p :: ps, r => by
    rw [List.foldl_cons, round_fold l w duals ps]
    have e : roundS l w (fun (_ : Bool) k => nth duals k) (chk duals) r p = true ↔ r = true ∧ (0 ≤ valP duals p → (p = 0 ∨ (nth l (p - 1)).kind ≠ 0) → ∀ x ∈ linesAt l w p, ¬ badLine duals (valP duals p) x) := by
      unfold roundS
      simp only
      rw [show (if p = 0 then (0 : Int) else nth duals (p - 1)) = valP duals p from rfl]
      split
      · rename_i hc
        rw [chk_fold]
        constructor
        · rintro ⟨h1, h2⟩; exact ⟨h1, fun _ _ => h2⟩
        · rintro ⟨h1, h2⟩; exact ⟨h1, h2 hc.1 hc.2⟩
      · rename_i hc
        constructor
        · intro h; exact ⟨h, fun h1 h2 => (hc ⟨h1, h2⟩).elim⟩
        · rintro ⟨h, _⟩; exact h
    rw [e]
    constructor
    · rintro ⟨⟨h1, h2⟩, h3⟩
      refine ⟨h1, fun q hq => ?_⟩
      rcases List.mem_cons.1 hq with rfl | hq
      · exact h2
      · exact h3 q hq
    · rintro ⟨h1, h2⟩
      exact ⟨⟨h1, h2 p (by simp)⟩, fun q hq => h2 q (by simp [hq])⟩

theorem check1_c {k : Nat} {d : List Int} {t : Tok} {h : Heap} (h0 : h.get 0 = some (.row true 0 false [.sl (d.map (.int .i64)) t])) (hk : k < d.length) : CV F 46 ([.int .i64 (k : Int)] ++ [.ptr 0 0]) h (fun r h2 => r = .int .i64 (nth d k) ∧ h2 = h) := by
  refine CV_wp (fn := c46) rfl ?_
  dsimp only [c46]
  try simp (maxSteps := 4000000) (disch := first | assumption | omega | (simp only [push_next, put_next, empty_next, List.length_cons, List.length_nil] <;> omega) | exact _root_.id rfl | exact _root_.id (fun _ => rfl) | fail) only [↓pre, post, Int.reduceEq, Int.reduceLT, Int.reduceLE, Int.reduceAdd, Int.reduceSub, Int.reduceMul, Int.reduceNeg, Nat.reduceLT, Nat.reduceSub, Nat.reduceMul, Nat.reduceAdd, Nat.reduceLeDiff, reduceIte, reduceCtorEq, Nat.reduceEqDiff, h0]
  repeat' (first
    | (refine ifP_pos (by first | assumption | omega) ?_ <;> try simp (maxSteps := 4000000) (disch := first | assumption | omega | (simp only [push_next, put_next, empty_next, List.length_cons, List.length_nil] <;> omega) | exact _root_.id rfl | exact _root_.id (fun _ => rfl) | fail) only [↓pre, post, Int.reduceEq, Int.reduceLT, Int.reduceLE, Int.reduceAdd, Int.reduceSub, Int.reduceMul, Int.reduceNeg, Nat.reduceLT, Nat.reduceSub, Nat.reduceMul, Nat.reduceAdd, Nat.reduceLeDiff, reduceIte, reduceCtorEq, Nat.reduceEqDiff, h0])
    | (refine ifP_neg (by first | assumption | omega) ?_ <;> try simp (maxSteps := 4000000) (disch := first | assumption | omega | (simp only [push_next, put_next, empty_next, List.length_cons, List.length_nil] <;> omega) | exact _root_.id rfl | exact _root_.id (fun _ => rfl) | fail) only [↓pre, post, Int.reduceEq, Int.reduceLT, Int.reduceLE, Int.reduceAdd, Int.reduceSub, Int.reduceMul, Int.reduceNeg, Nat.reduceLT, Nat.reduceSub, Nat.reduceMul, Nat.reduceAdd, Nat.reduceLeDiff, reduceIte, reduceCtorEq, Nat.reduceEqDiff, h0])
    | (refine ifP_intro (fun hyp => ?_) (fun hyp => ?_) <;> first | simp (maxSteps := 4000000) (disch := first | assumption | omega | (simp only [push_next, put_next, empty_next, List.length_cons, List.length_nil] <;> omega) | exact _root_.id rfl | exact _root_.id (fun _ => rfl) | fail) only [↓pre, post, Int.reduceEq, Int.reduceLT, Int.reduceLE, Int.reduceAdd, Int.reduceSub, Int.reduceMul, Int.reduceNeg, Nat.reduceLT, Nat.reduceSub, Nat.reduceMul, Nat.reduceAdd, Nat.reduceLeDiff, reduceIte, reduceCtorEq, Nat.reduceEqDiff, h0, eq_false hyp] | simp (maxSteps := 4000000) (disch := first | assumption | omega | (simp only [push_next, put_next, empty_next, List.length_cons, List.length_nil] <;> omega) | exact _root_.id rfl | exact _root_.id (fun _ => rfl) | fail) only [↓pre, post, Int.reduceEq, Int.reduceLT, Int.reduceLE, Int.reduceAdd, Int.reduceSub, Int.reduceMul, Int.reduceNeg, Nat.reduceLT, Nat.reduceSub, Nat.reduceMul, Nat.reduceAdd, Nat.reduceLeDiff, reduceIte, reduceCtorEq, Nat.reduceEqDiff, h0, eq_true hyp] | skip))

theorem check2_c {a : Nat} {v : Int} {x : Nat × Int × Int} {d : List Int} {t : Tok} {r : Bool} {h : Heap} (h0 : h.get 0 = some (.row true 0 false [.sl (d.map (.int .i64)) t])) (hr : h.get 1 = some (.row true (typed 4) false [.bool r])) (h1 : 1 ≤ x.1) (h2 : x.1 ≤ d.length) (hd : d.length ≤ 100000) (hv : 0 ≤ v) (hv2 : i64 v) (hi : i64 (nth d (x.1 - 1))) :
    CV F 47 ([lineA a x, .int .i64 v, .int .i64 x.2.2] ++ [.ptr 0 0, .ptr 1 0]) h (fun _ h2 => h2.get 0 = some (.row true 0 false [.sl (d.map (.int .i64)) t]) ∧ h2.get 1 = some (.row true (typed 4) false [.bool (chk d r v x)]) ∧ Fr (· = 1) h h2) := by
  have hn0 := get_lt h0
  have hn1 := get_lt hr
  obtain ⟨v1, v2⟩ := hv2
  obtain ⟨d1, d2⟩ := hi
  have hr' : ∀ o, (h.put 1 o).get 1 = o := fun o => get_put_old hr
  refine CV_wp (fn := c47) rfl ?_
  dsimp only [c47, lineA]
  try simp (maxSteps := 4000000) (disch := first | assumption | omega | (simp only [push_next, put_next, empty_next, List.length_cons, List.length_nil] <;> omega) | exact _root_.id rfl | exact _root_.id (fun _ => rfl) | fail) only [↓pre, post, Int.reduceEq, Int.reduceLT, Int.reduceLE, Int.reduceAdd, Int.reduceSub, Int.reduceMul, Int.reduceNeg, Nat.reduceLT, Nat.reduceSub, Nat.reduceMul, Nat.reduceAdd, Nat.reduceLeDiff, reduceIte, reduceCtorEq, Nat.reduceEqDiff, h0, hr, hr']
  repeat' (first
    | (refine ifP_pos (by first | assumption | omega) ?_ <;> try simp (maxSteps := 4000000) (disch := first | assumption | omega | (simp only [push_next, put_next, empty_next, List.length_cons, List.length_nil] <;> omega) | exact _root_.id rfl | exact _root_.id (fun _ => rfl) | fail) only [↓pre, post, Int.reduceEq, Int.reduceLT, Int.reduceLE, Int.reduceAdd, Int.reduceSub, Int.reduceMul, Int.reduceNeg, Nat.reduceLT, Nat.reduceSub, Nat.reduceMul, Nat.reduceAdd, Nat.reduceLeDiff, reduceIte, reduceCtorEq, Nat.reduceEqDiff, h0, hr, hr'])
    | (refine ifP_neg (by first | assumption | omega) ?_ <;> try simp (maxSteps := 4000000) (disch := first | assumption | omega | (simp only [push_next, put_next, empty_next, List.length_cons, List.length_nil] <;> omega) | exact _root_.id rfl | exact _root_.id (fun _ => rfl) | fail) only [↓pre, post, Int.reduceEq, Int.reduceLT, Int.reduceLE, Int.reduceAdd, Int.reduceSub, Int.reduceMul, Int.reduceNeg, Nat.reduceLT, Nat.reduceSub, Nat.reduceMul, Nat.reduceAdd, Nat.reduceLeDiff, reduceIte, reduceCtorEq, Nat.reduceEqDiff, h0, hr, hr'])
    | (refine ifP_intro (fun hyp => ?_) (fun hyp => ?_) <;> first | simp (maxSteps := 4000000) (disch := first | assumption | omega | (simp only [push_next, put_next, empty_next, List.length_cons, List.length_nil] <;> omega) | exact _root_.id rfl | exact _root_.id (fun _ => rfl) | fail) only [↓pre, post, Int.reduceEq, Int.reduceLT, Int.reduceLE, Int.reduceAdd, Int.reduceSub, Int.reduceMul, Int.reduceNeg, Nat.reduceLT, Nat.reduceSub, Nat.reduceMul, Nat.reduceAdd, Nat.reduceLeDiff, reduceIte, reduceCtorEq, Nat.reduceEqDiff, h0, hr, hr', eq_false hyp] | simp (maxSteps := 4000000) (disch := first | assumption | omega | (simp only [push_next, put_next, empty_next, List.length_cons, List.length_nil] <;> omega) | exact _root_.id rfl | exact _root_.id (fun _ => rfl) | fail) only [↓pre, post, Int.reduceEq, Int.reduceLT, Int.reduceLE, Int.reduceAdd, Int.reduceSub, Int.reduceMul, Int.reduceNeg, Nat.reduceLT, Nat.reduceSub, Nat.reduceMul, Nat.reduceAdd, Nat.reduceLeDiff, reduceIte, reduceCtorEq, Nat.reduceEqDiff, h0, hr, hr', eq_true hyp] | skip))
  · rw [chk, if_pos (.inl hyp)]
    exact ⟨rfl, (Fr.put (S := (· = 1)) (Fr.refl _ _) (.inl rfl) _).push _⟩
  · rw [chk, if_pos (.inr hyp)]
    exact ⟨rfl, (Fr.put (S := (· = 1)) (Fr.refl _ _) (.inl rfl) _).push _⟩
  · rw [chk, if_neg (by unfold badLine; omega)]
    exact ⟨rfl, (Fr.refl _ _).push _⟩

/-- What Check answers. -/
def checkS (l : List Item) (w : Int) (ls : List Ln) (d : List Int) : Prop :=
  (∃ s, sumF l w 0 0 ls = some (l.length, s) ∧ d.length = l.length ∧ nth d (l.length - 1) = s) ∧ (∀ x ∈ d, ¬ x < -1) ∧ ¬ dualBad l w d

theorem sumF_inv {l : List Item} {w : Int} (hv : valid l) (hw : widthOk w) : ∀ (xs : List Ln) {p : Nat} {s : Int} {q : Nat} {t : Int}, sumF l w p s xs = some (q, t) → p ≤ l.length → 0 ≤ s → q ≤ l.length ∧ 0 ≤ t
  | [], p, s, q, t, e, hp, hs => by simp only [sumF, Option.some.injEq, Prod.mk.injEq] at e; obtain ⟨rfl, rfl⟩ := e; exact ⟨hp, hs⟩
  | x :: xs, p, s, q, t, e, hp, hs => by
    unfold sumF at e
    split at e
    · rename_i hf
      have hcb := cost_bound hv hw hf.2.2.2.1
      exact sumF_inv hv hw xs e hf.2.2.2.1.2.1 (by omega)
    · simp at e

open Classical in
theorem check_v {l : List Item} {t t2 t3 : Tok} {w : Int} {ls : List Ln} {d : List Int} (ht : Pt t) (ht2 : Pt t2) (ht3 : Pt t3) (hl : l.length < 100000) (hls : ls.length ≤ 100000) (hi : ∀ x ∈ ls, i64 x.b) (hd : d.length ≤ 100000) (hdi : ∀ x ∈ d, i64 x) :
    PV F 20 [.sl (items l) t, .int .i64 w, .sl (ls.map Ln.toA) t2, .sl (d.map (.int .i64)) t3] = some (.int .i64 (if widthOk w ∧ valid l then (if checkS l w ls d then 0 else 24) else 1)) := by
  refine PV_wp (fn := c20) rfl ?_
  dsimp only [c20]
  by_cases hr : widthOk w ∧ valid l
  · have hv := hr.2
    have hw := hr.1
    have hsv := sum_v (t := t) (t2 := t2) ht ht2 hv hw hls hi
    rw [if_pos hr]
    have hl1 := hv.1
    have hmin := fun h => min_v (l := d) (t := t3) h hd
    obtain ⟨T, hT, hTs, hsv⟩ : ∃ T : Int, (0 ≤ T ↔ ∃ s, sumF l w 0 0 ls = some (l.length, s)) ∧ (∀ s, sumF l w 0 0 ls = some (l.length, s) → T = s) ∧ PV F 44 [.sl (items l) t, .int .i64 w, .sl (ls.map Ln.toA) t2] = some (.int .i64 T) := by
      refine ⟨_, ?_, ?_, hsv⟩
      · constructor
        · intro h0
          cases hs : sumF l w 0 0 ls with
          | none => rw [hs] at h0; simp only at h0; omega
          | some ps =>
            obtain ⟨p, s⟩ := ps
            have := sumF_inv hv hw ls hs (by omega) (by omega)
            rw [hs] at h0
            simp only at h0
            split at h0
            · omega
            · exact ⟨s, by rw [show p = l.length by omega]⟩
        · rintro ⟨s, hs⟩
          rw [hs]
          simp only [Nat.lt_irrefl, if_false]
          exact (sumF_inv hv hw ls hs (by omega) (by omega)).2
      · intro s hs
        rw [hs]
        simp only [Nat.lt_irrefl, if_false]
    have hmem : 1 ≤ d.length → (minF (nth d 0) (List.drop 1 d) < -1 ↔ ∃ x ∈ d, x < -1) := fun h => by
      rw [minF_lt]
      cases d with
      | nil => simp at h
      | cons y d => simp [nth]
    try simp (maxSteps := 4000000) (disch := first | assumption | omega | (simp only [push_next, put_next, empty_next, List.length_cons, List.length_nil] <;> omega) | exact _root_.id rfl | exact _root_.id (fun _ => rfl) | fail) only [↓pre, post, Int.reduceEq, Int.reduceLT, Int.reduceLE, Int.reduceAdd, Int.reduceSub, Int.reduceMul, Int.reduceNeg, Nat.reduceLT, Nat.reduceSub, Nat.reduceMul, Nat.reduceAdd, Nat.reduceLeDiff, reduceIte, reduceCtorEq, Nat.reduceEqDiff, ready_v, hsv, hmin, eq_true hr]
    repeat' (first
      | (refine ifP_pos (by first | assumption | omega) ?_ <;> try simp (maxSteps := 4000000) (disch := first | assumption | omega | (simp only [push_next, put_next, empty_next, List.length_cons, List.length_nil] <;> omega) | exact _root_.id rfl | exact _root_.id (fun _ => rfl) | fail) only [↓pre, post, Int.reduceEq, Int.reduceLT, Int.reduceLE, Int.reduceAdd, Int.reduceSub, Int.reduceMul, Int.reduceNeg, Nat.reduceLT, Nat.reduceSub, Nat.reduceMul, Nat.reduceAdd, Nat.reduceLeDiff, reduceIte, reduceCtorEq, Nat.reduceEqDiff, ready_v, hsv, hmin, eq_true hr])
      | (refine ifP_neg (by first | assumption | omega) ?_ <;> try simp (maxSteps := 4000000) (disch := first | assumption | omega | (simp only [push_next, put_next, empty_next, List.length_cons, List.length_nil] <;> omega) | exact _root_.id rfl | exact _root_.id (fun _ => rfl) | fail) only [↓pre, post, Int.reduceEq, Int.reduceLT, Int.reduceLE, Int.reduceAdd, Int.reduceSub, Int.reduceMul, Int.reduceNeg, Nat.reduceLT, Nat.reduceSub, Nat.reduceMul, Nat.reduceAdd, Nat.reduceLeDiff, reduceIte, reduceCtorEq, Nat.reduceEqDiff, ready_v, hsv, hmin, eq_true hr])
      | (refine ifP_intro (fun hyp => ?_) (fun hyp => ?_) <;> first | simp (maxSteps := 4000000) (disch := first | assumption | omega | (simp only [push_next, put_next, empty_next, List.length_cons, List.length_nil] <;> omega) | exact _root_.id rfl | exact _root_.id (fun _ => rfl) | fail) only [↓pre, post, Int.reduceEq, Int.reduceLT, Int.reduceLE, Int.reduceAdd, Int.reduceSub, Int.reduceMul, Int.reduceNeg, Nat.reduceLT, Nat.reduceSub, Nat.reduceMul, Nat.reduceAdd, Nat.reduceLeDiff, reduceIte, reduceCtorEq, Nat.reduceEqDiff, ready_v, hsv, hmin, eq_true hr, eq_false hyp] | simp (maxSteps := 4000000) (disch := first | assumption | omega | (simp only [push_next, put_next, empty_next, List.length_cons, List.length_nil] <;> omega) | exact _root_.id rfl | exact _root_.id (fun _ => rfl) | fail) only [↓pre, post, Int.reduceEq, Int.reduceLT, Int.reduceLE, Int.reduceAdd, Int.reduceSub, Int.reduceMul, Int.reduceNeg, Nat.reduceLT, Nat.reduceSub, Nat.reduceMul, Nat.reduceAdd, Nat.reduceLeDiff, reduceIte, reduceCtorEq, Nat.reduceEqDiff, ready_v, hsv, hmin, eq_true hr, eq_true hyp] | skip))
    · rw [if_neg]; rintro ⟨⟨s, e, _⟩, _⟩; have h0 := hT.2 ⟨s, e⟩; omega
    · rw [if_neg]; rintro ⟨_, h2, _⟩
      obtain ⟨x, h3, h4⟩ := (hmem (by omega)).1 hyp
      exact h2 x h3 h4
    · obtain ⟨s, hs1⟩ := hT.1 (by omega)
      have hs2 := hTs s hs1
      refine CV_mono (reach_c (S := fun j => j = 0 ∨ j = 1) ht hv hw ?_ (fun p v => v = valP d p) (fun _ k => nth d k) (chk d)
        (fun r h => h.get 0 = some (.row true 0 false [.sl (d.map (.int .i64)) t3]) ∧ h.get 1 = some (.row true (typed 4) false [.bool r])) ?_ rfl ?_ ?_ true ?_) ?_
      · rintro j (rfl | rfl)
        · exact Nat.lt_of_lt_of_le (by decide : 0 < 2) (Nat.le_refl 2)
        · exact Nat.lt_succ_self 1
      · rintro r h1 h2 he ⟨i1, i2⟩
        exact ⟨by rw [he 0 (.inl rfl)]; exact i1, by rw [he 1 (.inr rfl)]; exact i2⟩
      · rintro r k h1 hk ⟨i1, i2⟩ hF
        refine CV_mono (check1_c i1 (by omega)) ?_
        rintro r' h2 ⟨rfl, rfl⟩
        exact ⟨rfl, ⟨i1, i2⟩, Fr.refl _ _, by simp [valP]⟩
      · rintro r p v x h1 hp rfl h0 hx ⟨i1, i2⟩ hF
        obtain ⟨m1, m2, m3, m4, m5⟩ := mem_linesAt hx
        have hvi : i64 (valP d p) := by
          unfold valP
          split
          · unfold i64; omega
          · exact nth_i64 hdi _
        refine CV_mono (check2_c i1 i2 (by omega) (by omega) hd h0 hvi (nth_i64 hdi _)) ?_
        rintro r' h2 ⟨k1, k2, k3⟩
        exact ⟨⟨k1, k2⟩, k3.mono fun j _ hj => .inr hj⟩
      · exact ⟨get_push_old (get_push _ _), get_push_eq rfl⟩
      · rintro r h2 ⟨rfl, ⟨i1, i2⟩, hF⟩
        have hfold := round_fold l w d (List.range l.length) true
        have hbad : (List.range l.length).foldl (roundS l w (fun (_ : Bool) k => nth d k) (chk d)) true = true ↔ ¬ dualBad l w d := by
          rw [hfold]
          constructor
          · rintro ⟨_, h⟩ ⟨p, h1, h2, h3, x, h4, h5⟩
            exact h p (by rw [List.mem_range]; exact h1) h2 h3 x h4 h5
          · intro h
            refine ⟨rfl, fun p hp h2 h3 x h4 h5 => h ⟨p, List.mem_range.1 hp, h2, h3, x, h4, h5⟩⟩
        try simp (maxSteps := 4000000) (disch := first | assumption | omega | (simp only [push_next, put_next, empty_next, List.length_cons, List.length_nil] <;> omega) | exact _root_.id rfl | exact _root_.id (fun _ => rfl) | fail) only [↓pre, post, Int.reduceEq, Int.reduceLT, Int.reduceLE, Int.reduceAdd, Int.reduceSub, Int.reduceMul, Int.reduceNeg, Nat.reduceLT, Nat.reduceSub, Nat.reduceMul, Nat.reduceAdd, Nat.reduceLeDiff, reduceIte, reduceCtorEq, Nat.reduceEqDiff, i2]
        repeat' (first
          | (refine ifP_pos (by first | assumption | omega) ?_ <;> try simp (maxSteps := 4000000) (disch := first | assumption | omega | (simp only [push_next, put_next, empty_next, List.length_cons, List.length_nil] <;> omega) | exact _root_.id rfl | exact _root_.id (fun _ => rfl) | fail) only [↓pre, post, Int.reduceEq, Int.reduceLT, Int.reduceLE, Int.reduceAdd, Int.reduceSub, Int.reduceMul, Int.reduceNeg, Nat.reduceLT, Nat.reduceSub, Nat.reduceMul, Nat.reduceAdd, Nat.reduceLeDiff, reduceIte, reduceCtorEq, Nat.reduceEqDiff, i2])
          | (refine ifP_neg (by first | assumption | omega) ?_ <;> try simp (maxSteps := 4000000) (disch := first | assumption | omega | (simp only [push_next, put_next, empty_next, List.length_cons, List.length_nil] <;> omega) | exact _root_.id rfl | exact _root_.id (fun _ => rfl) | fail) only [↓pre, post, Int.reduceEq, Int.reduceLT, Int.reduceLE, Int.reduceAdd, Int.reduceSub, Int.reduceMul, Int.reduceNeg, Nat.reduceLT, Nat.reduceSub, Nat.reduceMul, Nat.reduceAdd, Nat.reduceLeDiff, reduceIte, reduceCtorEq, Nat.reduceEqDiff, i2])
          | (refine ifP_intro (fun hyp => ?_) (fun hyp => ?_) <;> first | simp (maxSteps := 4000000) (disch := first | assumption | omega | (simp only [push_next, put_next, empty_next, List.length_cons, List.length_nil] <;> omega) | exact _root_.id rfl | exact _root_.id (fun _ => rfl) | fail) only [↓pre, post, Int.reduceEq, Int.reduceLT, Int.reduceLE, Int.reduceAdd, Int.reduceSub, Int.reduceMul, Int.reduceNeg, Nat.reduceLT, Nat.reduceSub, Nat.reduceMul, Nat.reduceAdd, Nat.reduceLeDiff, reduceIte, reduceCtorEq, Nat.reduceEqDiff, i2, eq_false hyp] | simp (maxSteps := 4000000) (disch := first | assumption | omega | (simp only [push_next, put_next, empty_next, List.length_cons, List.length_nil] <;> omega) | exact _root_.id rfl | exact _root_.id (fun _ => rfl) | fail) only [↓pre, post, Int.reduceEq, Int.reduceLT, Int.reduceLE, Int.reduceAdd, Int.reduceSub, Int.reduceMul, Int.reduceNeg, Nat.reduceLT, Nat.reduceSub, Nat.reduceMul, Nat.reduceAdd, Nat.reduceLeDiff, reduceIte, reduceCtorEq, Nat.reduceEqDiff, i2, eq_true hyp] | skip))
        · rw [if_pos ⟨⟨s, hs1, by omega, by rw [← hs2]; assumption⟩, fun x hx h => (fun h' => (by assumption : ¬ minF (nth d 0) (List.drop 1 d) < -1) h') ((hmem (by omega)).2 ⟨x, hx, h⟩), hbad.1 hyp⟩]
        · rw [if_neg (fun h => hyp (hbad.2 h.2.2))]
    · rw [if_neg]; rintro ⟨⟨s, e, _, e2⟩, _⟩
      exact hyp (by rw [hTs s e]; exact e2)
    · rw [if_neg]; rintro ⟨⟨s, e, e1, e2⟩, _⟩; omega
  · try simp (maxSteps := 4000000) (disch := first | assumption | omega | (simp only [push_next, put_next, empty_next, List.length_cons, List.length_nil] <;> omega) | exact _root_.id rfl | exact _root_.id (fun _ => rfl) | fail) only [↓pre, post, Int.reduceEq, Int.reduceLT, Int.reduceLE, Int.reduceAdd, Int.reduceSub, Int.reduceMul, Int.reduceNeg, Nat.reduceLT, Nat.reduceSub, Nat.reduceMul, Nat.reduceAdd, Nat.reduceLeDiff, reduceIte, reduceCtorEq, Nat.reduceEqDiff, ready_v, eq_false hr]
    repeat' (first
      | (refine ifP_pos (by first | assumption | omega) ?_ <;> try simp (maxSteps := 4000000) (disch := first | assumption | omega | (simp only [push_next, put_next, empty_next, List.length_cons, List.length_nil] <;> omega) | exact _root_.id rfl | exact _root_.id (fun _ => rfl) | fail) only [↓pre, post, Int.reduceEq, Int.reduceLT, Int.reduceLE, Int.reduceAdd, Int.reduceSub, Int.reduceMul, Int.reduceNeg, Nat.reduceLT, Nat.reduceSub, Nat.reduceMul, Nat.reduceAdd, Nat.reduceLeDiff, reduceIte, reduceCtorEq, Nat.reduceEqDiff, ready_v, eq_false hr])
      | (refine ifP_neg (by first | assumption | omega) ?_ <;> try simp (maxSteps := 4000000) (disch := first | assumption | omega | (simp only [push_next, put_next, empty_next, List.length_cons, List.length_nil] <;> omega) | exact _root_.id rfl | exact _root_.id (fun _ => rfl) | fail) only [↓pre, post, Int.reduceEq, Int.reduceLT, Int.reduceLE, Int.reduceAdd, Int.reduceSub, Int.reduceMul, Int.reduceNeg, Nat.reduceLT, Nat.reduceSub, Nat.reduceMul, Nat.reduceAdd, Nat.reduceLeDiff, reduceIte, reduceCtorEq, Nat.reduceEqDiff, ready_v, eq_false hr])
      | (refine ifP_intro (fun hyp => ?_) (fun hyp => ?_) <;> first | simp (maxSteps := 4000000) (disch := first | assumption | omega | (simp only [push_next, put_next, empty_next, List.length_cons, List.length_nil] <;> omega) | exact _root_.id rfl | exact _root_.id (fun _ => rfl) | fail) only [↓pre, post, Int.reduceEq, Int.reduceLT, Int.reduceLE, Int.reduceAdd, Int.reduceSub, Int.reduceMul, Int.reduceNeg, Nat.reduceLT, Nat.reduceSub, Nat.reduceMul, Nat.reduceAdd, Nat.reduceLeDiff, reduceIte, reduceCtorEq, Nat.reduceEqDiff, ready_v, eq_false hr, eq_false hyp] | simp (maxSteps := 4000000) (disch := first | assumption | omega | (simp only [push_next, put_next, empty_next, List.length_cons, List.length_nil] <;> omega) | exact _root_.id rfl | exact _root_.id (fun _ => rfl) | fail) only [↓pre, post, Int.reduceEq, Int.reduceLT, Int.reduceLE, Int.reduceAdd, Int.reduceSub, Int.reduceMul, Int.reduceNeg, Nat.reduceLT, Nat.reduceSub, Nat.reduceMul, Nat.reduceAdd, Nat.reduceLeDiff, reduceIte, reduceCtorEq, Nat.reduceEqDiff, ready_v, eq_false hr, eq_true hyp] | skip))

end Go.Proofs.Ytcammfdljiingaa

/-
  Check of the reference model.
-/
set_option linter.unusedSimpArgs false
set_option linter.unusedVariables false
set_option maxHeartbeats 8000000
namespace Go.Proofs.Ytcammfdljiingaa
open Go Go.Abs

theorem costR_line {l : List Item} {w : Int} {p b : Nat} (hv : valid l) (hw : widthOk w) : (0 ≤ costR l w (skip l p : Nat) (b : Nat) ↔ lineOk l w (skip l p) b) ∧ (lineOk l w (skip l p) b → costR l w (skip l p : Nat) (b : Nat) = costN l w (skip l p) b) := by
  have h2 : lineOk l w (skip l p) b → costR l w (skip l p : Nat) (b : Nat) = costN l w (skip l p) b := fun h => by
    rw [costR, if_pos ⟨⟨hw, hv⟩, by omega, by omega, by simpa using h⟩]; simp
  refine ⟨⟨fun h => ?_, fun h => by rw [h2 h]; exact (cost_bound hv hw h).1⟩, h2⟩
  unfold costR at h
  split at h
  · rename_i hc; simpa using hc.2.2.2
  · omega

theorem mem_of_lineOk {l : List Item} {w : Int} {p b : Nat} (h : lineOk l w (skip l p) b) : (b, natS l (skip l p) b, costN l w (skip l p) b) ∈ linesAt l w p := by
  unfold linesAt linesOf
  rw [List.mem_filterMap]
  refine ⟨b, ?_, by rw [lineAt, if_pos h]⟩
  rw [List.mem_range'_1]
  have h1 := h.1
  have h2 := h.2.1
  omega

open Classical in
theorem refCheck_v {l : List Item} {t t2 t3 : Tok} {w : Int} {ls : List Ln} {d : List Int} (ht : Pt t) (ht2 : Pt t2) (ht3 : Pt t3) (hl : l.length < 100000) (hls : ls.length ≤ 100000) (hi : ∀ x ∈ ls, i64 x.b) (hd : d.length ≤ 100000) (hdi : ∀ x ∈ d, i64 x) :
    PV F 22 [.sl (items l) t, .int .i64 w, .sl (ls.map Ln.toA) t2, .sl (d.map (.int .i64)) t3] = some (.int .i64 (if widthOk w ∧ valid l then (if checkS l w ls d then 0 else 24) else 1)) := by
  refine PV_wp (fn := c22) rfl ?_
  dsimp only [c22]
  by_cases hr : widthOk w ∧ valid l
  · have hv := hr.2
    have hw := hr.1
    have hl1 := hv.1
    have hl2 := hv.2.1
    rw [if_pos hr]
    obtain ⟨T, B, hT, hsv⟩ : ∃ (T : Int) (B : Bool), (B = true → sumF l w 0 0 ls = some (l.length, T)) ∧ PV F 48 [.sl (items l) t, .int .i64 w, .sl (ls.map Ln.toA) t2] = some (.tup [.int .i64 T, .bool B]) ∧ (∀ s, sumF l w 0 0 ls = some (l.length, s) → B = true ∧ T = s) := by
      have hsv := refSum_v (t := t) (t2 := t2) ht ht2 hv hw hls hi
      cases hs : sumF l w 0 0 ls with
      | none =>
        rw [hs] at hsv
        exact ⟨0, false, by simp, hsv, by simp⟩
      | some ps =>
        obtain ⟨p, s⟩ := ps
        rw [hs] at hsv
        refine ⟨s, decide (p = l.length), fun h => by rw [of_decide_eq_true h], hsv, fun s' e => ?_⟩
        simp only [Option.some.injEq, Prod.mk.injEq] at e
        obtain ⟨rfl, rfl⟩ := e
        simp
    obtain ⟨hsv, hTs⟩ := hsv
    have hrc : ∀ a b, PV F 28 [.sl (items l) t, .int .i64 a, .int .i64 b, .int .i64 w] = some (.int .i64 (costR l w a b)) := fun a b => refCost_v ht (by omega)
    have no1 : ¬ (B = true ∧ d.length = l.length ∧ nth d (l.length - 1) = T) → ¬ checkS l w ls d := fun h ⟨⟨s, e, e1, e2⟩, _⟩ => h ⟨(hTs s e).1, e1, by rw [(hTs s e).2]; exact e2⟩
    have hG : checkS l w ls d ↔ (B = true ∧ d.length = l.length ∧ nth d (l.length - 1) = T) ∧ (∀ x ∈ d, ¬ x < -1) ∧ ∀ q, q < l.length → 0 ≤ valP d q → (q = 0 ∨ (nth l (q - 1)).kind ≠ 0) → ∀ x ∈ linesAt l w q, ¬ badLine d (valP d q) x := by
      constructor
      · rintro ⟨⟨s, e, e1, e2⟩, h2, h3⟩
        exact ⟨⟨(hTs s e).1, e1, by rw [(hTs s e).2]; exact e2⟩, h2, fun q h4 h5 h6 x h7 h8 => h3 ⟨q, h4, h5, h6, x, h7, h8⟩⟩
      · rintro ⟨⟨h1, h2, h3⟩, h4, h5⟩
        exact ⟨⟨T, hT h1, h2, h3⟩, h4, fun ⟨q, k1, k2, k3, x, k4, k5⟩ => h5 q k1 k2 k3 x k4 k5⟩
    try simp (maxSteps := 4000000) (disch := first | assumption | omega | (simp only [push_next, put_next, empty_next, List.length_cons, List.length_nil] <;> omega) | exact _root_.id rfl | exact _root_.id (fun _ => rfl) | fail) only [↓pre, post, Int.reduceEq, Int.reduceLT, Int.reduceLE, Int.reduceAdd, Int.reduceSub, Int.reduceMul, Int.reduceNeg, Nat.reduceLT, Nat.reduceSub, Nat.reduceMul, Nat.reduceAdd, Nat.reduceLeDiff, reduceIte, reduceCtorEq, Nat.reduceEqDiff, refReady_v, hsv, eq_true hr]
    repeat' (first
      | (refine ifP_pos (by first | assumption | omega) ?_ <;> try simp (maxSteps := 4000000) (disch := first | assumption | omega | (simp only [push_next, put_next, empty_next, List.length_cons, List.length_nil] <;> omega) | exact _root_.id rfl | exact _root_.id (fun _ => rfl) | fail) only [↓pre, post, Int.reduceEq, Int.reduceLT, Int.reduceLE, Int.reduceAdd, Int.reduceSub, Int.reduceMul, Int.reduceNeg, Nat.reduceLT, Nat.reduceSub, Nat.reduceMul, Nat.reduceAdd, Nat.reduceLeDiff, reduceIte, reduceCtorEq, Nat.reduceEqDiff, refReady_v, hsv, eq_true hr])
      | (refine ifP_neg (by first | assumption | omega) ?_ <;> try simp (maxSteps := 4000000) (disch := first | assumption | omega | (simp only [push_next, put_next, empty_next, List.length_cons, List.length_nil] <;> omega) | exact _root_.id rfl | exact _root_.id (fun _ => rfl) | fail) only [↓pre, post, Int.reduceEq, Int.reduceLT, Int.reduceLE, Int.reduceAdd, Int.reduceSub, Int.reduceMul, Int.reduceNeg, Nat.reduceLT, Nat.reduceSub, Nat.reduceMul, Nat.reduceAdd, Nat.reduceLeDiff, reduceIte, reduceCtorEq, Nat.reduceEqDiff, refReady_v, hsv, eq_true hr])
      | (refine ifP_intro (fun hyp => ?_) (fun hyp => ?_) <;> first | simp (maxSteps := 4000000) (disch := first | assumption | omega | (simp only [push_next, put_next, empty_next, List.length_cons, List.length_nil] <;> omega) | exact _root_.id rfl | exact _root_.id (fun _ => rfl) | fail) only [↓pre, post, Int.reduceEq, Int.reduceLT, Int.reduceLE, Int.reduceAdd, Int.reduceSub, Int.reduceMul, Int.reduceNeg, Nat.reduceLT, Nat.reduceSub, Nat.reduceMul, Nat.reduceAdd, Nat.reduceLeDiff, reduceIte, reduceCtorEq, Nat.reduceEqDiff, refReady_v, hsv, eq_true hr, eq_false hyp] | simp (maxSteps := 4000000) (disch := first | assumption | omega | (simp only [push_next, put_next, empty_next, List.length_cons, List.length_nil] <;> omega) | exact _root_.id rfl | exact _root_.id (fun _ => rfl) | fail) only [↓pre, post, Int.reduceEq, Int.reduceLT, Int.reduceLE, Int.reduceAdd, Int.reduceSub, Int.reduceMul, Int.reduceNeg, Nat.reduceLT, Nat.reduceSub, Nat.reduceMul, Nat.reduceAdd, Nat.reduceLeDiff, reduceIte, reduceCtorEq, Nat.reduceEqDiff, refReady_v, hsv, eq_true hr, eq_true hyp] | skip))
    · rename_i hB hdl
      have hdl' : d.length = l.length := by omega
      refine w_loop (fun m vs h0 => ∃ (i : Nat) (x8 x9 x10 x11 x12 x13 x14 x15 x16 x17 x18 x19 x20 x21 : AVal), m = d.length - i ∧ i ≤ d.length ∧ (∀ j, j < i → ¬ nth d j < -1) ∧
        vs = [.sl (items l) t, .int .i64 w, .sl (ls.map Ln.toA) t2, .sl (d.map (.int .i64)) t3, .int .i64 0, .int .i64 T, .bool B, .int .i64 i, x8, x9, x10, x11, x12, x13, x14, x15, x16, x17, x18, x19, x20, x21]) d.length
        ⟨0, _, _, _, _, _, _, _, _, _, _, _, _, _, _, rfl, by omega, by intros; omega, rfl⟩ ?_
      rintro m vs h0 ⟨i, x8, x9, x10, x11, x12, x13, x14, x15, x16, x17, x18, x19, x20, x21, rfl, hil, hneg, rfl⟩
      try simp (maxSteps := 4000000) (disch := first | assumption | omega | (simp only [push_next, put_next, empty_next, List.length_cons, List.length_nil] <;> omega) | exact _root_.id rfl | exact _root_.id (fun _ => rfl) | fail) only [↓pre, post, Int.reduceEq, Int.reduceLT, Int.reduceLE, Int.reduceAdd, Int.reduceSub, Int.reduceMul, Int.reduceNeg, Nat.reduceLT, Nat.reduceSub, Nat.reduceMul, Nat.reduceAdd, Nat.reduceLeDiff, reduceIte, reduceCtorEq, Nat.reduceEqDiff]
      repeat' (first
        | (refine ifP_pos (by first | assumption | omega) ?_ <;> try simp (maxSteps := 4000000) (disch := first | assumption | omega | (simp only [push_next, put_next, empty_next, List.length_cons, List.length_nil] <;> omega) | exact _root_.id rfl | exact _root_.id (fun _ => rfl) | fail) only [↓pre, post, Int.reduceEq, Int.reduceLT, Int.reduceLE, Int.reduceAdd, Int.reduceSub, Int.reduceMul, Int.reduceNeg, Nat.reduceLT, Nat.reduceSub, Nat.reduceMul, Nat.reduceAdd, Nat.reduceLeDiff, reduceIte, reduceCtorEq, Nat.reduceEqDiff])
        | (refine ifP_neg (by first | assumption | omega) ?_ <;> try simp (maxSteps := 4000000) (disch := first | assumption | omega | (simp only [push_next, put_next, empty_next, List.length_cons, List.length_nil] <;> omega) | exact _root_.id rfl | exact _root_.id (fun _ => rfl) | fail) only [↓pre, post, Int.reduceEq, Int.reduceLT, Int.reduceLE, Int.reduceAdd, Int.reduceSub, Int.reduceMul, Int.reduceNeg, Nat.reduceLT, Nat.reduceSub, Nat.reduceMul, Nat.reduceAdd, Nat.reduceLeDiff, reduceIte, reduceCtorEq, Nat.reduceEqDiff])
        | (refine ifP_intro (fun hyp => ?_) (fun hyp => ?_) <;> first | simp (maxSteps := 4000000) (disch := first | assumption | omega | (simp only [push_next, put_next, empty_next, List.length_cons, List.length_nil] <;> omega) | exact _root_.id rfl | exact _root_.id (fun _ => rfl) | fail) only [↓pre, post, Int.reduceEq, Int.reduceLT, Int.reduceLE, Int.reduceAdd, Int.reduceSub, Int.reduceMul, Int.reduceNeg, Nat.reduceLT, Nat.reduceSub, Nat.reduceMul, Nat.reduceAdd, Nat.reduceLeDiff, reduceIte, reduceCtorEq, Nat.reduceEqDiff, eq_false hyp] | simp (maxSteps := 4000000) (disch := first | assumption | omega | (simp only [push_next, put_next, empty_next, List.length_cons, List.length_nil] <;> omega) | exact _root_.id rfl | exact _root_.id (fun _ => rfl) | fail) only [↓pre, post, Int.reduceEq, Int.reduceLT, Int.reduceLE, Int.reduceAdd, Int.reduceSub, Int.reduceMul, Int.reduceNeg, Nat.reduceLT, Nat.reduceSub, Nat.reduceMul, Nat.reduceAdd, Nat.reduceLeDiff, reduceIte, reduceCtorEq, Nat.reduceEqDiff, eq_true hyp] | skip))
      · rw [if_neg]; intro h; exact (hG.1 h).2.1 _ (nth_mem (by omega)) hyp
      · refine lp_n ⟨d.length - (i + 1), by omega, i + 1, _, _, _, _, _, _, _, _, _, _, _, _, _, _, rfl, by omega, fun j hj => ?_, rfl⟩
        by_cases e : j = i
        · subst e; exact hyp
        · exact hneg j (by omega)
      have hneg' : ∀ x ∈ d, ¬ x < -1 := fun x hx => by
        obtain ⟨k, hk, rfl⟩ := List.getElem_of_mem hx
        rw [← nth_eq hk]; exact hneg k (by omega)
      refine w_loop (fun m vs h0 => ∃ (p : Nat) (z : Int) (x9 x10 x11 x12 x13 x14 x15 x16 x17 x18 x19 x20 x21 : AVal), m = l.length - p ∧ z = (p : Int) - 1 ∧ p ≤ l.length ∧ (∀ q, q < p → 0 ≤ valP d q → (q = 0 ∨ (nth l (q - 1)).kind ≠ 0) → ∀ x ∈ linesAt l w q, ¬ badLine d (valP d q) x) ∧
        vs = [.sl (items l) t, .int .i64 w, .sl (ls.map Ln.toA) t2, .sl (d.map (.int .i64)) t3, .int .i64 0, .int .i64 T, .bool B, .int .i64 i, .int .i64 z, x9, x10, x11, x12, x13, x14, x15, x16, x17, x18, x19, x20, x21]) l.length
        ⟨0, -1, _, _, _, _, _, _, _, _, _, _, _, _, _, rfl, by omega, by omega, by intros; omega, rfl⟩ ?_
      rintro m vs h0 ⟨p, z, x9, x10, x11, x12, x13, x14, x15, x16, x17, x18, x19, x20, x21, rfl, hz, hp, hgood, rfl⟩
      have hst : p ≤ l.length → PV F 29 [.sl (items l) t, .int .i64 z] = some (.int .i64 (skip l p)) := fun h => refStart_v p hz (by omega) (by omega)
      have hzt : z.toNat = p - 1 := by omega
      have hskl : skip l p ≤ l.length := skip_le hp
      have hnext : ∀ q, (0 ≤ valP d p → (p = 0 ∨ (nth l (p - 1)).kind ≠ 0) → ∀ x ∈ linesAt l w p, ¬ badLine d (valP d p) x) → q < p + 1 → 0 ≤ valP d q → (q = 0 ∨ (nth l (q - 1)).kind ≠ 0) → ∀ x ∈ linesAt l w q, ¬ badLine d (valP d q) x := fun q h1 h2 => by
        by_cases e : q = p
        · subst e; exact h1
        · exact hgood q (by omega)
      have hvp : 0 < p → valP d p = nth d (p - 1) := fun h => by simp only [valP]; rw [if_neg (by omega)]
      have hv0 : p = 0 → valP d p = 0 := fun h => by simp only [valP]; rw [if_pos h]
      try simp (maxSteps := 4000000) (disch := first | assumption | omega | (simp only [push_next, put_next, empty_next, List.length_cons, List.length_nil] <;> omega) | exact _root_.id rfl | exact _root_.id (fun _ => rfl) | fail) only [↓pre, post, Int.reduceEq, Int.reduceLT, Int.reduceLE, Int.reduceAdd, Int.reduceSub, Int.reduceMul, Int.reduceNeg, Nat.reduceLT, Nat.reduceSub, Nat.reduceMul, Nat.reduceAdd, Nat.reduceLeDiff, reduceIte, reduceCtorEq, Nat.reduceEqDiff, hst, hzt, Item.toA]
      repeat' (first
        | (refine ifP_pos (by first | assumption | omega) ?_ <;> try simp (maxSteps := 4000000) (disch := first | assumption | omega | (simp only [push_next, put_next, empty_next, List.length_cons, List.length_nil] <;> omega) | exact _root_.id rfl | exact _root_.id (fun _ => rfl) | fail) only [↓pre, post, Int.reduceEq, Int.reduceLT, Int.reduceLE, Int.reduceAdd, Int.reduceSub, Int.reduceMul, Int.reduceNeg, Nat.reduceLT, Nat.reduceSub, Nat.reduceMul, Nat.reduceAdd, Nat.reduceLeDiff, reduceIte, reduceCtorEq, Nat.reduceEqDiff, hst, hzt, Item.toA])
        | (refine ifP_neg (by first | assumption | omega) ?_ <;> try simp (maxSteps := 4000000) (disch := first | assumption | omega | (simp only [push_next, put_next, empty_next, List.length_cons, List.length_nil] <;> omega) | exact _root_.id rfl | exact _root_.id (fun _ => rfl) | fail) only [↓pre, post, Int.reduceEq, Int.reduceLT, Int.reduceLE, Int.reduceAdd, Int.reduceSub, Int.reduceMul, Int.reduceNeg, Nat.reduceLT, Nat.reduceSub, Nat.reduceMul, Nat.reduceAdd, Nat.reduceLeDiff, reduceIte, reduceCtorEq, Nat.reduceEqDiff, hst, hzt, Item.toA])
        | (refine ifP_intro (fun hyp => ?_) (fun hyp => ?_) <;> first | simp (maxSteps := 4000000) (disch := first | assumption | omega | (simp only [push_next, put_next, empty_next, List.length_cons, List.length_nil] <;> omega) | exact _root_.id rfl | exact _root_.id (fun _ => rfl) | fail) only [↓pre, post, Int.reduceEq, Int.reduceLT, Int.reduceLE, Int.reduceAdd, Int.reduceSub, Int.reduceMul, Int.reduceNeg, Nat.reduceLT, Nat.reduceSub, Nat.reduceMul, Nat.reduceAdd, Nat.reduceLeDiff, reduceIte, reduceCtorEq, Nat.reduceEqDiff, hst, hzt, Item.toA, eq_false hyp] | simp (maxSteps := 4000000) (disch := first | assumption | omega | (simp only [push_next, put_next, empty_next, List.length_cons, List.length_nil] <;> omega) | exact _root_.id rfl | exact _root_.id (fun _ => rfl) | fail) only [↓pre, post, Int.reduceEq, Int.reduceLT, Int.reduceLE, Int.reduceAdd, Int.reduceSub, Int.reduceMul, Int.reduceNeg, Nat.reduceLT, Nat.reduceSub, Nat.reduceMul, Nat.reduceAdd, Nat.reduceLeDiff, reduceIte, reduceCtorEq, Nat.reduceEqDiff, hst, hzt, Item.toA, eq_true hyp] | skip))
      · exact lp_n ⟨l.length - (p + 1), by omega, p + 1, z + 1, _, _, _, _, _, _, _, _, _, _, _, _, _, rfl, by omega, by omega, fun q hq => hnext q (fun h => by rw [hvp (by omega)] at h; omega) hq, rfl⟩
      · exact lp_n ⟨l.length - (p + 1), by omega, p + 1, z + 1, _, _, _, _, _, _, _, _, _, _, _, _, _, rfl, by omega, by omega, fun q hq => hnext q (fun _ h => by rcases h with h | h; omega; exact absurd hyp h) hq, rfl⟩
      · refine w_loop (fun m vs h0 => ∃ (b : Nat) (vv : Int) (x12 x13 x14 x15 x16 x17 x18 x19 x20 x21 : AVal), m = l.length + 1 - b ∧ vv = valP d p ∧ skip l p + 1 ≤ b ∧ b ≤ l.length + 1 ∧ (∀ x ∈ linesAt l w p, x.1 < b → ¬ badLine d (valP d p) x) ∧
          vs = [.sl (items l) t, .int .i64 w, .sl (ls.map Ln.toA) t2, .sl (d.map (.int .i64)) t3, .int .i64 0, .int .i64 T, .bool B, .int .i64 i, .int .i64 z, .int .i64 vv, .int .i64 (skip l p), .int .i64 b, x12, x13, x14, x15, x16, x17, x18, x19, x20, x21]) (l.length - skip l p)
          ⟨skip l p + 1, _, _, _, _, _, _, _, _, _, _, _, by omega, by first | exact (hvp (by omega)).symm | exact (hv0 (by omega)).symm, by omega, by omega, fun x hx hlt => by have := (mem_linesAt hx).1.1; omega, rfl⟩ ?_
        rintro m vs h0 ⟨b, vv, x12, x13, x14, x15, x16, x17, x18, x19, x20, x21, rfl, hvv, hb1, hb2, hnb, rfl⟩
        have hcl := costR_line (l := l) (w := w) (p := p) (b := b) hv hw
        have hvp0 : 0 ≤ valP d p := by first | (rw [hvp (by omega)]; omega) | (rw [hv0 (by omega)]; omega)
        have hkp : p = 0 ∨ (nth l (p - 1)).kind ≠ 0 := by first | exact .inl (by omega) | exact .inr (by assumption)
        have hvi : i64 (valP d p) := by
          unfold valP
          split
          · unfold i64; omega
          · exact nth_i64 hdi _
        have hdb : i64 (nth d (b - 1)) := nth_i64 hdi _
        obtain ⟨vi1, vi2⟩ := hvi
        obtain ⟨db1, db2⟩ := hdb
        have hstep : ∀ bb, bb = b → (lineOk l w (skip l p) b → ¬ badLine d (valP d p) (b, natS l (skip l p) b, costN l w (skip l p) b)) → ∀ x ∈ linesAt l w p, x.1 < bb + 1 → ¬ badLine d (valP d p) x := fun bb e h x hx hlt => by
          subst e
          by_cases e : x.1 = bb
          · obtain ⟨m1, m2, m3, m4, m5⟩ := mem_linesAt hx
            have e2 : x = (bb, natS l (skip l p) bb, costN l w (skip l p) bb) := by
              rw [e] at m4 m5
              obtain ⟨x1, x2, x3⟩ := x
              simp only at e m4 m5
              rw [e, m4, m5]
            rw [e] at m1
            rw [e2]; exact h m1
          · exact hnb x hx (by omega)
        try simp (maxSteps := 4000000) (disch := first | assumption | omega | (simp only [push_next, put_next, empty_next, List.length_cons, List.length_nil] <;> omega) | exact _root_.id rfl | exact _root_.id (fun _ => rfl) | fail) only [↓pre, post, Int.reduceEq, Int.reduceLT, Int.reduceLE, Int.reduceAdd, Int.reduceSub, Int.reduceMul, Int.reduceNeg, Nat.reduceLT, Nat.reduceSub, Nat.reduceMul, Nat.reduceAdd, Nat.reduceLeDiff, reduceIte, reduceCtorEq, Nat.reduceEqDiff, hrc]
        repeat' (first
          | (refine ifP_pos (by first | assumption | omega) ?_ <;> try simp (maxSteps := 4000000) (disch := first | assumption | omega | (simp only [push_next, put_next, empty_next, List.length_cons, List.length_nil] <;> omega) | exact _root_.id rfl | exact _root_.id (fun _ => rfl) | fail) only [↓pre, post, Int.reduceEq, Int.reduceLT, Int.reduceLE, Int.reduceAdd, Int.reduceSub, Int.reduceMul, Int.reduceNeg, Nat.reduceLT, Nat.reduceSub, Nat.reduceMul, Nat.reduceAdd, Nat.reduceLeDiff, reduceIte, reduceCtorEq, Nat.reduceEqDiff, hrc])
          | (refine ifP_neg (by first | assumption | omega) ?_ <;> try simp (maxSteps := 4000000) (disch := first | assumption | omega | (simp only [push_next, put_next, empty_next, List.length_cons, List.length_nil] <;> omega) | exact _root_.id rfl | exact _root_.id (fun _ => rfl) | fail) only [↓pre, post, Int.reduceEq, Int.reduceLT, Int.reduceLE, Int.reduceAdd, Int.reduceSub, Int.reduceMul, Int.reduceNeg, Nat.reduceLT, Nat.reduceSub, Nat.reduceMul, Nat.reduceAdd, Nat.reduceLeDiff, reduceIte, reduceCtorEq, Nat.reduceEqDiff, hrc])
          | (refine ifP_intro (fun hyp => ?_) (fun hyp => ?_) <;> first | simp (maxSteps := 4000000) (disch := first | assumption | omega | (simp only [push_next, put_next, empty_next, List.length_cons, List.length_nil] <;> omega) | exact _root_.id rfl | exact _root_.id (fun _ => rfl) | fail) only [↓pre, post, Int.reduceEq, Int.reduceLT, Int.reduceLE, Int.reduceAdd, Int.reduceSub, Int.reduceMul, Int.reduceNeg, Nat.reduceLT, Nat.reduceSub, Nat.reduceMul, Nat.reduceAdd, Nat.reduceLeDiff, reduceIte, reduceCtorEq, Nat.reduceEqDiff, hrc, eq_false hyp] | simp (maxSteps := 4000000) (disch := first | assumption | omega | (simp only [push_next, put_next, empty_next, List.length_cons, List.length_nil] <;> omega) | exact _root_.id rfl | exact _root_.id (fun _ => rfl) | fail) only [↓pre, post, Int.reduceEq, Int.reduceLT, Int.reduceLE, Int.reduceAdd, Int.reduceSub, Int.reduceMul, Int.reduceNeg, Nat.reduceLT, Nat.reduceSub, Nat.reduceMul, Nat.reduceAdd, Nat.reduceLeDiff, reduceIte, reduceCtorEq, Nat.reduceEqDiff, hrc, eq_true hyp] | skip))
        all_goals first
          | (have hlo := hcl.1.1 (by assumption)
             rw [if_neg]
             intro h
             refine (hG.1 h).2.2 p (by omega) hvp0 hkp _ (mem_of_lineOk hlo) ?_
             have := hcl.2 hlo
             unfold badLine
             simp only
             omega)
          | exact lp_n ⟨l.length + 1 - (b + 1), by omega, b + 1, _, _, _, _, _, _, _, _, _, _, _, rfl, hvv, by omega, by omega, hstep b rfl (fun hlo => by have h1 := hcl.2 hlo; have h2 := hcl.1.2 hlo; unfold badLine; simp only; omega), rfl⟩
          | exact lp_n ⟨l.length - (p + 1), by omega, p + 1, z + 1, _, _, _, _, _, _, _, _, _, _, _, _, _, rfl, by omega, by omega, fun q hq => hnext q (fun _ _ x hx => hnb x hx (by have := (mem_linesAt hx).2.2.1; omega)) hq, rfl⟩
      · refine w_loop (fun m vs h0 => ∃ (b : Nat) (vv : Int) (x12 x13 x14 x15 x16 x17 x18 x19 x20 x21 : AVal), m = l.length + 1 - b ∧ vv = valP d p ∧ skip l p + 1 ≤ b ∧ b ≤ l.length + 1 ∧ (∀ x ∈ linesAt l w p, x.1 < b → ¬ badLine d (valP d p) x) ∧
          vs = [.sl (items l) t, .int .i64 w, .sl (ls.map Ln.toA) t2, .sl (d.map (.int .i64)) t3, .int .i64 0, .int .i64 T, .bool B, .int .i64 i, .int .i64 z, .int .i64 vv, .int .i64 (skip l p), .int .i64 b, x12, x13, x14, x15, x16, x17, x18, x19, x20, x21]) (l.length - skip l p)
          ⟨skip l p + 1, _, _, _, _, _, _, _, _, _, _, _, by omega, by first | exact (hvp (by omega)).symm | exact (hv0 (by omega)).symm, by omega, by omega, fun x hx hlt => by have := (mem_linesAt hx).1.1; omega, rfl⟩ ?_
        rintro m vs h0 ⟨b, vv, x12, x13, x14, x15, x16, x17, x18, x19, x20, x21, rfl, hvv, hb1, hb2, hnb, rfl⟩
        have hcl := costR_line (l := l) (w := w) (p := p) (b := b) hv hw
        have hvp0 : 0 ≤ valP d p := by first | (rw [hvp (by omega)]; omega) | (rw [hv0 (by omega)]; omega)
        have hkp : p = 0 ∨ (nth l (p - 1)).kind ≠ 0 := by first | exact .inl (by omega) | exact .inr (by assumption)
        have hvi : i64 (valP d p) := by
          unfold valP
          split
          · unfold i64; omega
          · exact nth_i64 hdi _
        have hdb : i64 (nth d (b - 1)) := nth_i64 hdi _
        obtain ⟨vi1, vi2⟩ := hvi
        obtain ⟨db1, db2⟩ := hdb
        have hstep : ∀ bb, bb = b → (lineOk l w (skip l p) b → ¬ badLine d (valP d p) (b, natS l (skip l p) b, costN l w (skip l p) b)) → ∀ x ∈ linesAt l w p, x.1 < bb + 1 → ¬ badLine d (valP d p) x := fun bb e h x hx hlt => by
          subst e
          by_cases e : x.1 = bb
          · obtain ⟨m1, m2, m3, m4, m5⟩ := mem_linesAt hx
            have e2 : x = (bb, natS l (skip l p) bb, costN l w (skip l p) bb) := by
              rw [e] at m4 m5
              obtain ⟨x1, x2, x3⟩ := x
              simp only at e m4 m5
              rw [e, m4, m5]
            rw [e] at m1
            rw [e2]; exact h m1
          · exact hnb x hx (by omega)
        try simp (maxSteps := 4000000) (disch := first | assumption | omega | (simp only [push_next, put_next, empty_next, List.length_cons, List.length_nil] <;> omega) | exact _root_.id rfl | exact _root_.id (fun _ => rfl) | fail) only [↓pre, post, Int.reduceEq, Int.reduceLT, Int.reduceLE, Int.reduceAdd, Int.reduceSub, Int.reduceMul, Int.reduceNeg, Nat.reduceLT, Nat.reduceSub, Nat.reduceMul, Nat.reduceAdd, Nat.reduceLeDiff, reduceIte, reduceCtorEq, Nat.reduceEqDiff, hrc]
        repeat' (first
          | (refine ifP_pos (by first | assumption | omega) ?_ <;> try simp (maxSteps := 4000000) (disch := first | assumption | omega | (simp only [push_next, put_next, empty_next, List.length_cons, List.length_nil] <;> omega) | exact _root_.id rfl | exact _root_.id (fun _ => rfl) | fail) only [↓pre, post, Int.reduceEq, Int.reduceLT, Int.reduceLE, Int.reduceAdd, Int.reduceSub, Int.reduceMul, Int.reduceNeg, Nat.reduceLT, Nat.reduceSub, Nat.reduceMul, Nat.reduceAdd, Nat.reduceLeDiff, reduceIte, reduceCtorEq, Nat.reduceEqDiff, hrc])
          | (refine ifP_neg (by first | assumption | omega) ?_ <;> try simp (maxSteps := 4000000) (disch := first | assumption | omega | (simp only [push_next, put_next, empty_next, List.length_cons, List.length_nil] <;> omega) | exact _root_.id rfl | exact _root_.id (fun _ => rfl) | fail) only [↓pre, post, Int.reduceEq, Int.reduceLT, Int.reduceLE, Int.reduceAdd, Int.reduceSub, Int.reduceMul, Int.reduceNeg, Nat.reduceLT, Nat.reduceSub, Nat.reduceMul, Nat.reduceAdd, Nat.reduceLeDiff, reduceIte, reduceCtorEq, Nat.reduceEqDiff, hrc])
          | (refine ifP_intro (fun hyp => ?_) (fun hyp => ?_) <;> first | simp (maxSteps := 4000000) (disch := first | assumption | omega | (simp only [push_next, put_next, empty_next, List.length_cons, List.length_nil] <;> omega) | exact _root_.id rfl | exact _root_.id (fun _ => rfl) | fail) only [↓pre, post, Int.reduceEq, Int.reduceLT, Int.reduceLE, Int.reduceAdd, Int.reduceSub, Int.reduceMul, Int.reduceNeg, Nat.reduceLT, Nat.reduceSub, Nat.reduceMul, Nat.reduceAdd, Nat.reduceLeDiff, reduceIte, reduceCtorEq, Nat.reduceEqDiff, hrc, eq_false hyp] | simp (maxSteps := 4000000) (disch := first | assumption | omega | (simp only [push_next, put_next, empty_next, List.length_cons, List.length_nil] <;> omega) | exact _root_.id rfl | exact _root_.id (fun _ => rfl) | fail) only [↓pre, post, Int.reduceEq, Int.reduceLT, Int.reduceLE, Int.reduceAdd, Int.reduceSub, Int.reduceMul, Int.reduceNeg, Nat.reduceLT, Nat.reduceSub, Nat.reduceMul, Nat.reduceAdd, Nat.reduceLeDiff, reduceIte, reduceCtorEq, Nat.reduceEqDiff, hrc, eq_true hyp] | skip))
        all_goals first
          | (have hlo := hcl.1.1 (by assumption)
             rw [if_neg]
             intro h
             refine (hG.1 h).2.2 p (by omega) hvp0 hkp _ (mem_of_lineOk hlo) ?_
             have := hcl.2 hlo
             unfold badLine
             simp only
             omega)
          | exact lp_n ⟨l.length + 1 - (b + 1), by omega, b + 1, _, _, _, _, _, _, _, _, _, _, _, rfl, hvv, by omega, by omega, hstep b rfl (fun hlo => by have h1 := hcl.2 hlo; have h2 := hcl.1.2 hlo; unfold badLine; simp only; omega), rfl⟩
          | exact lp_n ⟨l.length - (p + 1), by omega, p + 1, z + 1, _, _, _, _, _, _, _, _, _, _, _, _, _, rfl, by omega, by omega, fun q hq => hnext q (fun _ _ x hx => hnb x hx (by have := (mem_linesAt hx).2.2.1; omega)) hq, rfl⟩
      · rw [if_pos (hG.2 ⟨⟨hB, hdl', by assumption⟩, hneg', fun q hq => hgood q (by omega)⟩)]
    · rw [if_neg (no1 (fun h => hyp h.2.2))]
    · rw [if_neg (no1 (fun h => by omega))]
    · rw [if_neg (no1 (fun h => hyp h.1))]
  · try simp (maxSteps := 4000000) (disch := first | assumption | omega | (simp only [push_next, put_next, empty_next, List.length_cons, List.length_nil] <;> omega) | exact _root_.id rfl | exact _root_.id (fun _ => rfl) | fail) only [↓pre, post, Int.reduceEq, Int.reduceLT, Int.reduceLE, Int.reduceAdd, Int.reduceSub, Int.reduceMul, Int.reduceNeg, Nat.reduceLT, Nat.reduceSub, Nat.reduceMul, Nat.reduceAdd, Nat.reduceLeDiff, reduceIte, reduceCtorEq, Nat.reduceEqDiff, refReady_v, eq_false hr]
    repeat' (first
      | (refine ifP_pos (by first | assumption | omega) ?_ <;> try simp (maxSteps := 4000000) (disch := first | assumption | omega | (simp only [push_next, put_next, empty_next, List.length_cons, List.length_nil] <;> omega) | exact _root_.id rfl | exact _root_.id (fun _ => rfl) | fail) only [↓pre, post, Int.reduceEq, Int.reduceLT, Int.reduceLE, Int.reduceAdd, Int.reduceSub, Int.reduceMul, Int.reduceNeg, Nat.reduceLT, Nat.reduceSub, Nat.reduceMul, Nat.reduceAdd, Nat.reduceLeDiff, reduceIte, reduceCtorEq, Nat.reduceEqDiff, refReady_v, eq_false hr])
      | (refine ifP_neg (by first | assumption | omega) ?_ <;> try simp (maxSteps := 4000000) (disch := first | assumption | omega | (simp only [push_next, put_next, empty_next, List.length_cons, List.length_nil] <;> omega) | exact _root_.id rfl | exact _root_.id (fun _ => rfl) | fail) only [↓pre, post, Int.reduceEq, Int.reduceLT, Int.reduceLE, Int.reduceAdd, Int.reduceSub, Int.reduceMul, Int.reduceNeg, Nat.reduceLT, Nat.reduceSub, Nat.reduceMul, Nat.reduceAdd, Nat.reduceLeDiff, reduceIte, reduceCtorEq, Nat.reduceEqDiff, refReady_v, eq_false hr])
      | (refine ifP_intro (fun hyp => ?_) (fun hyp => ?_) <;> first | simp (maxSteps := 4000000) (disch := first | assumption | omega | (simp only [push_next, put_next, empty_next, List.length_cons, List.length_nil] <;> omega) | exact _root_.id rfl | exact _root_.id (fun _ => rfl) | fail) only [↓pre, post, Int.reduceEq, Int.reduceLT, Int.reduceLE, Int.reduceAdd, Int.reduceSub, Int.reduceMul, Int.reduceNeg, Nat.reduceLT, Nat.reduceSub, Nat.reduceMul, Nat.reduceAdd, Nat.reduceLeDiff, reduceIte, reduceCtorEq, Nat.reduceEqDiff, refReady_v, eq_false hr, eq_false hyp] | simp (maxSteps := 4000000) (disch := first | assumption | omega | (simp only [push_next, put_next, empty_next, List.length_cons, List.length_nil] <;> omega) | exact _root_.id rfl | exact _root_.id (fun _ => rfl) | fail) only [↓pre, post, Int.reduceEq, Int.reduceLT, Int.reduceLE, Int.reduceAdd, Int.reduceSub, Int.reduceMul, Int.reduceNeg, Nat.reduceLT, Nat.reduceSub, Nat.reduceMul, Nat.reduceAdd, Nat.reduceLeDiff, reduceIte, reduceCtorEq, Nat.reduceEqDiff, refReady_v, eq_false hr, eq_true hyp] | skip))

end Go.Proofs.Ytcammfdljiingaa

/-
  The plans of the reference model, walked.
-/
set_option linter.unusedSimpArgs false
set_option linter.unusedVariables false
set_option maxHeartbeats 8000000
namespace Go.Proofs.Ytcammfdljiingaa
open Go Go.Abs

structure Pl where
  lines : List Ln
  cost : Int
  is : Bool
  tok : Tok
  deriving Inhabited
def Pl.toA (q : Pl) : AVal := .agg [.sl (q.lines.map Ln.toA) q.tok, .int .i64 q.cost, .bool q.is]
def Pl.strip (q : Pl) : Pl := ⟨q.lines, q.cost, q.is, if q.tok = .nil then .nil else .none⟩

/-- What the ends say, if all else is equal. -/
def lexLn : List Ln → List Ln → Bool
  | a :: us, b :: bs => if a.b = b.b then lexLn us bs else decide (a.b < b.b)
  | _, _ => false
def betterS (a b : Pl) : Bool := if b.is = true then (if a.cost = b.cost then (if a.lines.length = b.lines.length then lexLn a.lines b.lines else decide (a.lines.length < b.lines.length)) else decide (a.cost < b.cost)) else true

theorem lexLn_drop {la lb : List Ln} {i : Nat} (h1 : i < la.length) (h2 : i < lb.length) : lexLn (la.drop i) (lb.drop i) = if (nth la i).b = (nth lb i).b then lexLn (la.drop (i + 1)) (lb.drop (i + 1)) else decide ((nth la i).b < (nth lb i).b) := by
  rw [List.drop_eq_getElem_cons h1, List.drop_eq_getElem_cons h2, nth_eq h1, nth_eq h2]; rfl

theorem better_v {a b : Pl} {ta tb : Tok} (h1 : a.lines.length < 100000) (h2 : b.lines.length < 100000) :
    PV F 54 [.agg [.sl (a.lines.map Ln.toA) ta, .int .i64 a.cost, .bool a.is], .agg [.sl (b.lines.map Ln.toA) tb, .int .i64 b.cost, .bool b.is]] = some (.bool (betterS a b)) := by
  refine PV_wp (fn := c54) rfl ?_
  dsimp only [c54]
  try simp (maxSteps := 4000000) (disch := first | assumption | omega | (simp only [push_next, put_next, empty_next, List.length_cons, List.length_nil] <;> omega) | exact _root_.id rfl | exact _root_.id (fun _ => rfl) | fail) only [↓pre, post, Int.reduceEq, Int.reduceLT, Int.reduceLE, Int.reduceAdd, Int.reduceSub, Int.reduceMul, Int.reduceNeg, Nat.reduceLT, Nat.reduceSub, Nat.reduceMul, Nat.reduceAdd, Nat.reduceLeDiff, reduceIte, reduceCtorEq, Nat.reduceEqDiff]
  repeat' (first
    | (refine ifP_pos (by first | assumption | omega) ?_ <;> try simp (maxSteps := 4000000) (disch := first | assumption | omega | (simp only [push_next, put_next, empty_next, List.length_cons, List.length_nil] <;> omega) | exact _root_.id rfl | exact _root_.id (fun _ => rfl) | fail) only [↓pre, post, Int.reduceEq, Int.reduceLT, Int.reduceLE, Int.reduceAdd, Int.reduceSub, Int.reduceMul, Int.reduceNeg, Nat.reduceLT, Nat.reduceSub, Nat.reduceMul, Nat.reduceAdd, Nat.reduceLeDiff, reduceIte, reduceCtorEq, Nat.reduceEqDiff])
    | (refine ifP_neg (by first | assumption | omega) ?_ <;> try simp (maxSteps := 4000000) (disch := first | assumption | omega | (simp only [push_next, put_next, empty_next, List.length_cons, List.length_nil] <;> omega) | exact _root_.id rfl | exact _root_.id (fun _ => rfl) | fail) only [↓pre, post, Int.reduceEq, Int.reduceLT, Int.reduceLE, Int.reduceAdd, Int.reduceSub, Int.reduceMul, Int.reduceNeg, Nat.reduceLT, Nat.reduceSub, Nat.reduceMul, Nat.reduceAdd, Nat.reduceLeDiff, reduceIte, reduceCtorEq, Nat.reduceEqDiff])
    | (refine ifP_intro (fun hyp => ?_) (fun hyp => ?_) <;> first | simp (maxSteps := 4000000) (disch := first | assumption | omega | (simp only [push_next, put_next, empty_next, List.length_cons, List.length_nil] <;> omega) | exact _root_.id rfl | exact _root_.id (fun _ => rfl) | fail) only [↓pre, post, Int.reduceEq, Int.reduceLT, Int.reduceLE, Int.reduceAdd, Int.reduceSub, Int.reduceMul, Int.reduceNeg, Nat.reduceLT, Nat.reduceSub, Nat.reduceMul, Nat.reduceAdd, Nat.reduceLeDiff, reduceIte, reduceCtorEq, Nat.reduceEqDiff, eq_false hyp] | simp (maxSteps := 4000000) (disch := first | assumption | omega | (simp only [push_next, put_next, empty_next, List.length_cons, List.length_nil] <;> omega) | exact _root_.id rfl | exact _root_.id (fun _ => rfl) | fail) only [↓pre, post, Int.reduceEq, Int.reduceLT, Int.reduceLE, Int.reduceAdd, Int.reduceSub, Int.reduceMul, Int.reduceNeg, Nat.reduceLT, Nat.reduceSub, Nat.reduceMul, Nat.reduceAdd, Nat.reduceLeDiff, reduceIte, reduceCtorEq, Nat.reduceEqDiff, eq_true hyp] | skip))
  · refine w_loop (fun m vs h0 => ∃ (i : Nat) (x6 x7 x8 x9 : AVal), m = a.lines.length - i ∧ i ≤ a.lines.length ∧ lexLn a.lines b.lines = lexLn (a.lines.drop i) (b.lines.drop i) ∧
      h0 = (Heap.empty.push (.row true 0 true [.sl (a.lines.map Ln.toA) ta, .int .i64 a.cost, .bool a.is])).push (.row true 0 true [.sl (b.lines.map Ln.toA) tb, .int .i64 b.cost, .bool b.is]) ∧
      vs = [.agg [.sl (a.lines.map Ln.toA) ta, .int .i64 a.cost, .bool a.is], .agg [.sl (b.lines.map Ln.toA) tb, .int .i64 b.cost, .bool b.is], .ptr 0 0, .ptr 1 0, .bool false, .int .i64 i, x6, x7, x8, x9]) a.lines.length
      ⟨0, _, _, _, _, rfl, by omega, rfl, rfl, rfl⟩ ?_
    rintro m vs h0 ⟨i, x6, x7, x8, x9, rfl, hi, hlx, rfl, rfl⟩
    have hbs : betterS a b = lexLn a.lines b.lines := by
      unfold betterS
      rw [if_pos (by assumption), if_pos (by assumption), if_pos (by omega)]
    try simp (maxSteps := 4000000) (disch := first | assumption | omega | (simp only [push_next, put_next, empty_next, List.length_cons, List.length_nil] <;> omega) | exact _root_.id rfl | exact _root_.id (fun _ => rfl) | fail) only [↓pre, post, Int.reduceEq, Int.reduceLT, Int.reduceLE, Int.reduceAdd, Int.reduceSub, Int.reduceMul, Int.reduceNeg, Nat.reduceLT, Nat.reduceSub, Nat.reduceMul, Nat.reduceAdd, Nat.reduceLeDiff, reduceIte, reduceCtorEq, Nat.reduceEqDiff, Ln.toA]
    repeat' (first
      | (refine ifP_pos (by first | assumption | omega) ?_ <;> try simp (maxSteps := 4000000) (disch := first | assumption | omega | (simp only [push_next, put_next, empty_next, List.length_cons, List.length_nil] <;> omega) | exact _root_.id rfl | exact _root_.id (fun _ => rfl) | fail) only [↓pre, post, Int.reduceEq, Int.reduceLT, Int.reduceLE, Int.reduceAdd, Int.reduceSub, Int.reduceMul, Int.reduceNeg, Nat.reduceLT, Nat.reduceSub, Nat.reduceMul, Nat.reduceAdd, Nat.reduceLeDiff, reduceIte, reduceCtorEq, Nat.reduceEqDiff, Ln.toA])
      | (refine ifP_neg (by first | assumption | omega) ?_ <;> try simp (maxSteps := 4000000) (disch := first | assumption | omega | (simp only [push_next, put_next, empty_next, List.length_cons, List.length_nil] <;> omega) | exact _root_.id rfl | exact _root_.id (fun _ => rfl) | fail) only [↓pre, post, Int.reduceEq, Int.reduceLT, Int.reduceLE, Int.reduceAdd, Int.reduceSub, Int.reduceMul, Int.reduceNeg, Nat.reduceLT, Nat.reduceSub, Nat.reduceMul, Nat.reduceAdd, Nat.reduceLeDiff, reduceIte, reduceCtorEq, Nat.reduceEqDiff, Ln.toA])
      | (refine ifP_intro (fun hyp => ?_) (fun hyp => ?_) <;> first | simp (maxSteps := 4000000) (disch := first | assumption | omega | (simp only [push_next, put_next, empty_next, List.length_cons, List.length_nil] <;> omega) | exact _root_.id rfl | exact _root_.id (fun _ => rfl) | fail) only [↓pre, post, Int.reduceEq, Int.reduceLT, Int.reduceLE, Int.reduceAdd, Int.reduceSub, Int.reduceMul, Int.reduceNeg, Nat.reduceLT, Nat.reduceSub, Nat.reduceMul, Nat.reduceAdd, Nat.reduceLeDiff, reduceIte, reduceCtorEq, Nat.reduceEqDiff, Ln.toA, eq_false hyp] | simp (maxSteps := 4000000) (disch := first | assumption | omega | (simp only [push_next, put_next, empty_next, List.length_cons, List.length_nil] <;> omega) | exact _root_.id rfl | exact _root_.id (fun _ => rfl) | fail) only [↓pre, post, Int.reduceEq, Int.reduceLT, Int.reduceLE, Int.reduceAdd, Int.reduceSub, Int.reduceMul, Int.reduceNeg, Nat.reduceLT, Nat.reduceSub, Nat.reduceMul, Nat.reduceAdd, Nat.reduceLeDiff, reduceIte, reduceCtorEq, Nat.reduceEqDiff, Ln.toA, eq_true hyp] | skip))
    · have hd := lexLn_drop (la := a.lines) (lb := b.lines) (i := i) (by omega) (by omega)
      rw [if_pos hyp] at hd
      exact lp_n ⟨a.lines.length - (i + 1), by omega, i + 1, _, _, _, _, rfl, by omega, by rw [hlx, hd], rfl, rfl⟩
    · have hd := lexLn_drop (la := a.lines) (lb := b.lines) (i := i) (by omega) (by omega)
      rw [if_neg hyp] at hd
      rw [hbs, hlx, hd]
    · rw [hbs, hlx, List.drop_eq_nil_of_le (by omega)]; rfl
  · unfold betterS
    rw [if_pos (by assumption), if_pos (by assumption), if_neg (by omega)]
    simp only [Int.ofNat_lt]
  · unfold betterS
    rw [if_pos (by assumption), if_neg hyp]
  · unfold betterS
    rw [if_neg hyp]

/-! ### the plans -/
def zeroPl : Pl := ⟨[], 0, false, .nil⟩
def Pl.er (q : Pl) : Pl := ⟨q.lines, q.cost, q.is, .nil⟩
def newPl (l : List Item) (p : Nat) (q : Pl) (x : Nat × Int × Int) : Pl := ⟨(if p = 0 then [] else q.lines) ++ [⟨skip l p, x.1, x.2.1⟩], if p = 0 then x.2.2 else x.2.2 + q.cost, true, .nil⟩
def bst (l : List Item) (p : Nat) (q : Pl) (s : List Pl) (x : Nat × Int × Int) : List Pl := if betterS (newPl l p q x) (nth s (x.1 - 1)) = true then s.set (x.1 - 1) (newPl l p q x) else s
def rnd (l : List Item) (w : Int) (s : List Pl) (p : Nat) : List Pl := if 0 < p ∧ ¬ (nth s (p - 1)).is = true then s else (linesAt l w p).foldl (bst l p (nth s (p - 1))) s
def plansS (l : List Item) (w : Int) : List Pl := (List.range l.length).foldl (rnd l w) (List.replicate l.length zeroPl)

/-- Bounds of the plans. -/
def Bnd (s : List Pl) : Prop := ∀ k, 0 ≤ (nth s k).cost ∧ (nth s k).cost ≤ (k + 1) * 5000000000 ∧ (nth s k).lines.length ≤ k + 1

theorem nth_map {α β : Type} [Inhabited α] [Inhabited β] (f : α → β) (l : List α) {i : Nat} (h : i < l.length) : nth (l.map f) i = f (nth l i) := by
  rw [nth_eq (by simpa using h), nth_eq h]; simp

def tokSt : Tok → Tok
  | .own _ _ => .none
  | t => t
theorem strip_tk (xs : List AVal) (tk : Tok) : strip (.sl xs tk) = some (.sl xs (tokSt tk)) := by cases tk <;> rfl

theorem linesUpTo {l : List Item} {w : Int} {p b : Nat} (hb : skip l p + 1 ≤ b) (s : List Pl) (q : Pl) :
    ((List.range' (skip l p + 1) (b + 1 - (skip l p + 1))).filterMap (lineAt l w (skip l p))).foldl (bst l p q) s =
    (match lineAt l w (skip l p) b with | some x => bst l p q (((List.range' (skip l p + 1) (b - (skip l p + 1))).filterMap (lineAt l w (skip l p))).foldl (bst l p q) s) x | none => ((List.range' (skip l p + 1) (b - (skip l p + 1))).filterMap (lineAt l w (skip l p))).foldl (bst l p q) s) := by
  rw [show b + 1 - (skip l p + 1) = (b - (skip l p + 1)) + 1 by omega, List.range'_concat, List.filterMap_append, List.foldl_append, Nat.one_mul, show skip l p + 1 + (b - (skip l p + 1)) = b by omega]
  simp only [List.filterMap_cons, List.filterMap_nil]
  cases lineAt l w (skip l p) b <;> rfl

set_option maxRecDepth 10000 in
theorem plans_v {l : List Item} {t : Tok} {w : Int} (ht : Pt t) (hv : valid l) (hw : widthOk w) : ∃ ps : List Pl, PV F 39 [.sl (items l) t, .int .i64 w] = some (.sl (ps.map fun q => Pl.toA q.strip) .none) ∧ ps.map Pl.er = plansS l w ∧ Bnd (plansS l w) := by
  have hl := hv.2.1
  have hl1 := hv.1
  suffices hs : CV F 39 [.sl (items l) t, .int .i64 w] Heap.empty (fun r h' => ∃ ps : List Pl, r = .ref 0 0 l.length 3 ∧ h'.get 0 = some (.row true 3 true (flat (ps.map Pl.toA))) ∧ ps.length = l.length ∧ ps.map Pl.er = plansS l w ∧ Bnd (plansS l w)) by
    obtain ⟨r, h', c, ps, rfl, e1, e2, e3, e4⟩ := hs
    refine ⟨ps, PV_of c ?_, e3, e4⟩
    rw [pu_ref, ← e2]
    have := readRef_flat (sz := 3) (f := Pl.toA) (g := fun q => Pl.toA q.strip) (fun _ => rfl) (fun _ => rfl) true (fun _ => rfl) (fun q => ?_) ps e1 (Nat.le_refl _)
    · rw [this, List.take_length]; rfl
    · unfold Pl.toA Pl.strip
      simp only [cells_agg]
      cases q.tok <;> rfl
  refine CV_wp (fn := c39) rfl ?_
  dsimp only [c39]
  try simp (maxSteps := 4000000) (disch := first | assumption | omega | (simp only [push_next, put_next, empty_next, List.length_cons, List.length_nil] <;> omega) | exact _root_.id rfl | exact _root_.id (fun _ => rfl) | fail) only [↓pre, post, Int.reduceEq, Int.reduceLT, Int.reduceLE, Int.reduceAdd, Int.reduceSub, Int.reduceMul, Int.reduceNeg, Nat.reduceLT, Nat.reduceSub, Nat.reduceMul, Nat.reduceAdd, Nat.reduceLeDiff, reduceIte, reduceCtorEq, Nat.reduceEqDiff]
  repeat' (first
    | (refine ifP_pos (by first | assumption | omega) ?_ <;> try simp (maxSteps := 4000000) (disch := first | assumption | omega | (simp only [push_next, put_next, empty_next, List.length_cons, List.length_nil] <;> omega) | exact _root_.id rfl | exact _root_.id (fun _ => rfl) | fail) only [↓pre, post, Int.reduceEq, Int.reduceLT, Int.reduceLE, Int.reduceAdd, Int.reduceSub, Int.reduceMul, Int.reduceNeg, Nat.reduceLT, Nat.reduceSub, Nat.reduceMul, Nat.reduceAdd, Nat.reduceLeDiff, reduceIte, reduceCtorEq, Nat.reduceEqDiff])
    | (refine ifP_neg (by first | assumption | omega) ?_ <;> try simp (maxSteps := 4000000) (disch := first | assumption | omega | (simp only [push_next, put_next, empty_next, List.length_cons, List.length_nil] <;> omega) | exact _root_.id rfl | exact _root_.id (fun _ => rfl) | fail) only [↓pre, post, Int.reduceEq, Int.reduceLT, Int.reduceLE, Int.reduceAdd, Int.reduceSub, Int.reduceMul, Int.reduceNeg, Nat.reduceLT, Nat.reduceSub, Nat.reduceMul, Nat.reduceAdd, Nat.reduceLeDiff, reduceIte, reduceCtorEq, Nat.reduceEqDiff])
    | (refine ifP_intro (fun hyp => ?_) (fun hyp => ?_) <;> first | simp (maxSteps := 4000000) (disch := first | assumption | omega | (simp only [push_next, put_next, empty_next, List.length_cons, List.length_nil] <;> omega) | exact _root_.id rfl | exact _root_.id (fun _ => rfl) | fail) only [↓pre, post, Int.reduceEq, Int.reduceLT, Int.reduceLE, Int.reduceAdd, Int.reduceSub, Int.reduceMul, Int.reduceNeg, Nat.reduceLT, Nat.reduceSub, Nat.reduceMul, Nat.reduceAdd, Nat.reduceLeDiff, reduceIte, reduceCtorEq, Nat.reduceEqDiff, eq_false hyp] | simp (maxSteps := 4000000) (disch := first | assumption | omega | (simp only [push_next, put_next, empty_next, List.length_cons, List.length_nil] <;> omega) | exact _root_.id rfl | exact _root_.id (fun _ => rfl) | fail) only [↓pre, post, Int.reduceEq, Int.reduceLT, Int.reduceLE, Int.reduceAdd, Int.reduceSub, Int.reduceMul, Int.reduceNeg, Nat.reduceLT, Nat.reduceSub, Nat.reduceMul, Nat.reduceAdd, Nat.reduceLeDiff, reduceIte, reduceCtorEq, Nat.reduceEqDiff, eq_true hyp] | skip))
  refine w_loop (fun m vs h0 => ∃ (p : Nat) (z : Int) (ps : List Pl) (x5 x6 x7 x8 x9 x10 x11 x12 x13 x14 : AVal), m = l.length - p ∧ z = (p : Int) - 1 ∧ p ≤ l.length ∧ h0.get 0 = some (.row true 3 true (flat (ps.map Pl.toA))) ∧ ps.length = l.length ∧ ps.map Pl.er = (List.range p).foldl (rnd l w) (List.replicate l.length zeroPl) ∧ Bnd (ps.map Pl.er) ∧ 1 ≤ h0.next ∧
    vs = [.sl (items l) t, .int .i64 w, .sl [] .nil, .ref 0 0 l.length 3, .int .i64 z, x5, x6, x7, x8, x9, x10, x11, x12, x13, x14]) l.length
    ⟨0, -1, List.replicate l.length zeroPl, _, _, _, _, _, _, _, _, _, _, rfl, by omega, by omega, by rw [← repl_flat (f := Pl.toA) zeroPl rfl]; rfl, by simp, by simp [zeroPl, Pl.er], ?_, by simp [push_next, empty_next], rfl⟩ ?_
  · intro k
    by_cases hk : k < l.length
    · rw [nth_map _ _ (by simpa using hk), nth_replicate hk]; simp [zeroPl, Pl.er]; omega
    · rw [nth, List.getD_eq_getElem?_getD, List.getElem?_eq_none (by simp; omega)]; simp [default, instInhabitedPl.default]; omega
  rintro m vs h0 ⟨p, z, ps, x5, x6, x7, x8, x9, x10, x11, x12, x13, x14, rfl, hz, hp, hrow, hpl, hps, hbnd, hn1, rfl⟩
  have hst : p ≤ l.length → PV F 29 [.sl (items l) t, .int .i64 z] = some (.int .i64 (skip l p)) := fun h => refStart_v p hz (by omega) (by omega)
  have hzt : z.toNat = p - 1 := by omega
  have hskl : skip l p ≤ l.length := skip_le hp
  have hrc : ∀ a b, PV F 28 [.sl (items l) t, .int .i64 a, .int .i64 b, .int .i64 w] = some (.int .i64 (costR l w a b)) := fun a b => refCost_v ht (by omega)
  have L2 : 0 < p → loadG 1 false ((p - 1) * 3 + 2) (h0.get 0) = some (.bool (nth ps (p - 1)).is) := fun h => by
    rw [hrow, loadG_flat (f := Pl.toA) (fun _ => rfl) ps false true 3 true (by omega) (by omega)]; rfl
  try simp (maxSteps := 4000000) (disch := first | assumption | omega | (simp only [push_next, put_next, empty_next, List.length_cons, List.length_nil] <;> omega) | exact _root_.id rfl | exact _root_.id (fun _ => rfl) | fail) only [↓pre, post, Int.reduceEq, Int.reduceLT, Int.reduceLE, Int.reduceAdd, Int.reduceSub, Int.reduceMul, Int.reduceNeg, Nat.reduceLT, Nat.reduceSub, Nat.reduceMul, Nat.reduceAdd, Nat.reduceLeDiff, reduceIte, reduceCtorEq, Nat.reduceEqDiff, hst, hzt, L2]
  repeat' (first
    | (refine ifP_pos (by first | assumption | omega) ?_ <;> try simp (maxSteps := 4000000) (disch := first | assumption | omega | (simp only [push_next, put_next, empty_next, List.length_cons, List.length_nil] <;> omega) | exact _root_.id rfl | exact _root_.id (fun _ => rfl) | fail) only [↓pre, post, Int.reduceEq, Int.reduceLT, Int.reduceLE, Int.reduceAdd, Int.reduceSub, Int.reduceMul, Int.reduceNeg, Nat.reduceLT, Nat.reduceSub, Nat.reduceMul, Nat.reduceAdd, Nat.reduceLeDiff, reduceIte, reduceCtorEq, Nat.reduceEqDiff, hst, hzt, L2])
    | (refine ifP_neg (by first | assumption | omega) ?_ <;> try simp (maxSteps := 4000000) (disch := first | assumption | omega | (simp only [push_next, put_next, empty_next, List.length_cons, List.length_nil] <;> omega) | exact _root_.id rfl | exact _root_.id (fun _ => rfl) | fail) only [↓pre, post, Int.reduceEq, Int.reduceLT, Int.reduceLE, Int.reduceAdd, Int.reduceSub, Int.reduceMul, Int.reduceNeg, Nat.reduceLT, Nat.reduceSub, Nat.reduceMul, Nat.reduceAdd, Nat.reduceLeDiff, reduceIte, reduceCtorEq, Nat.reduceEqDiff, hst, hzt, L2])
    | (refine ifP_intro (fun hyp => ?_) (fun hyp => ?_) <;> first | simp (maxSteps := 4000000) (disch := first | assumption | omega | (simp only [push_next, put_next, empty_next, List.length_cons, List.length_nil] <;> omega) | exact _root_.id rfl | exact _root_.id (fun _ => rfl) | fail) only [↓pre, post, Int.reduceEq, Int.reduceLT, Int.reduceLE, Int.reduceAdd, Int.reduceSub, Int.reduceMul, Int.reduceNeg, Nat.reduceLT, Nat.reduceSub, Nat.reduceMul, Nat.reduceAdd, Nat.reduceLeDiff, reduceIte, reduceCtorEq, Nat.reduceEqDiff, hst, hzt, L2, eq_false hyp] | simp (maxSteps := 4000000) (disch := first | assumption | omega | (simp only [push_next, put_next, empty_next, List.length_cons, List.length_nil] <;> omega) | exact _root_.id rfl | exact _root_.id (fun _ => rfl) | fail) only [↓pre, post, Int.reduceEq, Int.reduceLT, Int.reduceLE, Int.reduceAdd, Int.reduceSub, Int.reduceMul, Int.reduceNeg, Nat.reduceLT, Nat.reduceSub, Nat.reduceMul, Nat.reduceAdd, Nat.reduceLeDiff, reduceIte, reduceCtorEq, Nat.reduceEqDiff, hst, hzt, L2, eq_true hyp] | skip))
  · refine w_loop (fun m vs h1 => ∃ (b : Nat) (qs : List Pl) (x7 x8 x9 x10 x11 x12 x13 x14 : AVal), m = l.length + 1 - b ∧ skip l p + 1 ≤ b ∧ b ≤ l.length + 1 ∧ h1.get 0 = some (.row true 3 true (flat (qs.map Pl.toA))) ∧ qs.length = l.length ∧
      qs.map Pl.er = ((List.range' (skip l p + 1) (b - (skip l p + 1))).filterMap (lineAt l w (skip l p))).foldl (bst l p (nth (ps.map Pl.er) (p - 1))) (ps.map Pl.er) ∧ (∀ k, k < p → nth (qs.map Pl.er) k = nth (ps.map Pl.er) k) ∧ Bnd (qs.map Pl.er) ∧ 1 ≤ h1.next ∧
      vs = [.sl (items l) t, .int .i64 w, .sl [] .nil, .ref 0 0 l.length 3, .int .i64 z, .int .i64 (skip l p), .int .i64 b, x7, x8, x9, x10, x11, x12, x13, x14]) (l.length - skip l p)
      ⟨skip l p + 1, ps, _, _, _, _, _, _, _, _, by omega, by omega, by omega, hrow, hpl, by rw [Nat.sub_self]; rfl, fun _ _ => rfl, hbnd, hn1, rfl⟩ ?_
    rintro m vs h1 ⟨b, qs, x7, x8, x9, x10, x11, x12, x13, x14, rfl, hb1, hb2, hrow1, hql, hqs, hkeep, hbq, hn2, rfl⟩
    have hcl := costR_line (l := l) (w := w) (p := p) (b := b) hv hw
    have hup := linesUpTo (l := l) (w := w) (p := p) hb1 (ps.map Pl.er) (nth (ps.map Pl.er) (p - 1))
    rw [← hqs] at hup
    have hge := skip_ge (l := l) (p := p)
    have hcu : costR l w (skip l p : Nat) (b : Nat) ≤ 5000000000 := by
      by_cases h : lineOk l w (skip l p) b
      · rw [hcl.2 h]; exact (cost_bound hv hw h).2
      · have := hcl.1; rw [iff_false_right h] at this; omega
    have hq1 : 0 < p → 0 ≤ (nth qs (p - 1)).cost ∧ (nth qs (p - 1)).cost ≤ p * 5000000000 ∧ (nth qs (p - 1)).lines.length ≤ p := fun h => by
      have := hbq (p - 1)
      rw [nth_map _ _ (by omega)] at this
      have e : ((p - 1 : Nat) : Int) + 1 = p := by omega
      rw [e] at this
      exact ⟨this.1, this.2.1, by have := this.2.2; simp only [Pl.er] at this; omega⟩
    have hqb : b ≤ l.length → (nth qs (b - 1)).lines.length ≤ b := fun h => by
      have := (hbq (b - 1)).2.2
      rw [nth_map _ _ (by omega)] at this
      simp only [Pl.er] at this; omega
    have L1 : 0 < p → loadG 1 false ((p - 1) * 3 + 1) (h1.get 0) = some (.int .i64 (nth qs (p - 1)).cost) := fun h => by
      rw [hrow1, loadG_flat (f := Pl.toA) (fun _ => rfl) qs false true 3 true (by omega) (by omega)]; rfl
    have L0 : 0 < p → loadG 1 false ((p - 1) * 3) (h1.get 0) = some (.sl ((nth qs (p - 1)).lines.map Ln.toA) (nth qs (p - 1)).tok) := fun h => by
      rw [hrow1, loadG_flat0 (f := Pl.toA) (sz := 3) (fun _ => rfl) qs false true 3 true (by omega) (by omega)]; rfl
    have Lw : b ≤ l.length → loadG 3 true ((b - 1) * 3) (h1.get 0) = some (.agg [.sl ((nth qs (b - 1)).lines.map Ln.toA) (nth qs (b - 1)).tok, .int .i64 (nth qs (b - 1)).cost, .bool (nth qs (b - 1)).is]) := fun h => by
      rw [hrow1, loadG_flat0 (f := Pl.toA) (sz := 3) (fun _ => rfl) qs true true 3 true (by omega) (by omega)]; rfl
    have Sw : ∀ (X : List Ln) (tkx : Tok) (cx : Int) (H : Heap), b ≤ l.length → storeG 3 0 ((b - 1) * 3) (.agg [.sl (X.map Ln.toA) tkx, .int .i64 cx, .bool true]) H (h1.get 0) = some (H.put 0 (some (.row true 3 true (flat ((qs.set (b - 1) ⟨X, cx, true, tkx⟩).map Pl.toA))))) := fun X tkx cx H h => by
      rw [hrow1]
      exact storeG_flatw (f := Pl.toA) (sz := 3) (fun _ => rfl) qs 3 true ⟨X, cx, true, tkx⟩ (by omega) rfl
    have hnat : b ≤ l.length → PV F 31 [.sl (items l) t, .int .i64 (skip l p : Nat), .int .i64 (b : Nat)] = some (.int .i64 (natS l (skip l p) b)) := fun h => natural_v hv (by omega) h
    -- the round goes on
    have fin : ∀ (h3 : Heap) (qs' : List Pl) (c7 c8 c9 c10 c11 c12 c13 c14 : AVal), b ≤ l.length → h3.get 0 = some (.row true 3 true (flat (qs'.map Pl.toA))) → 1 ≤ h3.next → qs'.length = l.length →
        ((¬ lineOk l w (skip l p) b ∧ qs'.map Pl.er = qs.map Pl.er) ∨ (lineOk l w (skip l p) b ∧ qs'.map Pl.er = bst l p (nth (ps.map Pl.er) (p - 1)) (qs.map Pl.er) (b, natS l (skip l p) b, costN l w (skip l p) b))) →
        ∃ m', m' < l.length + 1 - b ∧ ∃ (b' : Nat) (qs : List Pl) (x7 x8 x9 x10 x11 x12 x13 x14 : AVal), m' = l.length + 1 - b' ∧ skip l p + 1 ≤ b' ∧ b' ≤ l.length + 1 ∧ h3.get 0 = some (.row true 3 true (flat (qs.map Pl.toA))) ∧ qs.length = l.length ∧
          qs.map Pl.er = ((List.range' (skip l p + 1) (b' - (skip l p + 1))).filterMap (lineAt l w (skip l p))).foldl (bst l p (nth (ps.map Pl.er) (p - 1))) (ps.map Pl.er) ∧ (∀ k, k < p → nth (qs.map Pl.er) k = nth (ps.map Pl.er) k) ∧ Bnd (qs.map Pl.er) ∧ 1 ≤ h3.next ∧
          [AVal.sl (items l) t, .int .i64 w, .sl [] .nil, .ref 0 0 l.length 3, .int .i64 z, .int .i64 (skip l p), .int .i64 ((b : Int) + 1), c7, c8, c9, c10, c11, c12, c13, c14] = [.sl (items l) t, .int .i64 w, .sl [] .nil, .ref 0 0 l.length 3, .int .i64 z, .int .i64 (skip l p), .int .i64 b', x7, x8, x9, x10, x11, x12, x13, x14] := by
      intro h3 qs' c7 c8 c9 c10 c11 c12 c13 c14 hbl hr3 hn3 hql3 hor
      have hkq : 0 < p → nth (ps.map Pl.er) (p - 1) = (nth qs (p - 1)).er := fun h => by rw [← hkeep (p - 1) (by omega), nth_map _ _ (by omega)]
      refine ⟨l.length + 1 - (b + 1), by omega, b + 1, qs', c7, c8, c9, c10, c11, c12, c13, c14, rfl, by omega, by omega, hr3, hql3, ?_, ?_, ?_, hn3, rfl⟩
      · rw [hup]
        rcases hor with ⟨h, e⟩ | ⟨h, e⟩
        · rw [lineAt, if_neg h]; exact e
        · rw [lineAt, if_pos h]; exact e
      · intro k hk
        rcases hor with ⟨h, e⟩ | ⟨h, e⟩
        · rw [e]; exact hkeep k hk
        · rw [e, bst]
          split
          · rw [nth_set_ne (by simp only; omega)]; exact hkeep k hk
          · exact hkeep k hk
      · rcases hor with ⟨h, e⟩ | ⟨h, e⟩
        · rw [e]; exact hbq
        · rw [e, bst]
          split
          · intro k
            by_cases hk : b - 1 = k
            · subst hk
              have hcb := cost_bound hv hw h
              rw [nth_set_self (by simp; omega)]
              have e1 : ((b - 1 : Nat) : Int) + 1 = b := by omega
              rw [e1]
              by_cases hp0 : p = 0
              · simp [newPl, hp0]; subst hp0; omega
              · have := hq1 (by omega)
                simp only [newPl, if_neg hp0, hkq (by omega), Pl.er, List.length_append, List.length_cons, List.length_nil]
                omega
            · rw [nth_set_ne hk]; exact hbq k
          · exact hbq
    try simp (maxSteps := 4000000) (disch := first | assumption | omega | (simp only [push_next, put_next, empty_next, List.length_cons, List.length_nil] <;> omega) | exact _root_.id rfl | exact _root_.id (fun _ => rfl) | fail) only [↓pre, post, Int.reduceEq, Int.reduceLT, Int.reduceLE, Int.reduceAdd, Int.reduceSub, Int.reduceMul, Int.reduceNeg, Nat.reduceLT, Nat.reduceSub, Nat.reduceMul, Nat.reduceAdd, Nat.reduceLeDiff, reduceIte, reduceCtorEq, Nat.reduceEqDiff, hrc, hzt, L1, L0]
    repeat' (first
      | (refine ifP_pos (by first | assumption | omega) ?_ <;> try simp (maxSteps := 4000000) (disch := first | assumption | omega | (simp only [push_next, put_next, empty_next, List.length_cons, List.length_nil] <;> omega) | exact _root_.id rfl | exact _root_.id (fun _ => rfl) | fail) only [↓pre, post, Int.reduceEq, Int.reduceLT, Int.reduceLE, Int.reduceAdd, Int.reduceSub, Int.reduceMul, Int.reduceNeg, Nat.reduceLT, Nat.reduceSub, Nat.reduceMul, Nat.reduceAdd, Nat.reduceLeDiff, reduceIte, reduceCtorEq, Nat.reduceEqDiff, hrc, hzt, L1, L0])
      | (refine ifP_neg (by first | assumption | omega) ?_ <;> try simp (maxSteps := 4000000) (disch := first | assumption | omega | (simp only [push_next, put_next, empty_next, List.length_cons, List.length_nil] <;> omega) | exact _root_.id rfl | exact _root_.id (fun _ => rfl) | fail) only [↓pre, post, Int.reduceEq, Int.reduceLT, Int.reduceLE, Int.reduceAdd, Int.reduceSub, Int.reduceMul, Int.reduceNeg, Nat.reduceLT, Nat.reduceSub, Nat.reduceMul, Nat.reduceAdd, Nat.reduceLeDiff, reduceIte, reduceCtorEq, Nat.reduceEqDiff, hrc, hzt, L1, L0])
      | (refine ifP_intro (fun hyp => ?_) (fun hyp => ?_) <;> first | simp (maxSteps := 4000000) (disch := first | assumption | omega | (simp only [push_next, put_next, empty_next, List.length_cons, List.length_nil] <;> omega) | exact _root_.id rfl | exact _root_.id (fun _ => rfl) | fail) only [↓pre, post, Int.reduceEq, Int.reduceLT, Int.reduceLE, Int.reduceAdd, Int.reduceSub, Int.reduceMul, Int.reduceNeg, Nat.reduceLT, Nat.reduceSub, Nat.reduceMul, Nat.reduceAdd, Nat.reduceLeDiff, reduceIte, reduceCtorEq, Nat.reduceEqDiff, hrc, hzt, L1, L0, eq_false hyp] | simp (maxSteps := 4000000) (disch := first | assumption | omega | (simp only [push_next, put_next, empty_next, List.length_cons, List.length_nil] <;> omega) | exact _root_.id rfl | exact _root_.id (fun _ => rfl) | fail) only [↓pre, post, Int.reduceEq, Int.reduceLT, Int.reduceLE, Int.reduceAdd, Int.reduceSub, Int.reduceMul, Int.reduceNeg, Nat.reduceLT, Nat.reduceSub, Nat.reduceMul, Nat.reduceAdd, Nat.reduceLeDiff, reduceIte, reduceCtorEq, Nat.reduceEqDiff, hrc, hzt, L1, L0, eq_true hyp] | skip))
    · exact lp_n (fin _ qs _ _ _ _ _ _ _ _ (by omega) hrow1 hn2 hql (.inl ⟨fun h => by have := hcl.1.2 h; omega, rfl⟩))
    · have hlo := hcl.1.1 (by omega)
      have hpos : 0 < p := by omega
      have hq := hq1 hpos
      refine append_K (f := Ln.toA) (tk := .nil) [] (nth qs (p - 1)).lines (fun _ => rfl) (fun _ => rfl) (fun _ => rfl) lenA_sl (elems_sl (fun _ => rfl)) (.inl rfl) (by simp) (by simp; omega) (by omega) (by omega) (by omega) ?_
      intro h2 tk2 g2 n2 le2 k2 _ _
      have r2 := k2 _ _ _ _ _ (get_push h1 _)
      have r2' : ∀ o, (h2.put h1.next o).get h1.next = o := fun o => get_put_old r2
      have z2 : h2.get 0 = h1.get 0 := by rw [k2 _ _ _ _ _ (get_push_old hrow1), hrow1]
      try simp (maxSteps := 4000000) (disch := first | assumption | omega | (simp only [push_next, put_next, empty_next, List.length_cons, List.length_nil] <;> omega) | exact _root_.id rfl | exact _root_.id (fun _ => rfl) | fail) only [↓pre, post, Int.reduceEq, Int.reduceLT, Int.reduceLE, Int.reduceAdd, Int.reduceSub, Int.reduceMul, Int.reduceNeg, Nat.reduceLT, Nat.reduceSub, Nat.reduceMul, Nat.reduceAdd, Nat.reduceLeDiff, reduceIte, reduceCtorEq, Nat.reduceEqDiff, r2, r2', z2, hnat]
      repeat' (first
        | (refine ifP_pos (by first | assumption | omega) ?_ <;> try simp (maxSteps := 4000000) (disch := first | assumption | omega | (simp only [push_next, put_next, empty_next, List.length_cons, List.length_nil] <;> omega) | exact _root_.id rfl | exact _root_.id (fun _ => rfl) | fail) only [↓pre, post, Int.reduceEq, Int.reduceLT, Int.reduceLE, Int.reduceAdd, Int.reduceSub, Int.reduceMul, Int.reduceNeg, Nat.reduceLT, Nat.reduceSub, Nat.reduceMul, Nat.reduceAdd, Nat.reduceLeDiff, reduceIte, reduceCtorEq, Nat.reduceEqDiff, r2, r2', z2, hnat])
        | (refine ifP_neg (by first | assumption | omega) ?_ <;> try simp (maxSteps := 4000000) (disch := first | assumption | omega | (simp only [push_next, put_next, empty_next, List.length_cons, List.length_nil] <;> omega) | exact _root_.id rfl | exact _root_.id (fun _ => rfl) | fail) only [↓pre, post, Int.reduceEq, Int.reduceLT, Int.reduceLE, Int.reduceAdd, Int.reduceSub, Int.reduceMul, Int.reduceNeg, Nat.reduceLT, Nat.reduceSub, Nat.reduceMul, Nat.reduceAdd, Nat.reduceLeDiff, reduceIte, reduceCtorEq, Nat.reduceEqDiff, r2, r2', z2, hnat])
        | (refine ifP_intro (fun hyp => ?_) (fun hyp => ?_) <;> first | simp (maxSteps := 4000000) (disch := first | assumption | omega | (simp only [push_next, put_next, empty_next, List.length_cons, List.length_nil] <;> omega) | exact _root_.id rfl | exact _root_.id (fun _ => rfl) | fail) only [↓pre, post, Int.reduceEq, Int.reduceLT, Int.reduceLE, Int.reduceAdd, Int.reduceSub, Int.reduceMul, Int.reduceNeg, Nat.reduceLT, Nat.reduceSub, Nat.reduceMul, Nat.reduceAdd, Nat.reduceLeDiff, reduceIte, reduceCtorEq, Nat.reduceEqDiff, r2, r2', z2, hnat, eq_false hyp] | simp (maxSteps := 4000000) (disch := first | assumption | omega | (simp only [push_next, put_next, empty_next, List.length_cons, List.length_nil] <;> omega) | exact _root_.id rfl | exact _root_.id (fun _ => rfl) | fail) only [↓pre, post, Int.reduceEq, Int.reduceLT, Int.reduceLE, Int.reduceAdd, Int.reduceSub, Int.reduceMul, Int.reduceNeg, Nat.reduceLT, Nat.reduceSub, Nat.reduceMul, Nat.reduceAdd, Nat.reduceLeDiff, reduceIte, reduceCtorEq, Nat.reduceEqDiff, r2, r2', z2, hnat, eq_true hyp] | skip))
      refine append_K (f := Ln.toA) (tk := tk2) (nth qs (p - 1)).lines [⟨(skip l p : Nat), (b : Nat), natS l (skip l p) b⟩] (fun _ => rfl) (fun _ => rfl) (fun _ => rfl) rfl rfl (g2.put r2 _) (by simpa using n2) (by simp; omega) (by omega) (by omega) (by omega) ?_
      intro h3 tk3 g3 n3 le3 k3 _ _
      have r3 := k3 _ _ _ _ _ (r2' _)
      have r3' : ∀ o, (h3.put h1.next o).get h1.next = o := fun o => get_put_old r3
      have z3 : h3.get 0 = h1.get 0 := by rw [k3 _ _ _ _ _ (by rw [get_put_ne (by omega), z2, hrow1]), hrow1]
      have hnx3 : 1 ≤ h3.next := by rw [put_next] at le3; rw [push_next] at le2; omega
      have B1 : ∀ ta tb, PV F 54 [.agg [.sl (((nth qs (p - 1)).lines ++ [(⟨(skip l p : Nat), (b : Nat), natS l (skip l p) b⟩ : Ln)]).map Ln.toA) ta, .int .i64 (costR l w (skip l p : Nat) (b : Nat) + (nth qs (p - 1)).cost), .bool true], .agg [.sl ((nth qs (b - 1)).lines.map Ln.toA) tb, .int .i64 (nth qs (b - 1)).cost, .bool (nth qs (b - 1)).is]] =
          some (.bool (betterS ⟨(nth qs (p - 1)).lines ++ [(⟨(skip l p : Nat), (b : Nat), natS l (skip l p) b⟩ : Ln)], costR l w (skip l p : Nat) (b : Nat) + (nth qs (p - 1)).cost, true, .nil⟩ (nth qs (b - 1)))) := fun ta tb => better_v (a := ⟨_, _, _, .nil⟩) (by simp; omega) (by have := hqb (by omega); omega)
      have hnew : newPl l p (nth (ps.map Pl.er) (p - 1)) (b, natS l (skip l p) b, costN l w (skip l p) b) = ⟨(nth qs (p - 1)).lines ++ [(⟨(skip l p : Nat), (b : Nat), natS l (skip l p) b⟩ : Ln)], costR l w (skip l p : Nat) (b : Nat) + (nth qs (p - 1)).cost, true, .nil⟩ := by
        rw [← hkeep (p - 1) (by omega), nth_map _ _ (by omega), hcl.2 hlo]
        simp only [newPl, if_neg (by omega : ¬ p = 0), Pl.er]
      have hbe : ∀ a : Pl, betterS a (nth (qs.map Pl.er) (b - 1)) = betterS a (nth qs (b - 1)) := fun a => by rw [nth_map _ _ (by omega)]; rfl
      have z3p : ∀ o, (h3.put h1.next o).get 0 = some (.row true 3 true (flat (qs.map Pl.toA))) := fun o => by rw [get_put_ne (by omega), z3, hrow1]
      try simp (maxSteps := 4000000) (disch := first | assumption | omega | (simp only [push_next, put_next, empty_next, List.length_cons, List.length_nil] <;> omega) | exact _root_.id rfl | exact _root_.id (fun _ => rfl) | fail) only [↓pre, post, Int.reduceEq, Int.reduceLT, Int.reduceLE, Int.reduceAdd, Int.reduceSub, Int.reduceMul, Int.reduceNeg, Nat.reduceLT, Nat.reduceSub, Nat.reduceMul, Nat.reduceAdd, Nat.reduceLeDiff, reduceIte, reduceCtorEq, Nat.reduceEqDiff, r3, r3', z3, Lw, Sw, strip_tk, B1]
      repeat' (first
        | (refine ifP_pos (by first | assumption | omega) ?_ <;> try simp (maxSteps := 4000000) (disch := first | assumption | omega | (simp only [push_next, put_next, empty_next, List.length_cons, List.length_nil] <;> omega) | exact _root_.id rfl | exact _root_.id (fun _ => rfl) | fail) only [↓pre, post, Int.reduceEq, Int.reduceLT, Int.reduceLE, Int.reduceAdd, Int.reduceSub, Int.reduceMul, Int.reduceNeg, Nat.reduceLT, Nat.reduceSub, Nat.reduceMul, Nat.reduceAdd, Nat.reduceLeDiff, reduceIte, reduceCtorEq, Nat.reduceEqDiff, r3, r3', z3, Lw, Sw, strip_tk, B1])
        | (refine ifP_neg (by first | assumption | omega) ?_ <;> try simp (maxSteps := 4000000) (disch := first | assumption | omega | (simp only [push_next, put_next, empty_next, List.length_cons, List.length_nil] <;> omega) | exact _root_.id rfl | exact _root_.id (fun _ => rfl) | fail) only [↓pre, post, Int.reduceEq, Int.reduceLT, Int.reduceLE, Int.reduceAdd, Int.reduceSub, Int.reduceMul, Int.reduceNeg, Nat.reduceLT, Nat.reduceSub, Nat.reduceMul, Nat.reduceAdd, Nat.reduceLeDiff, reduceIte, reduceCtorEq, Nat.reduceEqDiff, r3, r3', z3, Lw, Sw, strip_tk, B1])
        | (refine ifP_intro (fun hyp => ?_) (fun hyp => ?_) <;> first | simp (maxSteps := 4000000) (disch := first | assumption | omega | (simp only [push_next, put_next, empty_next, List.length_cons, List.length_nil] <;> omega) | exact _root_.id rfl | exact _root_.id (fun _ => rfl) | fail) only [↓pre, post, Int.reduceEq, Int.reduceLT, Int.reduceLE, Int.reduceAdd, Int.reduceSub, Int.reduceMul, Int.reduceNeg, Nat.reduceLT, Nat.reduceSub, Nat.reduceMul, Nat.reduceAdd, Nat.reduceLeDiff, reduceIte, reduceCtorEq, Nat.reduceEqDiff, r3, r3', z3, Lw, Sw, strip_tk, B1, eq_false hyp] | simp (maxSteps := 4000000) (disch := first | assumption | omega | (simp only [push_next, put_next, empty_next, List.length_cons, List.length_nil] <;> omega) | exact _root_.id rfl | exact _root_.id (fun _ => rfl) | fail) only [↓pre, post, Int.reduceEq, Int.reduceLT, Int.reduceLE, Int.reduceAdd, Int.reduceSub, Int.reduceMul, Int.reduceNeg, Nat.reduceLT, Nat.reduceSub, Nat.reduceMul, Nat.reduceAdd, Nat.reduceLeDiff, reduceIte, reduceCtorEq, Nat.reduceEqDiff, r3, r3', z3, Lw, Sw, strip_tk, B1, eq_true hyp] | skip))
      · exact lp_n (fin _ (qs.set (b - 1) ⟨_, _, true, tk3⟩) _ _ _ _ _ _ _ _ (by omega) (get_put_old (z3p _)) (by simp only [put_next]; exact hnx3) (by simp; exact hql) (.inr ⟨hlo, by rw [bst, hnew, hbe, if_pos hyp, List.map_set]; rfl⟩))
      · exact lp_n (fin _ qs _ _ _ _ _ _ _ _ (by omega) (z3p _) (by simp only [put_next]; exact hnx3) hql (.inr ⟨hlo, by rw [bst, hnew, hbe, if_neg hyp]⟩))
    · refine lp_n ⟨l.length - (p + 1), by omega, p + 1, z + 1, qs, _, _, _, _, _, _, _, _, _, _, rfl, by omega, by omega, hrow1, hql, ?_, hbq, hn2, rfl⟩
      rw [List.range_succ, List.foldl_append, ← hps, List.foldl_cons, List.foldl_nil, rnd, if_neg (fun h => h.2 (by rw [nth_map _ _ (by omega)]; assumption)), hqs, linesAt, linesOf, show b - (skip l p + 1) = l.length - skip l p by omega]
  · refine lp_n ⟨l.length - (p + 1), by omega, p + 1, z + 1, ps, _, _, _, _, _, _, _, _, _, _, rfl, by omega, by omega, hrow, hpl, ?_, hbnd, hn1, rfl⟩
    rw [List.range_succ, List.foldl_append, ← hps, List.foldl_cons, List.foldl_nil, rnd, if_pos ⟨by omega, by rw [nth_map _ _ (by omega)]; exact hyp⟩]
  · refine w_loop (fun m vs h1 => ∃ (b : Nat) (qs : List Pl) (x7 x8 x9 x10 x11 x12 x13 x14 : AVal), m = l.length + 1 - b ∧ skip l p + 1 ≤ b ∧ b ≤ l.length + 1 ∧ h1.get 0 = some (.row true 3 true (flat (qs.map Pl.toA))) ∧ qs.length = l.length ∧
      qs.map Pl.er = ((List.range' (skip l p + 1) (b - (skip l p + 1))).filterMap (lineAt l w (skip l p))).foldl (bst l p (nth (ps.map Pl.er) (p - 1))) (ps.map Pl.er) ∧ (∀ k, k < p → nth (qs.map Pl.er) k = nth (ps.map Pl.er) k) ∧ Bnd (qs.map Pl.er) ∧ 1 ≤ h1.next ∧
      vs = [.sl (items l) t, .int .i64 w, .sl [] .nil, .ref 0 0 l.length 3, .int .i64 z, .int .i64 (skip l p), .int .i64 b, x7, x8, x9, x10, x11, x12, x13, x14]) (l.length - skip l p)
      ⟨skip l p + 1, ps, _, _, _, _, _, _, _, _, by omega, by omega, by omega, hrow, hpl, by rw [Nat.sub_self]; rfl, fun _ _ => rfl, hbnd, hn1, rfl⟩ ?_
    rintro m vs h1 ⟨b, qs, x7, x8, x9, x10, x11, x12, x13, x14, rfl, hb1, hb2, hrow1, hql, hqs, hkeep, hbq, hn2, rfl⟩
    have hcl := costR_line (l := l) (w := w) (p := p) (b := b) hv hw
    have hup := linesUpTo (l := l) (w := w) (p := p) hb1 (ps.map Pl.er) (nth (ps.map Pl.er) (p - 1))
    rw [← hqs] at hup
    have hge := skip_ge (l := l) (p := p)
    have hcu : costR l w (skip l p : Nat) (b : Nat) ≤ 5000000000 := by
      by_cases h : lineOk l w (skip l p) b
      · rw [hcl.2 h]; exact (cost_bound hv hw h).2
      · have := hcl.1; rw [iff_false_right h] at this; omega
    have hq1 : 0 < p → 0 ≤ (nth qs (p - 1)).cost ∧ (nth qs (p - 1)).cost ≤ p * 5000000000 ∧ (nth qs (p - 1)).lines.length ≤ p := fun h => by
      have := hbq (p - 1)
      rw [nth_map _ _ (by omega)] at this
      have e : ((p - 1 : Nat) : Int) + 1 = p := by omega
      rw [e] at this
      exact ⟨this.1, this.2.1, by have := this.2.2; simp only [Pl.er] at this; omega⟩
    have hqb : b ≤ l.length → (nth qs (b - 1)).lines.length ≤ b := fun h => by
      have := (hbq (b - 1)).2.2
      rw [nth_map _ _ (by omega)] at this
      simp only [Pl.er] at this; omega
    have L1 : 0 < p → loadG 1 false ((p - 1) * 3 + 1) (h1.get 0) = some (.int .i64 (nth qs (p - 1)).cost) := fun h => by
      rw [hrow1, loadG_flat (f := Pl.toA) (fun _ => rfl) qs false true 3 true (by omega) (by omega)]; rfl
    have L0 : 0 < p → loadG 1 false ((p - 1) * 3) (h1.get 0) = some (.sl ((nth qs (p - 1)).lines.map Ln.toA) (nth qs (p - 1)).tok) := fun h => by
      rw [hrow1, loadG_flat0 (f := Pl.toA) (sz := 3) (fun _ => rfl) qs false true 3 true (by omega) (by omega)]; rfl
    have Lw : b ≤ l.length → loadG 3 true ((b - 1) * 3) (h1.get 0) = some (.agg [.sl ((nth qs (b - 1)).lines.map Ln.toA) (nth qs (b - 1)).tok, .int .i64 (nth qs (b - 1)).cost, .bool (nth qs (b - 1)).is]) := fun h => by
      rw [hrow1, loadG_flat0 (f := Pl.toA) (sz := 3) (fun _ => rfl) qs true true 3 true (by omega) (by omega)]; rfl
    have Sw : ∀ (X : List Ln) (tkx : Tok) (cx : Int) (H : Heap), b ≤ l.length → storeG 3 0 ((b - 1) * 3) (.agg [.sl (X.map Ln.toA) tkx, .int .i64 cx, .bool true]) H (h1.get 0) = some (H.put 0 (some (.row true 3 true (flat ((qs.set (b - 1) ⟨X, cx, true, tkx⟩).map Pl.toA))))) := fun X tkx cx H h => by
      rw [hrow1]
      exact storeG_flatw (f := Pl.toA) (sz := 3) (fun _ => rfl) qs 3 true ⟨X, cx, true, tkx⟩ (by omega) rfl
    have hnat : b ≤ l.length → PV F 31 [.sl (items l) t, .int .i64 (skip l p : Nat), .int .i64 (b : Nat)] = some (.int .i64 (natS l (skip l p) b)) := fun h => natural_v hv (by omega) h
    -- the round goes on
    have fin : ∀ (h3 : Heap) (qs' : List Pl) (c7 c8 c9 c10 c11 c12 c13 c14 : AVal), b ≤ l.length → h3.get 0 = some (.row true 3 true (flat (qs'.map Pl.toA))) → 1 ≤ h3.next → qs'.length = l.length →
        ((¬ lineOk l w (skip l p) b ∧ qs'.map Pl.er = qs.map Pl.er) ∨ (lineOk l w (skip l p) b ∧ qs'.map Pl.er = bst l p (nth (ps.map Pl.er) (p - 1)) (qs.map Pl.er) (b, natS l (skip l p) b, costN l w (skip l p) b))) →
        ∃ m', m' < l.length + 1 - b ∧ ∃ (b' : Nat) (qs : List Pl) (x7 x8 x9 x10 x11 x12 x13 x14 : AVal), m' = l.length + 1 - b' ∧ skip l p + 1 ≤ b' ∧ b' ≤ l.length + 1 ∧ h3.get 0 = some (.row true 3 true (flat (qs.map Pl.toA))) ∧ qs.length = l.length ∧
          qs.map Pl.er = ((List.range' (skip l p + 1) (b' - (skip l p + 1))).filterMap (lineAt l w (skip l p))).foldl (bst l p (nth (ps.map Pl.er) (p - 1))) (ps.map Pl.er) ∧ (∀ k, k < p → nth (qs.map Pl.er) k = nth (ps.map Pl.er) k) ∧ Bnd (qs.map Pl.er) ∧ 1 ≤ h3.next ∧
          [AVal.sl (items l) t, .int .i64 w, .sl [] .nil, .ref 0 0 l.length 3, .int .i64 z, .int .i64 (skip l p), .int .i64 ((b : Int) + 1), c7, c8, c9, c10, c11, c12, c13, c14] = [.sl (items l) t, .int .i64 w, .sl [] .nil, .ref 0 0 l.length 3, .int .i64 z, .int .i64 (skip l p), .int .i64 b', x7, x8, x9, x10, x11, x12, x13, x14] := by
      intro h3 qs' c7 c8 c9 c10 c11 c12 c13 c14 hbl hr3 hn3 hql3 hor
      have hkq : 0 < p → nth (ps.map Pl.er) (p - 1) = (nth qs (p - 1)).er := fun h => by rw [← hkeep (p - 1) (by omega), nth_map _ _ (by omega)]
      refine ⟨l.length + 1 - (b + 1), by omega, b + 1, qs', c7, c8, c9, c10, c11, c12, c13, c14, rfl, by omega, by omega, hr3, hql3, ?_, ?_, ?_, hn3, rfl⟩
      · rw [hup]
        rcases hor with ⟨h, e⟩ | ⟨h, e⟩
        · rw [lineAt, if_neg h]; exact e
        · rw [lineAt, if_pos h]; exact e
      · intro k hk
        rcases hor with ⟨h, e⟩ | ⟨h, e⟩
        · rw [e]; exact hkeep k hk
        · rw [e, bst]
          split
          · rw [nth_set_ne (by simp only; omega)]; exact hkeep k hk
          · exact hkeep k hk
      · rcases hor with ⟨h, e⟩ | ⟨h, e⟩
        · rw [e]; exact hbq
        · rw [e, bst]
          split
          · intro k
            by_cases hk : b - 1 = k
            · subst hk
              have hcb := cost_bound hv hw h
              rw [nth_set_self (by simp; omega)]
              have e1 : ((b - 1 : Nat) : Int) + 1 = b := by omega
              rw [e1]
              by_cases hp0 : p = 0
              · simp [newPl, hp0]; subst hp0; omega
              · have := hq1 (by omega)
                simp only [newPl, if_neg hp0, hkq (by omega), Pl.er, List.length_append, List.length_cons, List.length_nil]
                omega
            · rw [nth_set_ne hk]; exact hbq k
          · exact hbq
    try simp (maxSteps := 4000000) (disch := first | assumption | omega | (simp only [push_next, put_next, empty_next, List.length_cons, List.length_nil] <;> omega) | exact _root_.id rfl | exact _root_.id (fun _ => rfl) | fail) only [↓pre, post, Int.reduceEq, Int.reduceLT, Int.reduceLE, Int.reduceAdd, Int.reduceSub, Int.reduceMul, Int.reduceNeg, Nat.reduceLT, Nat.reduceSub, Nat.reduceMul, Nat.reduceAdd, Nat.reduceLeDiff, reduceIte, reduceCtorEq, Nat.reduceEqDiff, hrc, hzt, L1, L0]
    repeat' (first
      | (refine ifP_pos (by first | assumption | omega) ?_ <;> try simp (maxSteps := 4000000) (disch := first | assumption | omega | (simp only [push_next, put_next, empty_next, List.length_cons, List.length_nil] <;> omega) | exact _root_.id rfl | exact _root_.id (fun _ => rfl) | fail) only [↓pre, post, Int.reduceEq, Int.reduceLT, Int.reduceLE, Int.reduceAdd, Int.reduceSub, Int.reduceMul, Int.reduceNeg, Nat.reduceLT, Nat.reduceSub, Nat.reduceMul, Nat.reduceAdd, Nat.reduceLeDiff, reduceIte, reduceCtorEq, Nat.reduceEqDiff, hrc, hzt, L1, L0])
      | (refine ifP_neg (by first | assumption | omega) ?_ <;> try simp (maxSteps := 4000000) (disch := first | assumption | omega | (simp only [push_next, put_next, empty_next, List.length_cons, List.length_nil] <;> omega) | exact _root_.id rfl | exact _root_.id (fun _ => rfl) | fail) only [↓pre, post, Int.reduceEq, Int.reduceLT, Int.reduceLE, Int.reduceAdd, Int.reduceSub, Int.reduceMul, Int.reduceNeg, Nat.reduceLT, Nat.reduceSub, Nat.reduceMul, Nat.reduceAdd, Nat.reduceLeDiff, reduceIte, reduceCtorEq, Nat.reduceEqDiff, hrc, hzt, L1, L0])
      | (refine ifP_intro (fun hyp => ?_) (fun hyp => ?_) <;> first | simp (maxSteps := 4000000) (disch := first | assumption | omega | (simp only [push_next, put_next, empty_next, List.length_cons, List.length_nil] <;> omega) | exact _root_.id rfl | exact _root_.id (fun _ => rfl) | fail) only [↓pre, post, Int.reduceEq, Int.reduceLT, Int.reduceLE, Int.reduceAdd, Int.reduceSub, Int.reduceMul, Int.reduceNeg, Nat.reduceLT, Nat.reduceSub, Nat.reduceMul, Nat.reduceAdd, Nat.reduceLeDiff, reduceIte, reduceCtorEq, Nat.reduceEqDiff, hrc, hzt, L1, L0, eq_false hyp] | simp (maxSteps := 4000000) (disch := first | assumption | omega | (simp only [push_next, put_next, empty_next, List.length_cons, List.length_nil] <;> omega) | exact _root_.id rfl | exact _root_.id (fun _ => rfl) | fail) only [↓pre, post, Int.reduceEq, Int.reduceLT, Int.reduceLE, Int.reduceAdd, Int.reduceSub, Int.reduceMul, Int.reduceNeg, Nat.reduceLT, Nat.reduceSub, Nat.reduceMul, Nat.reduceAdd, Nat.reduceLeDiff, reduceIte, reduceCtorEq, Nat.reduceEqDiff, hrc, hzt, L1, L0, eq_true hyp] | skip))
    · exact lp_n (fin _ qs _ _ _ _ _ _ _ _ (by omega) hrow1 hn2 hql (.inl ⟨fun h => by have := hcl.1.2 h; omega, rfl⟩))
    · have hlo := hcl.1.1 (by omega)
      have hp0 : p = 0 := by omega
      try simp (maxSteps := 4000000) (disch := first | assumption | omega | (simp only [push_next, put_next, empty_next, List.length_cons, List.length_nil] <;> omega) | exact _root_.id rfl | exact _root_.id (fun _ => rfl) | fail) only [↓pre, post, Int.reduceEq, Int.reduceLT, Int.reduceLE, Int.reduceAdd, Int.reduceSub, Int.reduceMul, Int.reduceNeg, Nat.reduceLT, Nat.reduceSub, Nat.reduceMul, Nat.reduceAdd, Nat.reduceLeDiff, reduceIte, reduceCtorEq, Nat.reduceEqDiff, hnat]
      repeat' (first
        | (refine ifP_pos (by first | assumption | omega) ?_ <;> try simp (maxSteps := 4000000) (disch := first | assumption | omega | (simp only [push_next, put_next, empty_next, List.length_cons, List.length_nil] <;> omega) | exact _root_.id rfl | exact _root_.id (fun _ => rfl) | fail) only [↓pre, post, Int.reduceEq, Int.reduceLT, Int.reduceLE, Int.reduceAdd, Int.reduceSub, Int.reduceMul, Int.reduceNeg, Nat.reduceLT, Nat.reduceSub, Nat.reduceMul, Nat.reduceAdd, Nat.reduceLeDiff, reduceIte, reduceCtorEq, Nat.reduceEqDiff, hnat])
        | (refine ifP_neg (by first | assumption | omega) ?_ <;> try simp (maxSteps := 4000000) (disch := first | assumption | omega | (simp only [push_next, put_next, empty_next, List.length_cons, List.length_nil] <;> omega) | exact _root_.id rfl | exact _root_.id (fun _ => rfl) | fail) only [↓pre, post, Int.reduceEq, Int.reduceLT, Int.reduceLE, Int.reduceAdd, Int.reduceSub, Int.reduceMul, Int.reduceNeg, Nat.reduceLT, Nat.reduceSub, Nat.reduceMul, Nat.reduceAdd, Nat.reduceLeDiff, reduceIte, reduceCtorEq, Nat.reduceEqDiff, hnat])
        | (refine ifP_intro (fun hyp => ?_) (fun hyp => ?_) <;> first | simp (maxSteps := 4000000) (disch := first | assumption | omega | (simp only [push_next, put_next, empty_next, List.length_cons, List.length_nil] <;> omega) | exact _root_.id rfl | exact _root_.id (fun _ => rfl) | fail) only [↓pre, post, Int.reduceEq, Int.reduceLT, Int.reduceLE, Int.reduceAdd, Int.reduceSub, Int.reduceMul, Int.reduceNeg, Nat.reduceLT, Nat.reduceSub, Nat.reduceMul, Nat.reduceAdd, Nat.reduceLeDiff, reduceIte, reduceCtorEq, Nat.reduceEqDiff, hnat, eq_false hyp] | simp (maxSteps := 4000000) (disch := first | assumption | omega | (simp only [push_next, put_next, empty_next, List.length_cons, List.length_nil] <;> omega) | exact _root_.id rfl | exact _root_.id (fun _ => rfl) | fail) only [↓pre, post, Int.reduceEq, Int.reduceLT, Int.reduceLE, Int.reduceAdd, Int.reduceSub, Int.reduceMul, Int.reduceNeg, Nat.reduceLT, Nat.reduceSub, Nat.reduceMul, Nat.reduceAdd, Nat.reduceLeDiff, reduceIte, reduceCtorEq, Nat.reduceEqDiff, hnat, eq_true hyp] | skip))
      refine append_K (f := Ln.toA) (tk := .nil) [] [⟨(skip l p : Nat), (b : Nat), natS l (skip l p) b⟩] (fun _ => rfl) (fun _ => rfl) (fun _ => rfl) rfl rfl (.inl rfl) (by simp) (by simp) (by omega) (by omega) (by omega) ?_
      intro h3 tk3 g3 n3 le3 k3 _ _
      have r3 := k3 _ _ _ _ _ (get_push h1 _)
      have r3' : ∀ o, (h3.put h1.next o).get h1.next = o := fun o => get_put_old r3
      have z3 : h3.get 0 = h1.get 0 := by rw [k3 _ _ _ _ _ (get_push_old hrow1), hrow1]
      have hnx3 : 1 ≤ h3.next := by rw [push_next] at le3; omega
      have B1 : ∀ ta tb, PV F 54 [.agg [.sl [Ln.toA ⟨(skip l p : Nat), (b : Nat), natS l (skip l p) b⟩] ta, .int .i64 (costR l w (skip l p : Nat) (b : Nat)), .bool true], .agg [.sl ((nth qs (b - 1)).lines.map Ln.toA) tb, .int .i64 (nth qs (b - 1)).cost, .bool (nth qs (b - 1)).is]] =
          some (.bool (betterS ⟨[(⟨(skip l p : Nat), (b : Nat), natS l (skip l p) b⟩ : Ln)], costR l w (skip l p : Nat) (b : Nat), true, .nil⟩ (nth qs (b - 1)))) := fun ta tb => better_v (a := ⟨[_], _, _, .nil⟩) (by simp) (by have := hqb (by omega); omega)
      have Sw1 := fun tkx cx H => Sw [⟨(skip l p : Nat), (b : Nat), natS l (skip l p) b⟩] tkx cx H (by omega)
      simp only [List.map_cons, List.map_nil] at Sw1
      have hnew : newPl l p (nth (ps.map Pl.er) (p - 1)) (b, natS l (skip l p) b, costN l w (skip l p) b) = ⟨[(⟨(skip l p : Nat), (b : Nat), natS l (skip l p) b⟩ : Ln)], costR l w (skip l p : Nat) (b : Nat), true, .nil⟩ := by
        rw [hcl.2 hlo]
        simp only [newPl, if_pos hp0, List.nil_append]
      have hbe : ∀ a : Pl, betterS a (nth (qs.map Pl.er) (b - 1)) = betterS a (nth qs (b - 1)) := fun a => by rw [nth_map _ _ (by omega)]; rfl
      have z3p : ∀ o, (h3.put h1.next o).get 0 = some (.row true 3 true (flat (qs.map Pl.toA))) := fun o => by rw [get_put_ne (by omega), z3, hrow1]
      try simp (maxSteps := 4000000) (disch := first | assumption | omega | (simp only [push_next, put_next, empty_next, List.length_cons, List.length_nil] <;> omega) | exact _root_.id rfl | exact _root_.id (fun _ => rfl) | fail) only [↓pre, post, Int.reduceEq, Int.reduceLT, Int.reduceLE, Int.reduceAdd, Int.reduceSub, Int.reduceMul, Int.reduceNeg, Nat.reduceLT, Nat.reduceSub, Nat.reduceMul, Nat.reduceAdd, Nat.reduceLeDiff, reduceIte, reduceCtorEq, Nat.reduceEqDiff, r3, r3', z3, Lw, Sw1, strip_tk, B1]
      repeat' (first
        | (refine ifP_pos (by first | assumption | omega) ?_ <;> try simp (maxSteps := 4000000) (disch := first | assumption | omega | (simp only [push_next, put_next, empty_next, List.length_cons, List.length_nil] <;> omega) | exact _root_.id rfl | exact _root_.id (fun _ => rfl) | fail) only [↓pre, post, Int.reduceEq, Int.reduceLT, Int.reduceLE, Int.reduceAdd, Int.reduceSub, Int.reduceMul, Int.reduceNeg, Nat.reduceLT, Nat.reduceSub, Nat.reduceMul, Nat.reduceAdd, Nat.reduceLeDiff, reduceIte, reduceCtorEq, Nat.reduceEqDiff, r3, r3', z3, Lw, Sw1, strip_tk, B1])
        | (refine ifP_neg (by first | assumption | omega) ?_ <;> try simp (maxSteps := 4000000) (disch := first | assumption | omega | (simp only [push_next, put_next, empty_next, List.length_cons, List.length_nil] <;> omega) | exact _root_.id rfl | exact _root_.id (fun _ => rfl) | fail) only [↓pre, post, Int.reduceEq, Int.reduceLT, Int.reduceLE, Int.reduceAdd, Int.reduceSub, Int.reduceMul, Int.reduceNeg, Nat.reduceLT, Nat.reduceSub, Nat.reduceMul, Nat.reduceAdd, Nat.reduceLeDiff, reduceIte, reduceCtorEq, Nat.reduceEqDiff, r3, r3', z3, Lw, Sw1, strip_tk, B1])
        | (refine ifP_intro (fun hyp => ?_) (fun hyp => ?_) <;> first | simp (maxSteps := 4000000) (disch := first | assumption | omega | (simp only [push_next, put_next, empty_next, List.length_cons, List.length_nil] <;> omega) | exact _root_.id rfl | exact _root_.id (fun _ => rfl) | fail) only [↓pre, post, Int.reduceEq, Int.reduceLT, Int.reduceLE, Int.reduceAdd, Int.reduceSub, Int.reduceMul, Int.reduceNeg, Nat.reduceLT, Nat.reduceSub, Nat.reduceMul, Nat.reduceAdd, Nat.reduceLeDiff, reduceIte, reduceCtorEq, Nat.reduceEqDiff, r3, r3', z3, Lw, Sw1, strip_tk, B1, eq_false hyp] | simp (maxSteps := 4000000) (disch := first | assumption | omega | (simp only [push_next, put_next, empty_next, List.length_cons, List.length_nil] <;> omega) | exact _root_.id rfl | exact _root_.id (fun _ => rfl) | fail) only [↓pre, post, Int.reduceEq, Int.reduceLT, Int.reduceLE, Int.reduceAdd, Int.reduceSub, Int.reduceMul, Int.reduceNeg, Nat.reduceLT, Nat.reduceSub, Nat.reduceMul, Nat.reduceAdd, Nat.reduceLeDiff, reduceIte, reduceCtorEq, Nat.reduceEqDiff, r3, r3', z3, Lw, Sw1, strip_tk, B1, eq_true hyp] | skip))
      · exact lp_n (fin _ (qs.set (b - 1) ⟨[_], _, true, tk3⟩) _ _ _ _ _ _ _ _ (by omega) (get_put_old (z3p _)) (by simp only [put_next]; exact hnx3) (by simp; exact hql) (.inr ⟨hlo, by rw [bst, hnew, hbe, if_pos hyp, List.map_set]; rfl⟩))
      · exact lp_n (fin _ qs _ _ _ _ _ _ _ _ (by omega) (z3p _) (by simp only [put_next]; exact hnx3) hql (.inr ⟨hlo, by rw [bst, hnew, hbe, if_neg hyp]⟩))
    · refine lp_n ⟨l.length - (p + 1), by omega, p + 1, z + 1, qs, _, _, _, _, _, _, _, _, _, _, rfl, by omega, by omega, hrow1, hql, ?_, hbq, hn2, rfl⟩
      rw [List.range_succ, List.foldl_append, ← hps, List.foldl_cons, List.foldl_nil, rnd, if_neg (fun h => by omega), hqs, linesAt, linesOf, show b - (skip l p + 1) = l.length - skip l p by omega]
  · have hpe : p = l.length := by omega
    subst hpe
    refine ⟨ps, hrow, hpl, hps, by rw [plansS, ← hps]; exact hbnd⟩

end Go.Proofs.Ytcammfdljiingaa

/-
  Break and Duals of the reference model; lines with one thing changed.
-/
set_option linter.unusedSimpArgs false
set_option linter.unusedVariables false
set_option maxHeartbeats 8000000
namespace Go.Proofs.Ytcammfdljiingaa
open Go Go.Abs

def rdualsS (l : List Item) (w : Int) : List Int := (plansS l w).map fun q => if q.is = true then q.cost else -1

theorem plansS_len (l : List Item) (w : Int) : (plansS l w).length = l.length := by
  have gen : ∀ (xs : List (Nat × Int × Int)) (p : Nat) (q : Pl) (s : List Pl), (xs.foldl (bst l p q) s).length = s.length := by
    intro xs
    induction xs with
    | nil => intros; rfl
    | cons x xs ih => intro p q s; rw [List.foldl_cons, ih]; unfold bst; split <;> simp
  have gen2 : ∀ (ks : List Nat) (s : List Pl), (ks.foldl (rnd l w) s).length = s.length := by
    intro ks
    induction ks with
    | nil => intros; rfl
    | cons k ks ih => intro s; rw [List.foldl_cons, ih]; unfold rnd; split; rfl; exact gen _ _ _ _
  rw [plansS, gen2]; simp

theorem refDuals_v {l : List Item} {t : Tok} {w : Int} (ht : Pt t) (hl : l.length < 100000) : PV F 18 [.sl (items l) t, .int .i64 w] = some (if widthOk w ∧ valid l then .sl ((rdualsS l w).map (.int .i64)) .none else .sl [] .nil) := by
  by_cases hr : widthOk w ∧ valid l
  · have hl1 := hr.2.1
    have hl2 := hr.2.2.1
    obtain ⟨ps, hp, her, hb⟩ := plans_v (w := w) ht hr.2 hr.1
    have hpl : ps.length = l.length := by rw [← plansS_len l w, ← her, List.length_map]
    suffices hs : CV F 18 [.sl (items l) t, .int .i64 w] Heap.empty (fun r h' => ∃ tk, r = .sl ((rdualsS l w).map (.int .i64)) tk ∧ Grow h' 3 1 tk ∧ tk ≠ .nil) by
      obtain ⟨r, h', c, tk, rfl, hg, hne⟩ := hs
      rw [if_pos hr]
      refine PV_of c ?_
      rcases hg with rfl | ⟨id, rfl, _⟩
      · exact absurd rfl hne
      · rfl
    have hdl : rdualsS l w = ps.map fun q => if q.is = true then q.cost else -1 := by rw [rdualsS, ← her, List.map_map]; rfl
    refine CV_wp (fn := c18) rfl ?_
    dsimp only [c18]
    try simp (maxSteps := 4000000) (disch := first | assumption | omega | (simp only [push_next, put_next, empty_next, List.length_cons, List.length_nil] <;> omega) | exact _root_.id rfl | exact _root_.id (fun _ => rfl) | fail) only [↓pre, post, Int.reduceEq, Int.reduceLT, Int.reduceLE, Int.reduceAdd, Int.reduceSub, Int.reduceMul, Int.reduceNeg, Nat.reduceLT, Nat.reduceSub, Nat.reduceMul, Nat.reduceAdd, Nat.reduceLeDiff, reduceIte, reduceCtorEq, Nat.reduceEqDiff, refReady_v, eq_true hr, hp]
    repeat' (first
      | (refine ifP_pos (by first | assumption | omega) ?_ <;> try simp (maxSteps := 4000000) (disch := first | assumption | omega | (simp only [push_next, put_next, empty_next, List.length_cons, List.length_nil] <;> omega) | exact _root_.id rfl | exact _root_.id (fun _ => rfl) | fail) only [↓pre, post, Int.reduceEq, Int.reduceLT, Int.reduceLE, Int.reduceAdd, Int.reduceSub, Int.reduceMul, Int.reduceNeg, Nat.reduceLT, Nat.reduceSub, Nat.reduceMul, Nat.reduceAdd, Nat.reduceLeDiff, reduceIte, reduceCtorEq, Nat.reduceEqDiff, refReady_v, eq_true hr, hp])
      | (refine ifP_neg (by first | assumption | omega) ?_ <;> try simp (maxSteps := 4000000) (disch := first | assumption | omega | (simp only [push_next, put_next, empty_next, List.length_cons, List.length_nil] <;> omega) | exact _root_.id rfl | exact _root_.id (fun _ => rfl) | fail) only [↓pre, post, Int.reduceEq, Int.reduceLT, Int.reduceLE, Int.reduceAdd, Int.reduceSub, Int.reduceMul, Int.reduceNeg, Nat.reduceLT, Nat.reduceSub, Nat.reduceMul, Nat.reduceAdd, Nat.reduceLeDiff, reduceIte, reduceCtorEq, Nat.reduceEqDiff, refReady_v, eq_true hr, hp])
      | (refine ifP_intro (fun hyp => ?_) (fun hyp => ?_) <;> first | simp (maxSteps := 4000000) (disch := first | assumption | omega | (simp only [push_next, put_next, empty_next, List.length_cons, List.length_nil] <;> omega) | exact _root_.id rfl | exact _root_.id (fun _ => rfl) | fail) only [↓pre, post, Int.reduceEq, Int.reduceLT, Int.reduceLE, Int.reduceAdd, Int.reduceSub, Int.reduceMul, Int.reduceNeg, Nat.reduceLT, Nat.reduceSub, Nat.reduceMul, Nat.reduceAdd, Nat.reduceLeDiff, reduceIte, reduceCtorEq, Nat.reduceEqDiff, refReady_v, eq_true hr, hp, eq_false hyp] | simp (maxSteps := 4000000) (disch := first | assumption | omega | (simp only [push_next, put_next, empty_next, List.length_cons, List.length_nil] <;> omega) | exact _root_.id rfl | exact _root_.id (fun _ => rfl) | fail) only [↓pre, post, Int.reduceEq, Int.reduceLT, Int.reduceLE, Int.reduceAdd, Int.reduceSub, Int.reduceMul, Int.reduceNeg, Nat.reduceLT, Nat.reduceSub, Nat.reduceMul, Nat.reduceAdd, Nat.reduceLeDiff, reduceIte, reduceCtorEq, Nat.reduceEqDiff, refReady_v, eq_true hr, hp, eq_true hyp] | skip))
    refine w_loop (fun m vs h0 => ∃ (i : Nat) (tk : Tok) (x6 x7 x8 : AVal), m = l.length - i ∧ i ≤ l.length ∧ Grow h0 3 1 tk ∧ (tk = .nil ↔ i = 0) ∧
      vs = [.sl (items l) t, .int .i64 w, .sl [] .nil, .sl (((rdualsS l w).take i).map (.int .i64)) tk, .sl (ps.map fun q => Pl.toA q.strip) .none, .int .i64 i, x6, x7, x8]) l.length
      ⟨0, .nil, _, _, _, rfl, by omega, .inl rfl, by simp, rfl⟩ ?_
    rintro m vs h0 ⟨i, tk, x6, x7, x8, rfl, hi, hg, hn, rfl⟩
    have hrl : (rdualsS l w).length = l.length := by rw [hdl, List.length_map, hpl]
    have hnil : tk = .nil ↔ (rdualsS l w).take i = [] := by
      rw [hn]
      constructor
      · rintro rfl; rfl
      · intro h
        have := congrArg List.length h
        simp only [List.length_take, List.length_nil] at this
        omega
    have htk : ∀ v, i < l.length → nth (rdualsS l w) i = v → (rdualsS l w).take (i + 1) = (rdualsS l w).take i ++ [v] := fun v h e => by
      rw [List.take_succ_eq_append_getElem (by omega), ← nth_eq (by omega), e]
    have hval : i < l.length → nth (rdualsS l w) i = if (nth ps i).is = true then (nth ps i).cost else -1 := fun h => by rw [hdl, nth_map _ _ (by omega)]
    try simp (maxSteps := 4000000) (disch := first | assumption | omega | (simp only [push_next, put_next, empty_next, List.length_cons, List.length_nil] <;> omega) | exact _root_.id rfl | exact _root_.id (fun _ => rfl) | fail) only [↓pre, post, Int.reduceEq, Int.reduceLT, Int.reduceLE, Int.reduceAdd, Int.reduceSub, Int.reduceMul, Int.reduceNeg, Nat.reduceLT, Nat.reduceSub, Nat.reduceMul, Nat.reduceAdd, Nat.reduceLeDiff, reduceIte, reduceCtorEq, Nat.reduceEqDiff, Pl.toA, Pl.strip, hpl]
    repeat' (first
      | (refine ifP_pos (by first | assumption | omega) ?_ <;> try simp (maxSteps := 4000000) (disch := first | assumption | omega | (simp only [push_next, put_next, empty_next, List.length_cons, List.length_nil] <;> omega) | exact _root_.id rfl | exact _root_.id (fun _ => rfl) | fail) only [↓pre, post, Int.reduceEq, Int.reduceLT, Int.reduceLE, Int.reduceAdd, Int.reduceSub, Int.reduceMul, Int.reduceNeg, Nat.reduceLT, Nat.reduceSub, Nat.reduceMul, Nat.reduceAdd, Nat.reduceLeDiff, reduceIte, reduceCtorEq, Nat.reduceEqDiff, Pl.toA, Pl.strip, hpl])
      | (refine ifP_neg (by first | assumption | omega) ?_ <;> try simp (maxSteps := 4000000) (disch := first | assumption | omega | (simp only [push_next, put_next, empty_next, List.length_cons, List.length_nil] <;> omega) | exact _root_.id rfl | exact _root_.id (fun _ => rfl) | fail) only [↓pre, post, Int.reduceEq, Int.reduceLT, Int.reduceLE, Int.reduceAdd, Int.reduceSub, Int.reduceMul, Int.reduceNeg, Nat.reduceLT, Nat.reduceSub, Nat.reduceMul, Nat.reduceAdd, Nat.reduceLeDiff, reduceIte, reduceCtorEq, Nat.reduceEqDiff, Pl.toA, Pl.strip, hpl])
      | (refine ifP_intro (fun hyp => ?_) (fun hyp => ?_) <;> first | simp (maxSteps := 4000000) (disch := first | assumption | omega | (simp only [push_next, put_next, empty_next, List.length_cons, List.length_nil] <;> omega) | exact _root_.id rfl | exact _root_.id (fun _ => rfl) | fail) only [↓pre, post, Int.reduceEq, Int.reduceLT, Int.reduceLE, Int.reduceAdd, Int.reduceSub, Int.reduceMul, Int.reduceNeg, Nat.reduceLT, Nat.reduceSub, Nat.reduceMul, Nat.reduceAdd, Nat.reduceLeDiff, reduceIte, reduceCtorEq, Nat.reduceEqDiff, Pl.toA, Pl.strip, hpl, eq_false hyp] | simp (maxSteps := 4000000) (disch := first | assumption | omega | (simp only [push_next, put_next, empty_next, List.length_cons, List.length_nil] <;> omega) | exact _root_.id rfl | exact _root_.id (fun _ => rfl) | fail) only [↓pre, post, Int.reduceEq, Int.reduceLT, Int.reduceLE, Int.reduceAdd, Int.reduceSub, Int.reduceMul, Int.reduceNeg, Nat.reduceLT, Nat.reduceSub, Nat.reduceMul, Nat.reduceAdd, Nat.reduceLeDiff, reduceIte, reduceCtorEq, Nat.reduceEqDiff, Pl.toA, Pl.strip, hpl, eq_true hyp] | skip))
    · refine append_K (f := AVal.int .i64) ((rdualsS l w).take i) [(nth ps i).cost] (fun _ => rfl) (fun _ => rfl) (fun _ => rfl) rfl rfl hg hnil (by simp; omega) (by omega) (by omega) (by omega) ?_
      intro h' tk' g' n' _ _ _ _
      try simp (maxSteps := 4000000) (disch := first | assumption | omega | (simp only [push_next, put_next, empty_next, List.length_cons, List.length_nil] <;> omega) | exact _root_.id rfl | exact _root_.id (fun _ => rfl) | fail) only [↓pre, post, Int.reduceEq, Int.reduceLT, Int.reduceLE, Int.reduceAdd, Int.reduceSub, Int.reduceMul, Int.reduceNeg, Nat.reduceLT, Nat.reduceSub, Nat.reduceMul, Nat.reduceAdd, Nat.reduceLeDiff, reduceIte, reduceCtorEq, Nat.reduceEqDiff]
      repeat' (first
        | (refine ifP_pos (by first | assumption | omega) ?_ <;> try simp (maxSteps := 4000000) (disch := first | assumption | omega | (simp only [push_next, put_next, empty_next, List.length_cons, List.length_nil] <;> omega) | exact _root_.id rfl | exact _root_.id (fun _ => rfl) | fail) only [↓pre, post, Int.reduceEq, Int.reduceLT, Int.reduceLE, Int.reduceAdd, Int.reduceSub, Int.reduceMul, Int.reduceNeg, Nat.reduceLT, Nat.reduceSub, Nat.reduceMul, Nat.reduceAdd, Nat.reduceLeDiff, reduceIte, reduceCtorEq, Nat.reduceEqDiff])
        | (refine ifP_neg (by first | assumption | omega) ?_ <;> try simp (maxSteps := 4000000) (disch := first | assumption | omega | (simp only [push_next, put_next, empty_next, List.length_cons, List.length_nil] <;> omega) | exact _root_.id rfl | exact _root_.id (fun _ => rfl) | fail) only [↓pre, post, Int.reduceEq, Int.reduceLT, Int.reduceLE, Int.reduceAdd, Int.reduceSub, Int.reduceMul, Int.reduceNeg, Nat.reduceLT, Nat.reduceSub, Nat.reduceMul, Nat.reduceAdd, Nat.reduceLeDiff, reduceIte, reduceCtorEq, Nat.reduceEqDiff])
        | (refine ifP_intro (fun hyp => ?_) (fun hyp => ?_) <;> first | simp (maxSteps := 4000000) (disch := first | assumption | omega | (simp only [push_next, put_next, empty_next, List.length_cons, List.length_nil] <;> omega) | exact _root_.id rfl | exact _root_.id (fun _ => rfl) | fail) only [↓pre, post, Int.reduceEq, Int.reduceLT, Int.reduceLE, Int.reduceAdd, Int.reduceSub, Int.reduceMul, Int.reduceNeg, Nat.reduceLT, Nat.reduceSub, Nat.reduceMul, Nat.reduceAdd, Nat.reduceLeDiff, reduceIte, reduceCtorEq, Nat.reduceEqDiff, eq_false hyp] | simp (maxSteps := 4000000) (disch := first | assumption | omega | (simp only [push_next, put_next, empty_next, List.length_cons, List.length_nil] <;> omega) | exact _root_.id rfl | exact _root_.id (fun _ => rfl) | fail) only [↓pre, post, Int.reduceEq, Int.reduceLT, Int.reduceLE, Int.reduceAdd, Int.reduceSub, Int.reduceMul, Int.reduceNeg, Nat.reduceLT, Nat.reduceSub, Nat.reduceMul, Nat.reduceAdd, Nat.reduceLeDiff, reduceIte, reduceCtorEq, Nat.reduceEqDiff, eq_true hyp] | skip))
      exact lp_n ⟨l.length - (i + 1), by omega, i + 1, tk', _, _, _, rfl, by omega, g', by rw [n']; simp, by rw [htk _ (by omega) (by rw [hval (by omega), if_pos hyp])]; rfl⟩
    · refine append_K (f := AVal.int .i64) ((rdualsS l w).take i) [-1] (fun _ => rfl) (fun _ => rfl) (fun _ => rfl) rfl rfl hg hnil (by simp; omega) (by omega) (by omega) (by omega) ?_
      intro h' tk' g' n' _ _ _ _
      try simp (maxSteps := 4000000) (disch := first | assumption | omega | (simp only [push_next, put_next, empty_next, List.length_cons, List.length_nil] <;> omega) | exact _root_.id rfl | exact _root_.id (fun _ => rfl) | fail) only [↓pre, post, Int.reduceEq, Int.reduceLT, Int.reduceLE, Int.reduceAdd, Int.reduceSub, Int.reduceMul, Int.reduceNeg, Nat.reduceLT, Nat.reduceSub, Nat.reduceMul, Nat.reduceAdd, Nat.reduceLeDiff, reduceIte, reduceCtorEq, Nat.reduceEqDiff]
      repeat' (first
        | (refine ifP_pos (by first | assumption | omega) ?_ <;> try simp (maxSteps := 4000000) (disch := first | assumption | omega | (simp only [push_next, put_next, empty_next, List.length_cons, List.length_nil] <;> omega) | exact _root_.id rfl | exact _root_.id (fun _ => rfl) | fail) only [↓pre, post, Int.reduceEq, Int.reduceLT, Int.reduceLE, Int.reduceAdd, Int.reduceSub, Int.reduceMul, Int.reduceNeg, Nat.reduceLT, Nat.reduceSub, Nat.reduceMul, Nat.reduceAdd, Nat.reduceLeDiff, reduceIte, reduceCtorEq, Nat.reduceEqDiff])
        | (refine ifP_neg (by first | assumption | omega) ?_ <;> try simp (maxSteps := 4000000) (disch := first | assumption | omega | (simp only [push_next, put_next, empty_next, List.length_cons, List.length_nil] <;> omega) | exact _root_.id rfl | exact _root_.id (fun _ => rfl) | fail) only [↓pre, post, Int.reduceEq, Int.reduceLT, Int.reduceLE, Int.reduceAdd, Int.reduceSub, Int.reduceMul, Int.reduceNeg, Nat.reduceLT, Nat.reduceSub, Nat.reduceMul, Nat.reduceAdd, Nat.reduceLeDiff, reduceIte, reduceCtorEq, Nat.reduceEqDiff])
        | (refine ifP_intro (fun hyp => ?_) (fun hyp => ?_) <;> first | simp (maxSteps := 4000000) (disch := first | assumption | omega | (simp only [push_next, put_next, empty_next, List.length_cons, List.length_nil] <;> omega) | exact _root_.id rfl | exact _root_.id (fun _ => rfl) | fail) only [↓pre, post, Int.reduceEq, Int.reduceLT, Int.reduceLE, Int.reduceAdd, Int.reduceSub, Int.reduceMul, Int.reduceNeg, Nat.reduceLT, Nat.reduceSub, Nat.reduceMul, Nat.reduceAdd, Nat.reduceLeDiff, reduceIte, reduceCtorEq, Nat.reduceEqDiff, eq_false hyp] | simp (maxSteps := 4000000) (disch := first | assumption | omega | (simp only [push_next, put_next, empty_next, List.length_cons, List.length_nil] <;> omega) | exact _root_.id rfl | exact _root_.id (fun _ => rfl) | fail) only [↓pre, post, Int.reduceEq, Int.reduceLT, Int.reduceLE, Int.reduceAdd, Int.reduceSub, Int.reduceMul, Int.reduceNeg, Nat.reduceLT, Nat.reduceSub, Nat.reduceMul, Nat.reduceAdd, Nat.reduceLeDiff, reduceIte, reduceCtorEq, Nat.reduceEqDiff, eq_true hyp] | skip))
      exact lp_n ⟨l.length - (i + 1), by omega, i + 1, tk', _, _, _, rfl, by omega, g', by rw [n']; simp, by rw [htk _ (by omega) (by rw [hval (by omega), if_neg hyp])]; rfl⟩
    · refine ⟨tk, ?_, hg, fun h => by have := hn.1 h; omega⟩
      rw [List.take_of_length_le (by omega)]
  · rw [if_neg hr]
    refine PV_wp (fn := c18) rfl ?_
    dsimp only [c18]
    try simp (maxSteps := 4000000) (disch := first | assumption | omega | (simp only [push_next, put_next, empty_next, List.length_cons, List.length_nil] <;> omega) | exact _root_.id rfl | exact _root_.id (fun _ => rfl) | fail) only [↓pre, post, Int.reduceEq, Int.reduceLT, Int.reduceLE, Int.reduceAdd, Int.reduceSub, Int.reduceMul, Int.reduceNeg, Nat.reduceLT, Nat.reduceSub, Nat.reduceMul, Nat.reduceAdd, Nat.reduceLeDiff, reduceIte, reduceCtorEq, Nat.reduceEqDiff, refReady_v, eq_false hr]
    repeat' (first
      | (refine ifP_pos (by first | assumption | omega) ?_ <;> try simp (maxSteps := 4000000) (disch := first | assumption | omega | (simp only [push_next, put_next, empty_next, List.length_cons, List.length_nil] <;> omega) | exact _root_.id rfl | exact _root_.id (fun _ => rfl) | fail) only [↓pre, post, Int.reduceEq, Int.reduceLT, Int.reduceLE, Int.reduceAdd, Int.reduceSub, Int.reduceMul, Int.reduceNeg, Nat.reduceLT, Nat.reduceSub, Nat.reduceMul, Nat.reduceAdd, Nat.reduceLeDiff, reduceIte, reduceCtorEq, Nat.reduceEqDiff, refReady_v, eq_false hr])
      | (refine ifP_neg (by first | assumption | omega) ?_ <;> try simp (maxSteps := 4000000) (disch := first | assumption | omega | (simp only [push_next, put_next, empty_next, List.length_cons, List.length_nil] <;> omega) | exact _root_.id rfl | exact _root_.id (fun _ => rfl) | fail) only [↓pre, post, Int.reduceEq, Int.reduceLT, Int.reduceLE, Int.reduceAdd, Int.reduceSub, Int.reduceMul, Int.reduceNeg, Nat.reduceLT, Nat.reduceSub, Nat.reduceMul, Nat.reduceAdd, Nat.reduceLeDiff, reduceIte, reduceCtorEq, Nat.reduceEqDiff, refReady_v, eq_false hr])
      | (refine ifP_intro (fun hyp => ?_) (fun hyp => ?_) <;> first | simp (maxSteps := 4000000) (disch := first | assumption | omega | (simp only [push_next, put_next, empty_next, List.length_cons, List.length_nil] <;> omega) | exact _root_.id rfl | exact _root_.id (fun _ => rfl) | fail) only [↓pre, post, Int.reduceEq, Int.reduceLT, Int.reduceLE, Int.reduceAdd, Int.reduceSub, Int.reduceMul, Int.reduceNeg, Nat.reduceLT, Nat.reduceSub, Nat.reduceMul, Nat.reduceAdd, Nat.reduceLeDiff, reduceIte, reduceCtorEq, Nat.reduceEqDiff, refReady_v, eq_false hr, eq_false hyp] | simp (maxSteps := 4000000) (disch := first | assumption | omega | (simp only [push_next, put_next, empty_next, List.length_cons, List.length_nil] <;> omega) | exact _root_.id rfl | exact _root_.id (fun _ => rfl) | fail) only [↓pre, post, Int.reduceEq, Int.reduceLT, Int.reduceLE, Int.reduceAdd, Int.reduceSub, Int.reduceMul, Int.reduceNeg, Nat.reduceLT, Nat.reduceSub, Nat.reduceMul, Nat.reduceAdd, Nat.reduceLeDiff, reduceIte, reduceCtorEq, Nat.reduceEqDiff, refReady_v, eq_false hr, eq_true hyp] | skip))

theorem refBreak_v {l : List Item} {t : Tok} {w : Int} (ht : Pt t) (hl : l.length < 100000) : ∃ tk, Pt tk ∧ PV F 14 [.sl (items l) t, .int .i64 w] = some (if widthOk w ∧ valid l then (if (nth (plansS l w) (l.length - 1)).is = true then .tup [.sl ((nth (plansS l w) (l.length - 1)).lines.map Ln.toA) tk, .int .i64 (nth (plansS l w) (l.length - 1)).cost, .int .i64 0] else .tup [.sl [] .nil, .int .i64 0, .int .i64 18]) else .tup [.sl [] .nil, .int .i64 0, .int .i64 1]) := by
  by_cases hr : widthOk w ∧ valid l
  · have hl1 := hr.2.1
    have hl2 := hr.2.2.1
    obtain ⟨ps, hp, her, hb⟩ := plans_v (w := w) ht hr.2 hr.1
    have hpl : ps.length = l.length := by rw [← plansS_len l w, ← her, List.length_map]
    have hq : nth (plansS l w) (l.length - 1) = (nth ps (l.length - 1)).er := by rw [← her, nth_map _ _ (by omega)]
    have htok : Pt (nth ps (l.length - 1)).strip.tok := by
      simp only [Pl.strip]
      split
      · exact .inr rfl
      · exact .inl rfl
    refine ⟨(nth ps (l.length - 1)).strip.tok, htok, ?_⟩
    rw [if_pos hr, hq]
    generalize hQ : nth ps (l.length - 1) = Q at htok
    have hst : Pl.toA Q.strip = .agg [.sl (Q.lines.map Ln.toA) Q.strip.tok, .int .i64 Q.cost, .bool Q.is] := rfl
    refine PV_wp (fn := c14) rfl ?_
    dsimp only [c14]
    try simp (maxSteps := 4000000) (disch := first | assumption | omega | (simp only [push_next, put_next, empty_next, List.length_cons, List.length_nil] <;> omega) | exact _root_.id rfl | exact _root_.id (fun _ => rfl) | fail) only [↓pre, post, Int.reduceEq, Int.reduceLT, Int.reduceLE, Int.reduceAdd, Int.reduceSub, Int.reduceMul, Int.reduceNeg, Nat.reduceLT, Nat.reduceSub, Nat.reduceMul, Nat.reduceAdd, Nat.reduceLeDiff, reduceIte, reduceCtorEq, Nat.reduceEqDiff, refReady_v, eq_true hr, hp, hpl, hQ, hst]
    repeat' (first
      | (refine ifP_pos (by first | assumption | omega) ?_ <;> try simp (maxSteps := 4000000) (disch := first | assumption | omega | (simp only [push_next, put_next, empty_next, List.length_cons, List.length_nil] <;> omega) | exact _root_.id rfl | exact _root_.id (fun _ => rfl) | fail) only [↓pre, post, Int.reduceEq, Int.reduceLT, Int.reduceLE, Int.reduceAdd, Int.reduceSub, Int.reduceMul, Int.reduceNeg, Nat.reduceLT, Nat.reduceSub, Nat.reduceMul, Nat.reduceAdd, Nat.reduceLeDiff, reduceIte, reduceCtorEq, Nat.reduceEqDiff, refReady_v, eq_true hr, hp, hpl, hQ, hst])
      | (refine ifP_neg (by first | assumption | omega) ?_ <;> try simp (maxSteps := 4000000) (disch := first | assumption | omega | (simp only [push_next, put_next, empty_next, List.length_cons, List.length_nil] <;> omega) | exact _root_.id rfl | exact _root_.id (fun _ => rfl) | fail) only [↓pre, post, Int.reduceEq, Int.reduceLT, Int.reduceLE, Int.reduceAdd, Int.reduceSub, Int.reduceMul, Int.reduceNeg, Nat.reduceLT, Nat.reduceSub, Nat.reduceMul, Nat.reduceAdd, Nat.reduceLeDiff, reduceIte, reduceCtorEq, Nat.reduceEqDiff, refReady_v, eq_true hr, hp, hpl, hQ, hst])
      | (refine ifP_intro (fun hyp => ?_) (fun hyp => ?_) <;> first | simp (maxSteps := 4000000) (disch := first | assumption | omega | (simp only [push_next, put_next, empty_next, List.length_cons, List.length_nil] <;> omega) | exact _root_.id rfl | exact _root_.id (fun _ => rfl) | fail) only [↓pre, post, Int.reduceEq, Int.reduceLT, Int.reduceLE, Int.reduceAdd, Int.reduceSub, Int.reduceMul, Int.reduceNeg, Nat.reduceLT, Nat.reduceSub, Nat.reduceMul, Nat.reduceAdd, Nat.reduceLeDiff, reduceIte, reduceCtorEq, Nat.reduceEqDiff, refReady_v, eq_true hr, hp, hpl, hQ, hst, eq_false hyp] | simp (maxSteps := 4000000) (disch := first | assumption | omega | (simp only [push_next, put_next, empty_next, List.length_cons, List.length_nil] <;> omega) | exact _root_.id rfl | exact _root_.id (fun _ => rfl) | fail) only [↓pre, post, Int.reduceEq, Int.reduceLT, Int.reduceLE, Int.reduceAdd, Int.reduceSub, Int.reduceMul, Int.reduceNeg, Nat.reduceLT, Nat.reduceSub, Nat.reduceMul, Nat.reduceAdd, Nat.reduceLeDiff, reduceIte, reduceCtorEq, Nat.reduceEqDiff, refReady_v, eq_true hr, hp, hpl, hQ, hst, eq_true hyp] | skip))
    · rw [if_pos (by simpa [Pl.er] using hyp)]; rfl
    · rw [if_neg (by simpa [Pl.er] using hyp)]
  · refine ⟨.none, .inl rfl, ?_⟩
    rw [if_neg hr]
    refine PV_wp (fn := c14) rfl ?_
    dsimp only [c14]
    try simp (maxSteps := 4000000) (disch := first | assumption | omega | (simp only [push_next, put_next, empty_next, List.length_cons, List.length_nil] <;> omega) | exact _root_.id rfl | exact _root_.id (fun _ => rfl) | fail) only [↓pre, post, Int.reduceEq, Int.reduceLT, Int.reduceLE, Int.reduceAdd, Int.reduceSub, Int.reduceMul, Int.reduceNeg, Nat.reduceLT, Nat.reduceSub, Nat.reduceMul, Nat.reduceAdd, Nat.reduceLeDiff, reduceIte, reduceCtorEq, Nat.reduceEqDiff, refReady_v, eq_false hr]
    repeat' (first
      | (refine ifP_pos (by first | assumption | omega) ?_ <;> try simp (maxSteps := 4000000) (disch := first | assumption | omega | (simp only [push_next, put_next, empty_next, List.length_cons, List.length_nil] <;> omega) | exact _root_.id rfl | exact _root_.id (fun _ => rfl) | fail) only [↓pre, post, Int.reduceEq, Int.reduceLT, Int.reduceLE, Int.reduceAdd, Int.reduceSub, Int.reduceMul, Int.reduceNeg, Nat.reduceLT, Nat.reduceSub, Nat.reduceMul, Nat.reduceAdd, Nat.reduceLeDiff, reduceIte, reduceCtorEq, Nat.reduceEqDiff, refReady_v, eq_false hr])
      | (refine ifP_neg (by first | assumption | omega) ?_ <;> try simp (maxSteps := 4000000) (disch := first | assumption | omega | (simp only [push_next, put_next, empty_next, List.length_cons, List.length_nil] <;> omega) | exact _root_.id rfl | exact _root_.id (fun _ => rfl) | fail) only [↓pre, post, Int.reduceEq, Int.reduceLT, Int.reduceLE, Int.reduceAdd, Int.reduceSub, Int.reduceMul, Int.reduceNeg, Nat.reduceLT, Nat.reduceSub, Nat.reduceMul, Nat.reduceAdd, Nat.reduceLeDiff, reduceIte, reduceCtorEq, Nat.reduceEqDiff, refReady_v, eq_false hr])
      | (refine ifP_intro (fun hyp => ?_) (fun hyp => ?_) <;> first | simp (maxSteps := 4000000) (disch := first | assumption | omega | (simp only [push_next, put_next, empty_next, List.length_cons, List.length_nil] <;> omega) | exact _root_.id rfl | exact _root_.id (fun _ => rfl) | fail) only [↓pre, post, Int.reduceEq, Int.reduceLT, Int.reduceLE, Int.reduceAdd, Int.reduceSub, Int.reduceMul, Int.reduceNeg, Nat.reduceLT, Nat.reduceSub, Nat.reduceMul, Nat.reduceAdd, Nat.reduceLeDiff, reduceIte, reduceCtorEq, Nat.reduceEqDiff, refReady_v, eq_false hr, eq_false hyp] | simp (maxSteps := 4000000) (disch := first | assumption | omega | (simp only [push_next, put_next, empty_next, List.length_cons, List.length_nil] <;> omega) | exact _root_.id rfl | exact _root_.id (fun _ => rfl) | fail) only [↓pre, post, Int.reduceEq, Int.reduceLT, Int.reduceLE, Int.reduceAdd, Int.reduceSub, Int.reduceMul, Int.reduceNeg, Nat.reduceLT, Nat.reduceSub, Nat.reduceMul, Nat.reduceAdd, Nat.reduceLeDiff, reduceIte, reduceCtorEq, Nat.reduceEqDiff, refReady_v, eq_false hr, eq_true hyp] | skip))

/-- A list of lines with one thing changed: some list. -/
theorem turned_v {ls : List Ln} {t : Tok} {a h b : Int} (ht : Pt t) (h1 : 1 ≤ ls.length) (h2 : ls.length ≤ 1000) (ha : i64 a) (hh : i64 h) (hb : i64 b) (hls : ∀ x ∈ ls, -1000000 ≤ x.a ∧ x.a ≤ 1000000 ∧ -1000000 ≤ x.b ∧ x.b ≤ 1000000 ∧ -100000000 ≤ x.n ∧ x.n ≤ 100000000) :
    ∃ lb : List Ln, PV F 21 [.sl (ls.map Ln.toA) t, .int .i64 a, .int .i64 h, .int .i64 b] = some (.sl (lb.map Ln.toA) .none) ∧ lb.length ≤ 1001 ∧ ∀ x ∈ lb, i64 x.b := by
  suffices hsf : CV F 21 [.sl (ls.map Ln.toA) t, .int .i64 a, .int .i64 h, .int .i64 b] Heap.empty (fun r h' => ∃ (lb : List Ln) (id n : Nat), r = .ref id 0 n 3 ∧ h'.get id = some (.row true 3 true (flat (lb.map Ln.toA))) ∧ n ≤ lb.length ∧ lb.length ≤ 1001 ∧ ∀ x ∈ lb, i64 x.b) by
    obtain ⟨r, h', c, lb, id, n, rfl, e1, e2, e3, e4⟩ := hsf
    refine ⟨lb.take n, PV_of c ?_, by simp; omega, fun x hx => e4 x (List.mem_of_mem_take hx)⟩
    rw [pu_ref, readRef_flat (sz := 3) (f := Ln.toA) (g := Ln.toA) (fun _ => rfl) (fun _ => rfl) true (fun _ => rfl) (fun _ => rfl) lb e1 e2]; rfl
  refine CV_wp (fn := c21) rfl ?_
  have A1 := append_arr_nil (f := Ln.toA) (ty := 41) (bytes := 24) (ag := true) (h := Heap.empty) (t := t) ls (sz := 3) (fun _ => rfl) h1 (by omega) (by omega) (by omega) (by omega)
  have B1 := around_bound a (m := ls.length) (by omega)
  have B2 := around_bound h (m := 6) (by omega)
  have B3 := around_bound b (m := 5) (by omega)
  have B4 := around_bound b (m := 3) (by omega)
  have hfl := flatm_len (f := Ln.toA) (sz := 3) (fun _ => rfl) ls
  generalize hk : aroundS a ls.length = k at B1
  have hkl : k.toNat < ls.length := by omega
  have hx := hls _ (nth_mem hkl)
  have D0 : List.take 1 (List.drop (k.toNat * 3) (flat (ls.map Ln.toA))) = [.int .i64 (nth ls k.toNat).a] := by
    have := flatm_get (f := Ln.toA) (sz := 3) (fun _ => rfl) ls (n := k.toNat) (k := 0) (m := 1) hkl (by omega)
    rw [Nat.add_zero] at this; rw [this]; rfl
  have D1 : List.take 1 (List.drop (k.toNat * 3 + 1) (flat (ls.map Ln.toA))) = [.int .i64 (nth ls k.toNat).b] := by
    rw [flatm_get (f := Ln.toA) (sz := 3) (fun _ => rfl) ls (n := k.toNat) (k := 1) (m := 1) hkl (by omega)]; rfl
  have D2 : List.take 1 (List.drop (k.toNat * 3 + 2) (flat (ls.map Ln.toA))) = [.int .i64 (nth ls k.toNat).n] := by
    rw [flatm_get (f := Ln.toA) (sz := 3) (fun _ => rfl) ls (n := k.toNat) (k := 2) (m := 1) hkl (by omega)]; rfl
  have D3 : List.take 3 (List.drop (k.toNat * 3) (flat (ls.map Ln.toA))) = [.int .i64 (nth ls k.toNat).a, .int .i64 (nth ls k.toNat).b, .int .i64 (nth ls k.toNat).n] := by
    have := flatm_get (f := Ln.toA) (sz := 3) (fun _ => rfl) ls (n := k.toNat) (k := 0) (m := 3) hkl (by omega)
    rw [Nat.add_zero] at this; rw [this]; rfl
  have hall : ∀ x ∈ ls, i64 x.b := fun x hx => by have := hls x hx; unfold i64; omega
  have fin2 : ∀ (off : Nat) (c : AVal) (x' : Ln) (h' : Heap), off < 3 → x'.toA.cells = (nth ls k.toNat).toA.cells.set off c → i64 x'.b → h'.get 0 = some (.row true 3 true ((flat (ls.map Ln.toA)).set (k.toNat * 3 + off) c)) →
      ∃ (lb : List Ln) (id n : Nat), AVal.ref 0 0 ls.length 3 = .ref id 0 n 3 ∧ h'.get id = some (.row true 3 true (flat (lb.map Ln.toA))) ∧ n ≤ lb.length ∧ lb.length ≤ 1001 ∧ ∀ x ∈ lb, i64 x.b := fun off c x' h' ho hx ht hr => by
    refine ⟨ls.set k.toNat x', 0, ls.length, rfl, by rw [hr, set_flat (f := Ln.toA) (sz := 3) (fun _ => rfl) ls x' hkl ho hx], by simp, by simp; omega, fun y hy => ?_⟩
    rcases List.mem_or_eq_of_mem_set hy with hy | rfl
    · exact hall y hy
    · exact ht
  have A2 := append_arr_ref (f := Ln.toA) (sz := 3) (ty := 41) (bytes := 24) (ag := true) (n := ls.length) (id := 0) (j := 1) (ag' := true) (mu := true) (s2 := 3) (a2 := true) (h := (Heap.empty.push (.row true 3 true (flat (ls.map Ln.toA)))).push (.row true 3 true (Ln.toA (nth ls k.toNat)).cells)) ls (nth ls k.toNat) (fun _ => rfl) rfl rfl (by omega) (by omega) (by omega) (by omega) rfl
  have hxb : i64 (nth ls k.toNat).b := by unfold i64; omega
  have hbb := hb
  obtain ⟨hb1, hb2⟩ := hb
  have e0 : (Ln.toA (nth ls k.toNat)).cells = [.int .i64 (nth ls k.toNat).a, .int .i64 (nth ls k.toNat).b, .int .i64 (nth ls k.toNat).n] := rfl
  rw [e0] at A2
  dsimp only [c21]
  try simp (maxSteps := 4000000) (disch := first | assumption | omega | (simp only [push_next, put_next, empty_next, List.length_cons, List.length_nil] <;> omega) | exact _root_.id rfl | exact _root_.id (fun _ => rfl) | fail) only [↓pre, post, Int.reduceEq, Int.reduceLT, Int.reduceLE, Int.reduceAdd, Int.reduceSub, Int.reduceMul, Int.reduceNeg, Nat.reduceLT, Nat.reduceSub, Nat.reduceMul, Nat.reduceAdd, Nat.reduceLeDiff, reduceIte, reduceCtorEq, Nat.reduceEqDiff, A1, around_v, hfl, hk, D0, D1, D2, D3, A2]
  repeat' (first
    | (refine ifP_pos (by first | assumption | omega) ?_ <;> try simp (maxSteps := 4000000) (disch := first | assumption | omega | (simp only [push_next, put_next, empty_next, List.length_cons, List.length_nil] <;> omega) | exact _root_.id rfl | exact _root_.id (fun _ => rfl) | fail) only [↓pre, post, Int.reduceEq, Int.reduceLT, Int.reduceLE, Int.reduceAdd, Int.reduceSub, Int.reduceMul, Int.reduceNeg, Nat.reduceLT, Nat.reduceSub, Nat.reduceMul, Nat.reduceAdd, Nat.reduceLeDiff, reduceIte, reduceCtorEq, Nat.reduceEqDiff, A1, around_v, hfl, hk, D0, D1, D2, D3, A2])
    | (refine ifP_neg (by first | assumption | omega) ?_ <;> try simp (maxSteps := 4000000) (disch := first | assumption | omega | (simp only [push_next, put_next, empty_next, List.length_cons, List.length_nil] <;> omega) | exact _root_.id rfl | exact _root_.id (fun _ => rfl) | fail) only [↓pre, post, Int.reduceEq, Int.reduceLT, Int.reduceLE, Int.reduceAdd, Int.reduceSub, Int.reduceMul, Int.reduceNeg, Nat.reduceLT, Nat.reduceSub, Nat.reduceMul, Nat.reduceAdd, Nat.reduceLeDiff, reduceIte, reduceCtorEq, Nat.reduceEqDiff, A1, around_v, hfl, hk, D0, D1, D2, D3, A2])
    | (refine ifP_intro (fun hyp => ?_) (fun hyp => ?_) <;> first | simp (maxSteps := 4000000) (disch := first | assumption | omega | (simp only [push_next, put_next, empty_next, List.length_cons, List.length_nil] <;> omega) | exact _root_.id rfl | exact _root_.id (fun _ => rfl) | fail) only [↓pre, post, Int.reduceEq, Int.reduceLT, Int.reduceLE, Int.reduceAdd, Int.reduceSub, Int.reduceMul, Int.reduceNeg, Nat.reduceLT, Nat.reduceSub, Nat.reduceMul, Nat.reduceAdd, Nat.reduceLeDiff, reduceIte, reduceCtorEq, Nat.reduceEqDiff, A1, around_v, hfl, hk, D0, D1, D2, D3, A2, eq_false hyp] | simp (maxSteps := 4000000) (disch := first | assumption | omega | (simp only [push_next, put_next, empty_next, List.length_cons, List.length_nil] <;> omega) | exact _root_.id rfl | exact _root_.id (fun _ => rfl) | fail) only [↓pre, post, Int.reduceEq, Int.reduceLT, Int.reduceLE, Int.reduceAdd, Int.reduceSub, Int.reduceMul, Int.reduceNeg, Nat.reduceLT, Nat.reduceSub, Nat.reduceMul, Nat.reduceAdd, Nat.reduceLeDiff, reduceIte, reduceCtorEq, Nat.reduceEqDiff, A1, around_v, hfl, hk, D0, D1, D2, D3, A2, eq_true hyp] | skip))
  · exact fin2 0 _ { nth ls k.toNat with a := b } _ (by omega) rfl hxb rfl
  · exact fin2 1 _ { nth ls k.toNat with b := (nth ls k.toNat).b + aroundS b 5 - 2 } _ (by omega) rfl (by unfold i64; simp only; omega) rfl
  · exact fin2 2 _ { nth ls k.toNat with n := (nth ls k.toNat).n + aroundS b 3 - 1 } _ (by omega) rfl hxb rfl
  · exact ⟨ls, 0, _, rfl, rfl, by omega, by omega, hall⟩
  · refine ⟨ls ++ [nth ls k.toNat], 2, ls.length + 1, rfl, get_push_eq rfl, by simp, by simp; omega, fun y hy => ?_⟩
    rw [List.mem_append] at hy
    rcases hy with hy | hy
    · exact hall y hy
    · simp only [List.mem_singleton] at hy; subst hy; exact hxb
  · exact fin2 0 _ { nth ls k.toNat with a := (nth ls k.toNat).a + aroundS b 3 - 1 } _ (by omega) rfl hxb rfl

end Go.Proofs.Ytcammfdljiingaa

/-
  The law of Check, on the abstract machine.
-/
set_option linter.unusedSimpArgs false
set_option linter.unusedVariables false
set_option maxHeartbeats 8000000
namespace Go.Proofs.Ytcammfdljiingaa
open Go Go.Abs

def lnOk (x : Ln) : Prop := -1000000 ≤ x.a ∧ x.a ≤ 1000000 ∧ -1000000 ≤ x.b ∧ x.b ≤ 1000000 ∧ -100000000 ≤ x.n ∧ x.n ≤ 100000000
def Good (q : Pl) : Prop := (q.is = true → q.lines ≠ []) ∧ ∀ x ∈ q.lines, lnOk x

theorem fold_inv {α β : Type} (P : β → Prop) (f : β → α → β) : ∀ (l : List α) (s : β), P s → (∀ s x, x ∈ l → P s → P (f s x)) → P (l.foldl f s)
  | [], s, h, _ => h
  | x :: l, s, h, hs => fold_inv P f l (f s x) (hs s x (by simp) h) (fun s y hy => hs s y (by simp [hy]))

theorem set_inv {P : Pl → Prop} {s : List Pl} {k : Nat} {q : Pl} (h : ∀ i, P (nth s i)) (hq : P q) : ∀ i, P (nth (s.set k q) i) := by
  intro i
  by_cases hk : k = i
  · subst hk
    by_cases hl : k < s.length
    · rw [nth_set_self hl]; exact hq
    · rw [List.set_eq_of_length_le (by omega)]; exact h k
  · rw [nth_set_ne hk]; exact h i

theorem plans_good {l : List Item} {w : Int} (hv : valid l) : ∀ k, Good (nth (plansS l w) k) := by
  have hl := hv.2.1
  have hz : Good zeroPl := ⟨by simp [zeroPl], by simp [zeroPl]⟩
  have hd : Good default := ⟨fun h => absurd h (by decide), by simp [default, instInhabitedPl.default]⟩
  unfold plansS
  refine fold_inv (fun s => ∀ k, Good (nth s k)) _ _ _ ?_ ?_
  · intro k
    by_cases hk : k < l.length
    · rw [nth_replicate hk]; exact hz
    · rw [nth, List.getD_eq_getElem?_getD, List.getElem?_eq_none (by simp; omega)]; exact hd
  · intro s p hp hs
    rw [List.mem_range] at hp
    unfold rnd
    split
    · exact hs
    · have hq := hs (p - 1)
      generalize nth s (p - 1) = q at hq
      refine fold_inv (fun s => ∀ k, Good (nth s k)) _ _ _ hs ?_
      intro s x hx hs
      obtain ⟨m1, m2, m3, m4, m5⟩ := mem_linesAt hx
      have hb := nat_bound hv m1.1 m1.2.1
      have hk := skip_le (l := l) (p := p) (by omega)
      unfold bst
      split
      · refine set_inv hs ⟨by simp [newPl], fun y hy => ?_⟩
        simp only [newPl, List.mem_append, List.mem_singleton] at hy
        rcases hy with hy | rfl
        · split at hy
          · simp at hy
          · exact hq.2 y hy
        · rw [← m4] at hb
          unfold lnOk; simp only; omega
      · exact hs

theorem plans_bnd {l : List Item} {w : Int} (hv : valid l) (hw : widthOk w) : Bnd (plansS l w) := by
  obtain ⟨ps, _, _, h⟩ := plans_v (t := .none) (.inl rfl) hv hw
  exact h

theorem rduals_bnd {l : List Item} {w : Int} (hv : valid l) (hw : widthOk w) : ∀ x ∈ rdualsS l w, -1 ≤ x ∧ x ≤ 10000000000000 := by
  intro x hx
  have hl := hv.2.1
  unfold rdualsS at hx
  rw [List.mem_map] at hx
  obtain ⟨q, hq, rfl⟩ := hx
  obtain ⟨k, hk, rfl⟩ := List.getElem_of_mem hq
  have hb := plans_bnd hv hw k
  rw [nth_eq hk] at hb
  rw [plansS_len] at hk
  split <;> omega

/-- Lists with their rights. -/
structure LL where
  ls : List Ln
  tk : Tok
  deriving Inhabited
def LL.toA (x : LL) : AVal := .sl (x.ls.map Ln.toA) x.tk
structure DD where
  ds : List Int
  tk : Tok
  deriving Inhabited
def DD.toA (x : DD) : AVal := .sl (x.ds.map (.int .i64)) x.tk

theorem readI_take {d : List Int} {h : Heap} {id n : Nat} {mu : Bool} (hr : h.get id = some (.row mu 1 false (d.map (.int .i64)))) (hn : n ≤ d.length) : readRef h id 0 n 1 = some ((d.take n).map (.int .i64)) := by
  rw [← flat_int] at hr
  exact readRef_flat (sz := 1) (f := AVal.int .i64) (g := AVal.int .i64) (fun _ => rfl) (fun _ => rfl) false (fun _ => rfl) (fun _ => rfl) d hr hn

theorem lit3_v {D E : List Int} {k : Nat} {h : Heap} {mu : Bool} (hr : h.get 0 = some (.row mu 1 false (E.map (.int .i64)))) (hk : k ≤ E.length) :
    ∃ h2, litA 3 22 4 1 false [.sl [] .nil] (some [.sl (D.map (.int .i64)) .none, .ref 0 0 E.length 1, .ref 0 0 k 1, .sl [] .nil]) h = some (.sl (([⟨D, .none⟩, ⟨E, .none⟩, ⟨E.take k, .none⟩, ⟨[], .nil⟩] : List DD).map DD.toA) .none, h2) ∧ h2.get 0 = some (.row false 1 false (E.map (.int .i64))) := by
  have p1 : purifyL h [.sl (D.map (.int .i64)) .none, .ref 0 0 E.length 1, .ref 0 0 k 1, .sl [] .nil] = some [.sl (D.map (.int .i64)) .none, .sl (E.map (.int .i64)) .none, .sl ((E.take k).map (.int .i64)) .none, .sl [] .nil] := by
    simp only [puL_cons, puL_nil, pu_none, pu_nil, pu_ref, readI hr, readI_take hr hk, Option.map_some, sc_some]
  have hr2 : (h.put 0 (some (.row false 1 false (E.map (.int .i64))))).get 0 = some (.row false 1 false (E.map (.int .i64))) := get_put_old hr
  have f1 : Abs.freeze h (refIdsL [.sl (D.map (.int .i64)) .none, .ref 0 0 E.length 1, .ref 0 0 k 1, .sl [] .nil]) = some ((h.put 0 (some (.row false 1 false (E.map (.int .i64))))).put 0 (some (.row false 1 false (E.map (.int .i64))))) := by
    have e : refIdsL [.sl (D.map (.int .i64)) .none, .ref 0 0 E.length 1, .ref 0 0 k 1, .sl [] .nil] = [0, 0] := by simp [refIdsL, refIds]
    rw [e]
    simp only [Abs.freeze, hr, hr2]
  refine ⟨_, ?_, get_put_old hr2⟩
  simp only [litA, p1, f1]
  rfl

open Classical in
theorem checks_run {l : List Int} {tk : Tok} {a b c d : Int} (htk : Pt tk) (hl : ∀ x ∈ l, i64 x) (ha : i64 a) (hb : i64 b) (hc : i64 c) (hd : i64 d) :
    ∃ h', Gives F 4 [.sl (l.map (.int .i64)) tk, .int .i64 a, .int .i64 b, .int .i64 c, .int .i64 d] Heap.empty (.bool true) h' := by
  suffices hs : CV F 4 [.sl (l.map (.int .i64)) tk, .int .i64 a, .int .i64 b, .int .i64 c, .int .i64 d] Heap.empty (fun r _ => r = .bool true) by
    obtain ⟨r, h', g, rfl⟩ := hs; exact ⟨h', g⟩
  obtain ⟨li, e1, v1, s1, n1⟩ := items_v (t := tk) hl htk
  have B1 := around_bound a (m := 20) (by omega)
  generalize hw0 : aroundS a 20 = w0 at B1
  have hw : widthOk (3 + w0) := by unfold widthOk; omega
  have hw' : widthOk (3 + w0 + 1) := by unfold widthOk; omega
  have hr : widthOk (3 + w0) ∧ valid li := ⟨hw, v1⟩
  obtain ⟨t1, pt1, b1⟩ := refBreak_v (l := li) (t := .none) (w := 3 + w0) (.inl rfl) (by omega)
  obtain ⟨t2, pt2, b2⟩ := refBreak_v (l := li) (t := .none) (w := 3 + w0 + 1) (.inl rfl) (by omega)
  rw [if_pos hr] at b1
  rw [if_pos ⟨hw', v1⟩] at b2
  have d1 := refDuals_v (l := li) (t := .none) (w := 3 + w0) (.inl rfl) (by omega)
  rw [if_pos hr] at d1
  have hdb := rduals_bnd (w := 3 + w0) v1 hw
  have hdl : (rdualsS li (3 + w0)).length = li.length := by rw [rdualsS, List.length_map, plansS_len]
  have hl1 := v1.1
  generalize hD : rdualsS li (3 + w0) = D at d1 hdb hdl
  have hDi : ∀ x ∈ D, i64 x := fun x hx => by have := hdb x hx; unfold i64; omega
  have g1 := plans_good (w := 3 + w0) v1 (li.length - 1)
  have g2 := plans_good (w := 3 + w0 + 1) v1 (li.length - 1)
  have q1 := (plans_bnd (w := 3 + w0) v1 hw (li.length - 1)).2.2
  have q2 := (plans_bnd (w := 3 + w0 + 1) v1 hw' (li.length - 1)).2.2
  generalize nth (plansS li (3 + w0)) (li.length - 1) = P1 at b1 g1 q1
  generalize nth (plansS li (3 + w0 + 1)) (li.length - 1) = P2 at b2 g2 q2
  -- what Break of the wider lines gives
  obtain ⟨O, n2, ee2, e2, hO1, hO2, hO3⟩ : ∃ (O : LL) (n2 e2 : Int), PV F 14 [.sl (items li) .none, .int .i64 (3 + w0 + 1)] = some (.tup [LL.toA O, .int .i64 n2, .int .i64 e2]) ∧ Pt O.tk ∧ O.ls.length ≤ 1001 ∧ ∀ x ∈ O.ls, i64 x.b := by
    split at b2
    · exact ⟨⟨P2.lines, t2⟩, _, _, b2, pt2, by simp only; omega, fun x hx => by have := g2.2 x hx; unfold lnOk at this; unfold i64; omega⟩
    · exact ⟨⟨[], .nil⟩, _, _, b2, .inr rfl, by simp, by simp⟩
  have hCK : ∀ (lx : List Item) (tx : Tok) (w : Int) (x : LL) (y : DD), Pt tx → lx.length ≤ 100 → Pt x.tk → x.ls.length ≤ 1001 → (∀ z ∈ x.ls, i64 z.b) → Pt y.tk → y.ds.length ≤ 1000 → (∀ z ∈ y.ds, i64 z) →
      ∃ r : Int, PV F 20 [.sl (items lx) tx, .int .i64 w, LL.toA x, DD.toA y] = some (.int .i64 r) ∧ PV F 22 [.sl (items lx) tx, .int .i64 w, LL.toA x, DD.toA y] = some (.int .i64 r) :=
    fun lx tx w x y h1 h2 h3 h4 h5 h6 h7 h8 => ⟨_, check_v h1 h3 h6 (by omega) (by omega) h5 (by omega) h8, refCheck_v h1 h3 h6 (by omega) (by omega) h5 (by omega) h8⟩
  refine CV_wp (fn := c4) rfl ?_
  dsimp only [c4]
  by_cases h1 : P1.is = true
  · rw [if_pos h1] at b1
    have B2 := around_bound b (m := D.length) (by omega)
    generalize hk : aroundS b D.length = k at B2
    have A1 := append_arr_nil (f := AVal.int .i64) (ty := 3) (bytes := 8) (ag := false) (h := Heap.empty) (t := .none) D (sz := 1) (fun _ => rfl) (by omega) (by omega) (by omega) (by omega) (by omega)
    rw [flat_int] at A1
    have hDk := hdb _ (nth_mem (l := D) (i := k.toNat) (by omega))
    obtain ⟨hc1, hc2⟩ := hc
    have hq7 : i64 (c.tdiv 7) := by
      unfold i64
      rcases Int.le_total 0 c with h | h
      · rw [Int.tdiv_eq_ediv_of_nonneg h]; omega
      · have e : c.tdiv 7 = -((-c).tdiv 7) := by rw [Int.neg_tdiv]; omega
        rw [e, Int.tdiv_eq_ediv_of_nonneg (by omega)]; omega
    obtain ⟨q71, q72⟩ := hq7
    have B3 := around_bound (c.tdiv 7) (m := 6) (by omega)
    have hj := around_v (n := c.tdiv 7) (m := 6) ⟨q71, q72⟩ (by omega)
    generalize aroundS (c.tdiv 7) 6 = j at B3 hj
    have DK : mk false (List.take 1 (List.drop (k.toNat * 1) (D.map (.int .i64)))) = some (.int .i64 (nth D k.toNat)) := by
      rw [Nat.mul_one, ← List.map_drop, List.drop_eq_getElem_cons (by omega : k.toNat < D.length), nth_eq (by omega)]; rfl
    have SM : ∀ v, (D.map (AVal.int .i64)).set (k.toNat * 1) (.int .i64 v) = (D.set k.toNat v).map (.int .i64) := fun v => by rw [Nat.mul_one, List.map_set]
    obtain ⟨v, hv, hvi⟩ : ∃ v : Int, (∀ (x i : Opd) (h : Heap), valA (.iaddr 1 x i) (.sl [.int .i64 (nth D k.toNat - 1), .int .i64 (nth D k.toNat + 1), .int .i64 (-1), .int .i64 0, .int .i64 d, .int .i64 (-2)] .none) (.int .i64 j) h = some (.rp [.int .i64 v])) ∧ i64 v := by
      refine ⟨nth [nth D k.toNat - 1, nth D k.toNat + 1, -1, 0, d, -2] j.toNat, fun x i h => iaddr_map (f := AVal.int .i64) (sz := 1) (l := [nth D k.toNat - 1, nth D k.toNat + 1, -1, 0, d, -2]) x i h B3.1 (by simp; omega), ?_⟩
      have : nth [nth D k.toNat - 1, nth D k.toNat + 1, -1, 0, d, -2] j.toNat ∈ [nth D k.toNat - 1, nth D k.toNat + 1, -1, 0, d, -2] := nth_mem (by simp; omega)
      simp only [List.mem_cons, List.not_mem_nil, or_false] at this
      unfold i64 at hd ⊢
      rcases this with h | h | h | h | h | h <;> rw [h] <;> omega
    have hEi : ∀ x ∈ D.set k.toNat v, i64 x := fun x hx => by
      rcases List.mem_or_eq_of_mem_set hx with hx | rfl
      · exact hDi x hx
      · exact hvi
    have hDl : (D.map (AVal.int .i64)).length = D.length := by simp
    obtain ⟨lb, tv, tl, ti⟩ := turned_v (ls := P1.lines) (t := t1) (a := b) (h := c) (b := d) pt1 (by have := g1.1 h1; cases hP : P1.lines with | nil => exact absurd hP this | cons => simp) (by omega) hb ⟨hc1, hc2⟩ hd g1.2
    have hOA : LL.toA O = .sl (O.ls.map Ln.toA) O.tk := rfl
    rw [hOA] at e2
    try simp (maxSteps := 4000000) (disch := first | assumption | omega | (simp only [push_next, put_next, empty_next, List.length_cons, List.length_nil] <;> omega) | exact _root_.id rfl | exact _root_.id (fun _ => rfl) | fail) only [↓pre, post, Int.reduceEq, Int.reduceLT, Int.reduceLE, Int.reduceAdd, Int.reduceSub, Int.reduceMul, Int.reduceNeg, Nat.reduceLT, Nat.reduceSub, Nat.reduceMul, Nat.reduceAdd, Nat.reduceLeDiff, reduceIte, reduceCtorEq, Nat.reduceEqDiff, e1, hw0, b1, d1, A1, hk, around_v, DK, hj, hv, SM, tv, e2]
    repeat' (first
      | (refine ifP_pos (by first | assumption | omega) ?_ <;> try simp (maxSteps := 4000000) (disch := first | assumption | omega | (simp only [push_next, put_next, empty_next, List.length_cons, List.length_nil] <;> omega) | exact _root_.id rfl | exact _root_.id (fun _ => rfl) | fail) only [↓pre, post, Int.reduceEq, Int.reduceLT, Int.reduceLE, Int.reduceAdd, Int.reduceSub, Int.reduceMul, Int.reduceNeg, Nat.reduceLT, Nat.reduceSub, Nat.reduceMul, Nat.reduceAdd, Nat.reduceLeDiff, reduceIte, reduceCtorEq, Nat.reduceEqDiff, e1, hw0, b1, d1, A1, hk, around_v, DK, hj, hv, SM, tv, e2])
      | (refine ifP_neg (by first | assumption | omega) ?_ <;> try simp (maxSteps := 4000000) (disch := first | assumption | omega | (simp only [push_next, put_next, empty_next, List.length_cons, List.length_nil] <;> omega) | exact _root_.id rfl | exact _root_.id (fun _ => rfl) | fail) only [↓pre, post, Int.reduceEq, Int.reduceLT, Int.reduceLE, Int.reduceAdd, Int.reduceSub, Int.reduceMul, Int.reduceNeg, Nat.reduceLT, Nat.reduceSub, Nat.reduceMul, Nat.reduceAdd, Nat.reduceLeDiff, reduceIte, reduceCtorEq, Nat.reduceEqDiff, e1, hw0, b1, d1, A1, hk, around_v, DK, hj, hv, SM, tv, e2])
      | (refine ifP_intro (fun hyp => ?_) (fun hyp => ?_) <;> first | simp (maxSteps := 4000000) (disch := first | assumption | omega | (simp only [push_next, put_next, empty_next, List.length_cons, List.length_nil] <;> omega) | exact _root_.id rfl | exact _root_.id (fun _ => rfl) | fail) only [↓pre, post, Int.reduceEq, Int.reduceLT, Int.reduceLE, Int.reduceAdd, Int.reduceSub, Int.reduceMul, Int.reduceNeg, Nat.reduceLT, Nat.reduceSub, Nat.reduceMul, Nat.reduceAdd, Nat.reduceLeDiff, reduceIte, reduceCtorEq, Nat.reduceEqDiff, e1, hw0, b1, d1, A1, hk, around_v, DK, hj, hv, SM, tv, e2, eq_false hyp] | simp (maxSteps := 4000000) (disch := first | assumption | omega | (simp only [push_next, put_next, empty_next, List.length_cons, List.length_nil] <;> omega) | exact _root_.id rfl | exact _root_.id (fun _ => rfl) | fail) only [↓pre, post, Int.reduceEq, Int.reduceLT, Int.reduceLE, Int.reduceAdd, Int.reduceSub, Int.reduceMul, Int.reduceNeg, Nat.reduceLT, Nat.reduceSub, Nat.reduceMul, Nat.reduceAdd, Nat.reduceLeDiff, reduceIte, reduceCtorEq, Nat.reduceEqDiff, e1, hw0, b1, d1, A1, hk, around_v, DK, hj, hv, SM, tv, e2, eq_true hyp] | skip))
    obtain ⟨LS, hLS⟩ : ∃ LS : List LL, LS = [⟨P1.lines, t1⟩, ⟨lb, .none⟩, O, ⟨[], .nil⟩] := ⟨_, rfl⟩
    have hLSl : LS.length = 4 := by rw [hLS]; rfl
    have hLSok : ∀ x ∈ LS, Pt x.tk ∧ x.ls.length ≤ 1001 ∧ ∀ z ∈ x.ls, i64 z.b := by
      intro x hx
      rw [hLS] at hx
      simp only [List.mem_cons, List.not_mem_nil, or_false] at hx
      rcases hx with rfl | rfl | rfl | rfl
      · exact ⟨pt1, by simp only; omega, fun z hz => by have := g1.2 z hz; unfold lnOk at this; unfold i64; omega⟩
      · exact ⟨.inl rfl, tl, ti⟩
      · exact ⟨hO1, hO2, hO3⟩
      · exact ⟨.inr rfl, by simp, by simp⟩
    refine w_loop (fun m vs h0 => ∃ (i : Nat) (mu : Bool) (x16 x17 x18 x19 x20 x21 : AVal), m = 4 - i ∧ i ≤ 4 ∧ h0.get 0 = some (.row mu 1 false ((D.set k.toNat v).map (.int .i64))) ∧
      vs = [.sl (l.map (.int .i64)) tk, .int .i64 a, .int .i64 b, .int .i64 c, .int .i64 d, .bool false, .sl (items li) .none, .int .i64 (3 + w0), .sl (P1.lines.map Ln.toA) t1, .int .i64 0, .sl (D.map (.int .i64)) .none, .ref 0 0 D.length 1, .int .i64 k, .sl (O.ls.map Ln.toA) O.tk, .sl (LS.map LL.toA) .none, .int .i64 i, x16, x17, x18, x19, x20, x21]) 4
      ⟨0, true, _, _, _, _, _, _, rfl, by omega, rfl, by rw [hLS]; rfl⟩ ?_
    rintro m vs h0 ⟨i, mu, x16, x17, x18, x19, x20, x21, rfl, hi, hrow, rfl⟩
    have hEl : (D.set k.toNat v).length = D.length := by simp
    have hend1 : PV F 20 [.sl (items li) .none, .int .i64 0, .sl (P1.lines.map Ln.toA) t1, .sl (D.map (.int .i64)) .none] = some (.int .i64 1) := by
      rw [check_v (.inl rfl) pt1 (.inl rfl) (by omega) (by omega) (fun z hz => by have := g1.2 z hz; unfold lnOk at this; unfold i64; omega) (by omega) hDi, if_neg (fun h => by have := h.1.1; omega)]
    obtain ⟨r3, hend2, hend3⟩ := hCK (li.take (li.length - 1)) .none (3 + w0) ⟨P1.lines, t1⟩ ⟨D, .none⟩ (.inl rfl) (by simp; omega) pt1 (by simp only; omega) (fun z hz => by have := g1.2 z hz; unfold lnOk at this; unfold i64; omega) (.inl rfl) (by simp only; omega) hDi
    simp only [LL.toA, DD.toA] at hend2 hend3
    have sl1 : sliceA 8 (.sl (items li) .none) none (some (.int .i64 ((li.length : Int) - 1))) = some (.sl (items (li.take (li.length - 1))) .none) := by
      rw [slice_sl_b (sz := 8) Item.toA li .none .i64 ((li.length : Int) - 1) (by omega) (by omega) (fun _ => rfl) (fun h => by cases h), show ((li.length : Int) - 1).toNat = li.length - 1 by omega]; rfl
    obtain ⟨h2, l3, l3r⟩ := lit3_v (D := D) (k := k.toNat) hrow (by omega)
    rw [hEl] at l3
    try simp (maxSteps := 4000000) (disch := first | assumption | omega | (simp only [push_next, put_next, empty_next, List.length_cons, List.length_nil] <;> omega) | exact _root_.id rfl | exact _root_.id (fun _ => rfl) | fail) only [↓pre, post, Int.reduceEq, Int.reduceLT, Int.reduceLE, Int.reduceAdd, Int.reduceSub, Int.reduceMul, Int.reduceNeg, Nat.reduceLT, Nat.reduceSub, Nat.reduceMul, Nat.reduceAdd, Nat.reduceLeDiff, reduceIte, reduceCtorEq, Nat.reduceEqDiff, hLSl, lives_v, hend1, hend2, hend3, sl1, l3]
    repeat' (first
      | (refine ifP_pos (by first | assumption | omega) ?_ <;> try simp (maxSteps := 4000000) (disch := first | assumption | omega | (simp only [push_next, put_next, empty_next, List.length_cons, List.length_nil] <;> omega) | exact _root_.id rfl | exact _root_.id (fun _ => rfl) | fail) only [↓pre, post, Int.reduceEq, Int.reduceLT, Int.reduceLE, Int.reduceAdd, Int.reduceSub, Int.reduceMul, Int.reduceNeg, Nat.reduceLT, Nat.reduceSub, Nat.reduceMul, Nat.reduceAdd, Nat.reduceLeDiff, reduceIte, reduceCtorEq, Nat.reduceEqDiff, hLSl, lives_v, hend1, hend2, hend3, sl1, l3])
      | (refine ifP_neg (by first | assumption | omega) ?_ <;> try simp (maxSteps := 4000000) (disch := first | assumption | omega | (simp only [push_next, put_next, empty_next, List.length_cons, List.length_nil] <;> omega) | exact _root_.id rfl | exact _root_.id (fun _ => rfl) | fail) only [↓pre, post, Int.reduceEq, Int.reduceLT, Int.reduceLE, Int.reduceAdd, Int.reduceSub, Int.reduceMul, Int.reduceNeg, Nat.reduceLT, Nat.reduceSub, Nat.reduceMul, Nat.reduceAdd, Nat.reduceLeDiff, reduceIte, reduceCtorEq, Nat.reduceEqDiff, hLSl, lives_v, hend1, hend2, hend3, sl1, l3])
      | (refine ifP_intro (fun hyp => ?_) (fun hyp => ?_) <;> first | simp (maxSteps := 4000000) (disch := first | assumption | omega | (simp only [push_next, put_next, empty_next, List.length_cons, List.length_nil] <;> omega) | exact _root_.id rfl | exact _root_.id (fun _ => rfl) | fail) only [↓pre, post, Int.reduceEq, Int.reduceLT, Int.reduceLE, Int.reduceAdd, Int.reduceSub, Int.reduceMul, Int.reduceNeg, Nat.reduceLT, Nat.reduceSub, Nat.reduceMul, Nat.reduceAdd, Nat.reduceLeDiff, reduceIte, reduceCtorEq, Nat.reduceEqDiff, hLSl, lives_v, hend1, hend2, hend3, sl1, l3, eq_false hyp] | simp (maxSteps := 4000000) (disch := first | assumption | omega | (simp only [push_next, put_next, empty_next, List.length_cons, List.length_nil] <;> omega) | exact _root_.id rfl | exact _root_.id (fun _ => rfl) | fail) only [↓pre, post, Int.reduceEq, Int.reduceLT, Int.reduceLE, Int.reduceAdd, Int.reduceSub, Int.reduceMul, Int.reduceNeg, Nat.reduceLT, Nat.reduceSub, Nat.reduceMul, Nat.reduceAdd, Nat.reduceLeDiff, reduceIte, reduceCtorEq, Nat.reduceEqDiff, hLSl, lives_v, hend1, hend2, hend3, sl1, l3, eq_true hyp] | skip))
    · obtain ⟨DS, hDS⟩ : ∃ DS : List DD, DS = [⟨D, .none⟩, ⟨D.set k.toNat v, .none⟩, ⟨(D.set k.toNat v).take k.toNat, .none⟩, ⟨[], .nil⟩] := ⟨_, rfl⟩
      have hDSl : DS.length = 4 := by rw [hDS]; rfl
      have hDSok : ∀ y ∈ DS, Pt y.tk ∧ y.ds.length ≤ 1000 ∧ ∀ z ∈ y.ds, i64 z := by
        intro y hy
        rw [hDS] at hy
        simp only [List.mem_cons, List.not_mem_nil, or_false] at hy
        rcases hy with rfl | rfl | rfl | rfl
        · exact ⟨.inl rfl, by simp only; omega, hDi⟩
        · exact ⟨.inl rfl, by simp only; omega, hEi⟩
        · exact ⟨.inl rfl, by simp; omega, fun z hz => hEi z (List.mem_of_mem_take hz)⟩
        · exact ⟨.inr rfl, by simp, by simp⟩
      refine w_loop (fun m vs h1 => ∃ (j : Nat) (x18 x19 x20 x21 : AVal), m = 4 - j ∧ j ≤ 4 ∧ h1.get 0 = some (.row false 1 false ((D.set k.toNat v).map (.int .i64))) ∧
        vs = [.sl (l.map (.int .i64)) tk, .int .i64 a, .int .i64 b, .int .i64 c, .int .i64 d, .bool false, .sl (items li) .none, .int .i64 (3 + w0), .sl (P1.lines.map Ln.toA) t1, .int .i64 0, .sl (D.map (.int .i64)) .none, .ref 0 0 D.length 1, .int .i64 k, .sl (O.ls.map Ln.toA) O.tk, .sl (LS.map LL.toA) .none, .int .i64 i, .sl (DS.map DD.toA) .none, .int .i64 j, x18, x19, x20, x21]) 4
        ⟨0, _, _, _, _, rfl, by omega, l3r, by rw [hDS]; rfl⟩ ?_
      rintro m vs h1 ⟨j', x18, x19, x20, x21, rfl, hj', hrow', rfl⟩
      have hck : j' < 4 → i < 4 → ∃ r : Int, PV F 20 [.sl (items li) .none, .int .i64 (3 + w0), .sl ((nth LS i).ls.map Ln.toA) (nth LS i).tk, .sl ((nth DS j').ds.map (.int .i64)) (nth DS j').tk] = some (.int .i64 r) ∧ PV F 22 [.sl (items li) .none, .int .i64 (3 + w0), .sl ((nth LS i).ls.map Ln.toA) (nth LS i).tk, .sl ((nth DS j').ds.map (.int .i64)) (nth DS j').tk] = some (.int .i64 r) := fun q1 q2 => by
        have o1 := hLSok _ (nth_mem (l := LS) (i := i) (by omega))
        have o2 := hDSok _ (nth_mem (l := DS) (i := j') (by omega))
        exact hCK li .none (3 + w0) (nth LS i) (nth DS j') (.inl rfl) n1 o1.1 o1.2.1 o1.2.2 o2.1 o2.2.1 o2.2.2
      by_cases hj4 : j' < 4
      · obtain ⟨r, k1, k2⟩ := hck hj4 (by omega)
        have s1 : strip (.sl ((nth LS i).ls.map Ln.toA) (nth LS i).tk) = some (.sl ((nth LS i).ls.map Ln.toA) (nth LS i).tk) := strip_pt (hLSok _ (nth_mem (l := LS) (i := i) (by omega))).1
        have s2 : strip (.sl ((nth DS j').ds.map (.int .i64)) (nth DS j').tk) = some (.sl ((nth DS j').ds.map (.int .i64)) (nth DS j').tk) := strip_pt (hDSok _ (nth_mem (l := DS) (i := j') (by omega))).1
        try simp (maxSteps := 4000000) (disch := first | assumption | omega | (simp only [push_next, put_next, empty_next, List.length_cons, List.length_nil] <;> omega) | exact _root_.id rfl | exact _root_.id (fun _ => rfl) | fail) only [↓pre, post, Int.reduceEq, Int.reduceLT, Int.reduceLE, Int.reduceAdd, Int.reduceSub, Int.reduceMul, Int.reduceNeg, Nat.reduceLT, Nat.reduceSub, Nat.reduceMul, Nat.reduceAdd, Nat.reduceLeDiff, reduceIte, reduceCtorEq, Nat.reduceEqDiff, hDSl, hLSl, LL.toA, DD.toA, k1, k2, s1, s2]
        repeat' (first
          | (refine ifP_pos (by first | assumption | omega) ?_ <;> try simp (maxSteps := 4000000) (disch := first | assumption | omega | (simp only [push_next, put_next, empty_next, List.length_cons, List.length_nil] <;> omega) | exact _root_.id rfl | exact _root_.id (fun _ => rfl) | fail) only [↓pre, post, Int.reduceEq, Int.reduceLT, Int.reduceLE, Int.reduceAdd, Int.reduceSub, Int.reduceMul, Int.reduceNeg, Nat.reduceLT, Nat.reduceSub, Nat.reduceMul, Nat.reduceAdd, Nat.reduceLeDiff, reduceIte, reduceCtorEq, Nat.reduceEqDiff, hDSl, hLSl, LL.toA, DD.toA, k1, k2, s1, s2])
          | (refine ifP_neg (by first | assumption | omega) ?_ <;> try simp (maxSteps := 4000000) (disch := first | assumption | omega | (simp only [push_next, put_next, empty_next, List.length_cons, List.length_nil] <;> omega) | exact _root_.id rfl | exact _root_.id (fun _ => rfl) | fail) only [↓pre, post, Int.reduceEq, Int.reduceLT, Int.reduceLE, Int.reduceAdd, Int.reduceSub, Int.reduceMul, Int.reduceNeg, Nat.reduceLT, Nat.reduceSub, Nat.reduceMul, Nat.reduceAdd, Nat.reduceLeDiff, reduceIte, reduceCtorEq, Nat.reduceEqDiff, hDSl, hLSl, LL.toA, DD.toA, k1, k2, s1, s2])
          | (refine ifP_intro (fun hyp => ?_) (fun hyp => ?_) <;> first | simp (maxSteps := 4000000) (disch := first | assumption | omega | (simp only [push_next, put_next, empty_next, List.length_cons, List.length_nil] <;> omega) | exact _root_.id rfl | exact _root_.id (fun _ => rfl) | fail) only [↓pre, post, Int.reduceEq, Int.reduceLT, Int.reduceLE, Int.reduceAdd, Int.reduceSub, Int.reduceMul, Int.reduceNeg, Nat.reduceLT, Nat.reduceSub, Nat.reduceMul, Nat.reduceAdd, Nat.reduceLeDiff, reduceIte, reduceCtorEq, Nat.reduceEqDiff, hDSl, hLSl, LL.toA, DD.toA, k1, k2, s1, s2, eq_false hyp] | simp (maxSteps := 4000000) (disch := first | assumption | omega | (simp only [push_next, put_next, empty_next, List.length_cons, List.length_nil] <;> omega) | exact _root_.id rfl | exact _root_.id (fun _ => rfl) | fail) only [↓pre, post, Int.reduceEq, Int.reduceLT, Int.reduceLE, Int.reduceAdd, Int.reduceSub, Int.reduceMul, Int.reduceNeg, Nat.reduceLT, Nat.reduceSub, Nat.reduceMul, Nat.reduceAdd, Nat.reduceLeDiff, reduceIte, reduceCtorEq, Nat.reduceEqDiff, hDSl, hLSl, LL.toA, DD.toA, k1, k2, s1, s2, eq_true hyp] | skip))
        exact lp_n ⟨4 - (j' + 1), by omega, j' + 1, _, _, _, _, rfl, by omega, hrow', rfl⟩
      · try simp (maxSteps := 4000000) (disch := first | assumption | omega | (simp only [push_next, put_next, empty_next, List.length_cons, List.length_nil] <;> omega) | exact _root_.id rfl | exact _root_.id (fun _ => rfl) | fail) only [↓pre, post, Int.reduceEq, Int.reduceLT, Int.reduceLE, Int.reduceAdd, Int.reduceSub, Int.reduceMul, Int.reduceNeg, Nat.reduceLT, Nat.reduceSub, Nat.reduceMul, Nat.reduceAdd, Nat.reduceLeDiff, reduceIte, reduceCtorEq, Nat.reduceEqDiff, hDSl]
        repeat' (first
          | (refine ifP_pos (by first | assumption | omega) ?_ <;> try simp (maxSteps := 4000000) (disch := first | assumption | omega | (simp only [push_next, put_next, empty_next, List.length_cons, List.length_nil] <;> omega) | exact _root_.id rfl | exact _root_.id (fun _ => rfl) | fail) only [↓pre, post, Int.reduceEq, Int.reduceLT, Int.reduceLE, Int.reduceAdd, Int.reduceSub, Int.reduceMul, Int.reduceNeg, Nat.reduceLT, Nat.reduceSub, Nat.reduceMul, Nat.reduceAdd, Nat.reduceLeDiff, reduceIte, reduceCtorEq, Nat.reduceEqDiff, hDSl])
          | (refine ifP_neg (by first | assumption | omega) ?_ <;> try simp (maxSteps := 4000000) (disch := first | assumption | omega | (simp only [push_next, put_next, empty_next, List.length_cons, List.length_nil] <;> omega) | exact _root_.id rfl | exact _root_.id (fun _ => rfl) | fail) only [↓pre, post, Int.reduceEq, Int.reduceLT, Int.reduceLE, Int.reduceAdd, Int.reduceSub, Int.reduceMul, Int.reduceNeg, Nat.reduceLT, Nat.reduceSub, Nat.reduceMul, Nat.reduceAdd, Nat.reduceLeDiff, reduceIte, reduceCtorEq, Nat.reduceEqDiff, hDSl])
          | (refine ifP_intro (fun hyp => ?_) (fun hyp => ?_) <;> first | simp (maxSteps := 4000000) (disch := first | assumption | omega | (simp only [push_next, put_next, empty_next, List.length_cons, List.length_nil] <;> omega) | exact _root_.id rfl | exact _root_.id (fun _ => rfl) | fail) only [↓pre, post, Int.reduceEq, Int.reduceLT, Int.reduceLE, Int.reduceAdd, Int.reduceSub, Int.reduceMul, Int.reduceNeg, Nat.reduceLT, Nat.reduceSub, Nat.reduceMul, Nat.reduceAdd, Nat.reduceLeDiff, reduceIte, reduceCtorEq, Nat.reduceEqDiff, hDSl, eq_false hyp] | simp (maxSteps := 4000000) (disch := first | assumption | omega | (simp only [push_next, put_next, empty_next, List.length_cons, List.length_nil] <;> omega) | exact _root_.id rfl | exact _root_.id (fun _ => rfl) | fail) only [↓pre, post, Int.reduceEq, Int.reduceLT, Int.reduceLE, Int.reduceAdd, Int.reduceSub, Int.reduceMul, Int.reduceNeg, Nat.reduceLT, Nat.reduceSub, Nat.reduceMul, Nat.reduceAdd, Nat.reduceLeDiff, reduceIte, reduceCtorEq, Nat.reduceEqDiff, hDSl, eq_true hyp] | skip))
        exact lp_n ⟨4 - (i + 1), by omega, i + 1, false, _, _, _, _, _, _, rfl, by omega, hrow', rfl⟩
  · rw [if_neg h1] at b1
    have hck := check_v (l := li) (t := .none) (t2 := .nil) (t3 := .none) (w := 3 + w0) (ls := []) (d := D) (.inl rfl) (.inr rfl) (.inl rfl) (by omega) (by simp) (by simp) (by omega) hDi
    rw [if_pos hr, if_neg (fun h => by
      obtain ⟨⟨s, e, _⟩, _⟩ := h
      simp only [sumF, Option.some.injEq, Prod.mk.injEq] at e
      omega)] at hck
    simp only [List.map_nil] at hck
    try simp (maxSteps := 4000000) (disch := first | assumption | omega | (simp only [push_next, put_next, empty_next, List.length_cons, List.length_nil] <;> omega) | exact _root_.id rfl | exact _root_.id (fun _ => rfl) | fail) only [↓pre, post, Int.reduceEq, Int.reduceLT, Int.reduceLE, Int.reduceAdd, Int.reduceSub, Int.reduceMul, Int.reduceNeg, Nat.reduceLT, Nat.reduceSub, Nat.reduceMul, Nat.reduceAdd, Nat.reduceLeDiff, reduceIte, reduceCtorEq, Nat.reduceEqDiff, e1, hw0, b1, d1, around_v, hck, lives_v]
    repeat' (first
      | (refine ifP_pos (by first | assumption | omega) ?_ <;> try simp (maxSteps := 4000000) (disch := first | assumption | omega | (simp only [push_next, put_next, empty_next, List.length_cons, List.length_nil] <;> omega) | exact _root_.id rfl | exact _root_.id (fun _ => rfl) | fail) only [↓pre, post, Int.reduceEq, Int.reduceLT, Int.reduceLE, Int.reduceAdd, Int.reduceSub, Int.reduceMul, Int.reduceNeg, Nat.reduceLT, Nat.reduceSub, Nat.reduceMul, Nat.reduceAdd, Nat.reduceLeDiff, reduceIte, reduceCtorEq, Nat.reduceEqDiff, e1, hw0, b1, d1, around_v, hck, lives_v])
      | (refine ifP_neg (by first | assumption | omega) ?_ <;> try simp (maxSteps := 4000000) (disch := first | assumption | omega | (simp only [push_next, put_next, empty_next, List.length_cons, List.length_nil] <;> omega) | exact _root_.id rfl | exact _root_.id (fun _ => rfl) | fail) only [↓pre, post, Int.reduceEq, Int.reduceLT, Int.reduceLE, Int.reduceAdd, Int.reduceSub, Int.reduceMul, Int.reduceNeg, Nat.reduceLT, Nat.reduceSub, Nat.reduceMul, Nat.reduceAdd, Nat.reduceLeDiff, reduceIte, reduceCtorEq, Nat.reduceEqDiff, e1, hw0, b1, d1, around_v, hck, lives_v])
      | (refine ifP_intro (fun hyp => ?_) (fun hyp => ?_) <;> first | simp (maxSteps := 4000000) (disch := first | assumption | omega | (simp only [push_next, put_next, empty_next, List.length_cons, List.length_nil] <;> omega) | exact _root_.id rfl | exact _root_.id (fun _ => rfl) | fail) only [↓pre, post, Int.reduceEq, Int.reduceLT, Int.reduceLE, Int.reduceAdd, Int.reduceSub, Int.reduceMul, Int.reduceNeg, Nat.reduceLT, Nat.reduceSub, Nat.reduceMul, Nat.reduceAdd, Nat.reduceLeDiff, reduceIte, reduceCtorEq, Nat.reduceEqDiff, e1, hw0, b1, d1, around_v, hck, lives_v, eq_false hyp] | simp (maxSteps := 4000000) (disch := first | assumption | omega | (simp only [push_next, put_next, empty_next, List.length_cons, List.length_nil] <;> omega) | exact _root_.id rfl | exact _root_.id (fun _ => rfl) | fail) only [↓pre, post, Int.reduceEq, Int.reduceLT, Int.reduceLE, Int.reduceAdd, Int.reduceSub, Int.reduceMul, Int.reduceNeg, Nat.reduceLT, Nat.reduceSub, Nat.reduceMul, Nat.reduceAdd, Nat.reduceLeDiff, reduceIte, reduceCtorEq, Nat.reduceEqDiff, e1, hw0, b1, d1, around_v, hck, lives_v, eq_true hyp] | skip))

end Go.Proofs.Ytcammfdljiingaa

/-
  The duals of the program are those of the reference model.
-/
set_option linter.unusedSimpArgs false
set_option linter.unusedVariables false
set_option maxHeartbeats 8000000
namespace Go.Proofs.Ytcammfdljiingaa
open Go Go.Abs

def dOf (q : Pl) : Int := if q.is = true then q.cost else -1
def PInv (l : List Item) (s : List Pl) : Prop := s.length = l.length ∧ ∀ k, (nth s k).is = true → (nth l k).kind ≠ 0 ∧ 0 ≤ (nth s k).cost

theorem set_same {α : Type} [Inhabited α] {l : List α} {k : Nat} {x : α} (h : nth l k = x) (hk : k < l.length) : l.set k x = l := by
  rw [← h, nth_eq hk]; exact List.set_getElem_self hk

theorem newPl_cost (l : List Item) (p : Nat) (q : Pl) (x : Nat × Int × Int) : (newPl l p q x).cost = (if p = 0 then 0 else q.cost) + x.2.2 := by
  unfold newPl
  by_cases h : p = 0
  · simp [h]
  · simp only [h, if_false]; omega

theorem d_step {l : List Item} {w : Int} {p : Nat} {q : Pl} {s : List Pl} {x : Nat × Int × Int} (hs : PInv l s) (hx : x ∈ linesAt l w p) : (bst l p q s x).map dOf = dstep (s.map dOf) (if p = 0 then 0 else q.cost) x := by
  obtain ⟨m1, m2, m3, m4, m5⟩ := mem_linesAt hx
  have hk : x.1 - 1 < s.length := by rw [hs.1]; omega
  have hn : nth (s.map dOf) (x.1 - 1) = dOf (nth s (x.1 - 1)) := nth_map _ _ hk
  have hc := newPl_cost l p q x
  have hi := hs.2 (x.1 - 1)
  unfold bst dstep
  rw [hn]
  generalize hq : nth s (x.1 - 1) = old at hn hi
  have hnp : dOf (newPl l p q x) = (if p = 0 then 0 else q.cost) + x.2.2 := by
    rw [← hc]; simp [dOf, newPl]
  by_cases h1 : old.is = true
  · have hd : dOf old = old.cost := by rw [dOf, if_pos h1]
    have h0 := (hi h1).2
    rw [hd]
    by_cases h2 : (newPl l p q x).cost = old.cost
    · have hne : ¬ (old.cost < 0 ∨ (if p = 0 then 0 else q.cost) + x.2.2 < old.cost) := by omega
      rw [if_neg hne]
      split
      · rw [List.map_set]
        exact set_same (by rw [hn, hd, hnp]; omega) (by simpa using hk)
      · rfl
    · have hb : betterS (newPl l p q x) old = decide ((newPl l p q x).cost < old.cost) := by
        unfold betterS; rw [if_pos h1, if_neg h2]
      rw [hb]
      by_cases h3 : (newPl l p q x).cost < old.cost
      · rw [if_pos (by simpa using h3), if_pos (by omega), List.map_set, hnp]
      · rw [if_neg (by simpa using h3), if_neg (by omega)]
  · have hd : dOf old = -1 := by rw [dOf, if_neg h1]
    have hb : betterS (newPl l p q x) old = true := by unfold betterS; rw [if_neg h1]
    rw [hd, hb, if_pos rfl, if_pos (by omega), List.map_set, hnp]

theorem PInv_step {l : List Item} {w : Int} {p : Nat} {q : Pl} {s : List Pl} {x : Nat × Int × Int} (hv : valid l) (hw : widthOk w) (hs : PInv l s) (hq : p = 0 ∨ 0 ≤ q.cost) (hx : x ∈ linesAt l w p) : PInv l (bst l p q s x) := by
  obtain ⟨m1, m2, m3, m4, m5⟩ := mem_linesAt hx
  unfold bst
  split
  · refine ⟨by simp [hs.1], fun k hk => ?_⟩
    by_cases e : x.1 - 1 = k
    · subst e
      have hlt : x.1 - 1 < s.length := by rw [hs.1]; omega
      rw [nth_set_self hlt]
      refine ⟨m1.2.2.2.1, ?_⟩
      rw [newPl_cost]
      have := (cost_bound hv hw m1).1
      rw [← m5] at this
      split <;> omega
    · rw [nth_set_ne e] at hk ⊢
      exact hs.2 k hk
  · exact hs

theorem d_fold {l : List Item} {w : Int} {p : Nat} {q : Pl} (hv : valid l) (hw : widthOk w) (hq : p = 0 ∨ 0 ≤ q.cost) : ∀ (xs : List (Nat × Int × Int)) (s : List Pl), PInv l s → (∀ x ∈ xs, x ∈ linesAt l w p) →
    (xs.foldl (bst l p q) s).map dOf = xs.foldl (fun d x => dstep d (if p = 0 then 0 else q.cost) x) (s.map dOf) ∧ PInv l (xs.foldl (bst l p q) s)
  | [], s, hs, _ => ⟨rfl, hs⟩
  | x :: xs, s, hs, hm => by
    have hx := hm x (by simp)
    have ih := d_fold hv hw hq xs (bst l p q s x) (PInv_step hv hw hs hq hx) (fun y hy => hm y (by simp [hy]))
    rw [List.foldl_cons, List.foldl_cons, ← d_step hs hx]
    exact ih

theorem d_round {l : List Item} {w : Int} {p : Nat} {s : List Pl} (hv : valid l) (hw : widthOk w) (hs : PInv l s) (hp : p < l.length) : (rnd l w s p).map dOf = roundS l w (fun d k => nth d k) dstep (s.map dOf) p ∧ PInv l (rnd l w s p) := by
  unfold rnd roundS
  by_cases h0 : p = 0
  · subst h0
    rw [if_neg (by omega)]
    have := d_fold (p := 0) (q := nth s (0 - 1)) hv hw (.inl rfl) (linesAt l w 0) s hs (fun _ h => h)
    simp only [if_true, Int.le_refl, true_or, and_self] at this ⊢
    exact this
  · have hn : nth (s.map dOf) (p - 1) = dOf (nth s (p - 1)) := nth_map _ _ (by rw [hs.1]; omega)
    simp only [if_neg h0, hn]
    by_cases hi : (nth s (p - 1)).is = true
    · have h1 := hs.2 _ hi
      rw [if_neg (fun h => h.2 hi), dOf, if_pos hi, if_pos ⟨h1.2, .inr h1.1⟩]
      have := d_fold (p := p) (q := nth s (p - 1)) hv hw (.inr h1.2) (linesAt l w p) s hs (fun _ h => h)
      simp only [if_neg h0] at this
      exact this
    · rw [if_pos ⟨by omega, hi⟩, dOf, if_neg hi, if_neg (by omega)]
      exact ⟨rfl, hs⟩

theorem duals_eq {l : List Item} {w : Int} (hv : valid l) (hw : widthOk w) : dualsS l w = rdualsS l w := by
  have gen : ∀ (ps : List Nat) (s : List Pl), PInv l s → (∀ p ∈ ps, p < l.length) → (ps.foldl (rnd l w) s).map dOf = ps.foldl (roundS l w (fun d k => nth d k) dstep) (s.map dOf) := by
    intro ps
    induction ps with
    | nil => intro s _ _; rfl
    | cons p ps ih =>
      intro s hs hp
      have h := d_round (w := w) hv hw hs (hp p (by simp))
      rw [List.foldl_cons, List.foldl_cons, ← h.1]
      exact ih _ h.2 (fun q hq => hp q (by simp [hq]))
  have h0 : PInv l (List.replicate l.length zeroPl) := by
    refine ⟨by simp, fun k hk => ?_⟩
    by_cases hkl : k < l.length
    · rw [nth_replicate hkl] at hk; exact absurd hk (by decide)
    · rw [nth, List.getD_eq_getElem?_getD, List.getElem?_eq_none (by simp; omega)] at hk
      exact absurd hk (by decide)
  have := gen (List.range l.length) _ h0 (fun p hp => List.mem_range.1 hp)
  unfold dualsS rdualsS plansS
  rw [show (fun q : Pl => if q.is = true then q.cost else -1) = dOf from rfl, this]
  congr 1
  rw [List.map_replicate]; rfl

end Go.Proofs.Ytcammfdljiingaa
