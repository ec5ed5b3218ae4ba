/-
  Check of the reference model.
-/
import Derived.Test.YtcammfdljiingaaLbO
set_option linter.unusedSimpArgs false
set_option linter.unusedVariables false
set_option maxHeartbeats 8000000
namespace Go.Proofs.Ytcammfdljiingaa
open Go Go.Abs

theorem costR_line {l : List Item} {w : Int} {p b : Nat} (hv : valid l) (hw : widthOk w) : (0 ≤ costR l w (skip l p : Nat) (b : Nat) ↔ lineOk l w (skip l p) b) ∧ (lineOk l w (skip l p) b → costR l w (skip l p : Nat) (b : Nat) = costN l w (skip l p) b) := by
  have h2 : lineOk l w (skip l p) b → costR l w (skip l p : Nat) (b : Nat) = costN l w (skip l p) b := fun h => by
    rw [costR, if_pos ⟨⟨hw, hv⟩, by omega, by omega, by simpa using h⟩]; simp
  refine ⟨⟨fun h => ?_, fun h => by rw [h2 h]; exact (cost_bound hv hw h).1⟩, h2⟩
  unfold costR at h
  split at h
  · rename_i hc; simpa using hc.2.2.2
  · omega

theorem mem_of_lineOk {l : List Item} {w : Int} {p b : Nat} (h : lineOk l w (skip l p) b) : (b, natS l (skip l p) b, costN l w (skip l p) b) ∈ linesAt l w p := by
  unfold linesAt linesOf
  rw [List.mem_filterMap]
  refine ⟨b, ?_, by rw [lineAt, if_pos h]⟩
  rw [List.mem_range'_1]
  have h1 := h.1
  have h2 := h.2.1
  omega

open Classical in
theorem refCheck_v {l : List Item} {t t2 t3 : Tok} {w : Int} {ls : List Ln} {d : List Int} (ht : Pt t) (ht2 : Pt t2) (ht3 : Pt t3) (hl : l.length < 100000) (hls : ls.length ≤ 100000) (hi : ∀ x ∈ ls, i64 x.b) (hd : d.length ≤ 100000) (hdi : ∀ x ∈ d, i64 x) :
    PV F 22 [.sl (items l) t, .int .i64 w, .sl (ls.map Ln.toA) t2, .sl (d.map (.int .i64)) t3] = some (.int .i64 (if widthOk w ∧ valid l then (if checkS l w ls d then 0 else 24) else 1)) := by
  refine PV_wp (fn := c22) rfl ?_
  dsimp only [c22]
  by_cases hr : widthOk w ∧ valid l
  · have hv := hr.2
    have hw := hr.1
    have hl1 := hv.1
    have hl2 := hv.2.1
    rw [if_pos hr]
    obtain ⟨T, B, hT, hsv⟩ : ∃ (T : Int) (B : Bool), (B = true → sumF l w 0 0 ls = some (l.length, T)) ∧ PV F 48 [.sl (items l) t, .int .i64 w, .sl (ls.map Ln.toA) t2] = some (.tup [.int .i64 T, .bool B]) ∧ (∀ s, sumF l w 0 0 ls = some (l.length, s) → B = true ∧ T = s) := by
      have hsv := refSum_v (t := t) (t2 := t2) ht ht2 hv hw hls hi
      cases hs : sumF l w 0 0 ls with
      | none =>
        rw [hs] at hsv
        exact ⟨0, false, by simp, hsv, by simp⟩
      | some ps =>
        obtain ⟨p, s⟩ := ps
        rw [hs] at hsv
        refine ⟨s, decide (p = l.length), fun h => by rw [of_decide_eq_true h], hsv, fun s' e => ?_⟩
        simp only [Option.some.injEq, Prod.mk.injEq] at e
        obtain ⟨rfl, rfl⟩ := e
        simp
    obtain ⟨hsv, hTs⟩ := hsv
    have hrc : ∀ a b, PV F 28 [.sl (items l) t, .int .i64 a, .int .i64 b, .int .i64 w] = some (.int .i64 (costR l w a b)) := fun a b => refCost_v ht (by omega)
    have no1 : ¬ (B = true ∧ d.length = l.length ∧ nth d (l.length - 1) = T) → ¬ checkS l w ls d := fun h ⟨⟨s, e, e1, e2⟩, _⟩ => h ⟨(hTs s e).1, e1, by rw [(hTs s e).2]; exact e2⟩
    have hG : checkS l w ls d ↔ (B = true ∧ d.length = l.length ∧ nth d (l.length - 1) = T) ∧ (∀ x ∈ d, ¬ x < -1) ∧ ∀ q, q < l.length → 0 ≤ valP d q → (q = 0 ∨ (nth l (q - 1)).kind ≠ 0) → ∀ x ∈ linesAt l w q, ¬ badLine d (valP d q) x := by
      constructor
      · rintro ⟨⟨s, e, e1, e2⟩, h2, h3⟩
        exact ⟨⟨(hTs s e).1, e1, by rw [(hTs s e).2]; exact e2⟩, h2, fun q h4 h5 h6 x h7 h8 => h3 ⟨q, h4, h5, h6, x, h7, h8⟩⟩
      · rintro ⟨⟨h1, h2, h3⟩, h4, h5⟩
        exact ⟨⟨T, hT h1, h2, h3⟩, h4, fun ⟨q, k1, k2, k3, x, k4, k5⟩ => h5 q k1 k2 k3 x k4 k5⟩
    try simp (maxSteps := 4000000) (disch := first | assumption | omega | (simp only [push_next, put_next, empty_next, List.length_cons, List.length_nil] <;> omega) | exact _root_.id rfl | exact _root_.id (fun _ => rfl) | fail) only [↓pre, post, Int.reduceEq, Int.reduceLT, Int.reduceLE, Int.reduceAdd, Int.reduceSub, Int.reduceMul, Int.reduceNeg, Nat.reduceLT, Nat.reduceSub, Nat.reduceMul, Nat.reduceAdd, Nat.reduceLeDiff, reduceIte, reduceCtorEq, Nat.reduceEqDiff, refReady_v, hsv, eq_true hr]
    repeat' (first
      | (refine ifP_pos (by first | assumption | omega) ?_ <;> try simp (maxSteps := 4000000) (disch := first | assumption | omega | (simp only [push_next, put_next, empty_next, List.length_cons, List.length_nil] <;> omega) | exact _root_.id rfl | exact _root_.id (fun _ => rfl) | fail) only [↓pre, post, Int.reduceEq, Int.reduceLT, Int.reduceLE, Int.reduceAdd, Int.reduceSub, Int.reduceMul, Int.reduceNeg, Nat.reduceLT, Nat.reduceSub, Nat.reduceMul, Nat.reduceAdd, Nat.reduceLeDiff, reduceIte, reduceCtorEq, Nat.reduceEqDiff, refReady_v, hsv, eq_true hr])
      | (refine ifP_neg (by first | assumption | omega) ?_ <;> try simp (maxSteps := 4000000) (disch := first | assumption | omega | (simp only [push_next, put_next, empty_next, List.length_cons, List.length_nil] <;> omega) | exact _root_.id rfl | exact _root_.id (fun _ => rfl) | fail) only [↓pre, post, Int.reduceEq, Int.reduceLT, Int.reduceLE, Int.reduceAdd, Int.reduceSub, Int.reduceMul, Int.reduceNeg, Nat.reduceLT, Nat.reduceSub, Nat.reduceMul, Nat.reduceAdd, Nat.reduceLeDiff, reduceIte, reduceCtorEq, Nat.reduceEqDiff, refReady_v, hsv, eq_true hr])
      | (refine ifP_intro (fun hyp => ?_) (fun hyp => ?_) <;> first | simp (maxSteps := 4000000) (disch := first | assumption | omega | (simp only [push_next, put_next, empty_next, List.length_cons, List.length_nil] <;> omega) | exact _root_.id rfl | exact _root_.id (fun _ => rfl) | fail) only [↓pre, post, Int.reduceEq, Int.reduceLT, Int.reduceLE, Int.reduceAdd, Int.reduceSub, Int.reduceMul, Int.reduceNeg, Nat.reduceLT, Nat.reduceSub, Nat.reduceMul, Nat.reduceAdd, Nat.reduceLeDiff, reduceIte, reduceCtorEq, Nat.reduceEqDiff, refReady_v, hsv, eq_true hr, eq_false hyp] | simp (maxSteps := 4000000) (disch := first | assumption | omega | (simp only [push_next, put_next, empty_next, List.length_cons, List.length_nil] <;> omega) | exact _root_.id rfl | exact _root_.id (fun _ => rfl) | fail) only [↓pre, post, Int.reduceEq, Int.reduceLT, Int.reduceLE, Int.reduceAdd, Int.reduceSub, Int.reduceMul, Int.reduceNeg, Nat.reduceLT, Nat.reduceSub, Nat.reduceMul, Nat.reduceAdd, Nat.reduceLeDiff, reduceIte, reduceCtorEq, Nat.reduceEqDiff, refReady_v, hsv, eq_true hr, eq_true hyp] | skip))
    · rename_i hB hdl
      have hdl' : d.length = l.length := by omega
      refine w_loop (fun m vs h0 => ∃ (i : Nat) (x8 x9 x10 x11 x12 x13 x14 x15 x16 x17 x18 x19 x20 x21 : AVal), m = d.length - i ∧ i ≤ d.length ∧ (∀ j, j < i → ¬ nth d j < -1) ∧
        vs = [.sl (items l) t, .int .i64 w, .sl (ls.map Ln.toA) t2, .sl (d.map (.int .i64)) t3, .int .i64 0, .int .i64 T, .bool B, .int .i64 i, x8, x9, x10, x11, x12, x13, x14, x15, x16, x17, x18, x19, x20, x21]) d.length
        ⟨0, _, _, _, _, _, _, _, _, _, _, _, _, _, _, rfl, by omega, by intros; omega, rfl⟩ ?_
      rintro m vs h0 ⟨i, x8, x9, x10, x11, x12, x13, x14, x15, x16, x17, x18, x19, x20, x21, rfl, hil, hneg, rfl⟩
      try simp (maxSteps := 4000000) (disch := first | assumption | omega | (simp only [push_next, put_next, empty_next, List.length_cons, List.length_nil] <;> omega) | exact _root_.id rfl | exact _root_.id (fun _ => rfl) | fail) only [↓pre, post, Int.reduceEq, Int.reduceLT, Int.reduceLE, Int.reduceAdd, Int.reduceSub, Int.reduceMul, Int.reduceNeg, Nat.reduceLT, Nat.reduceSub, Nat.reduceMul, Nat.reduceAdd, Nat.reduceLeDiff, reduceIte, reduceCtorEq, Nat.reduceEqDiff]
      repeat' (first
        | (refine ifP_pos (by first | assumption | omega) ?_ <;> try simp (maxSteps := 4000000) (disch := first | assumption | omega | (simp only [push_next, put_next, empty_next, List.length_cons, List.length_nil] <;> omega) | exact _root_.id rfl | exact _root_.id (fun _ => rfl) | fail) only [↓pre, post, Int.reduceEq, Int.reduceLT, Int.reduceLE, Int.reduceAdd, Int.reduceSub, Int.reduceMul, Int.reduceNeg, Nat.reduceLT, Nat.reduceSub, Nat.reduceMul, Nat.reduceAdd, Nat.reduceLeDiff, reduceIte, reduceCtorEq, Nat.reduceEqDiff])
        | (refine ifP_neg (by first | assumption | omega) ?_ <;> try simp (maxSteps := 4000000) (disch := first | assumption | omega | (simp only [push_next, put_next, empty_next, List.length_cons, List.length_nil] <;> omega) | exact _root_.id rfl | exact _root_.id (fun _ => rfl) | fail) only [↓pre, post, Int.reduceEq, Int.reduceLT, Int.reduceLE, Int.reduceAdd, Int.reduceSub, Int.reduceMul, Int.reduceNeg, Nat.reduceLT, Nat.reduceSub, Nat.reduceMul, Nat.reduceAdd, Nat.reduceLeDiff, reduceIte, reduceCtorEq, Nat.reduceEqDiff])
        | (refine ifP_intro (fun hyp => ?_) (fun hyp => ?_) <;> first | simp (maxSteps := 4000000) (disch := first | assumption | omega | (simp only [push_next, put_next, empty_next, List.length_cons, List.length_nil] <;> omega) | exact _root_.id rfl | exact _root_.id (fun _ => rfl) | fail) only [↓pre, post, Int.reduceEq, Int.reduceLT, Int.reduceLE, Int.reduceAdd, Int.reduceSub, Int.reduceMul, Int.reduceNeg, Nat.reduceLT, Nat.reduceSub, Nat.reduceMul, Nat.reduceAdd, Nat.reduceLeDiff, reduceIte, reduceCtorEq, Nat.reduceEqDiff, eq_false hyp] | simp (maxSteps := 4000000) (disch := first | assumption | omega | (simp only [push_next, put_next, empty_next, List.length_cons, List.length_nil] <;> omega) | exact _root_.id rfl | exact _root_.id (fun _ => rfl) | fail) only [↓pre, post, Int.reduceEq, Int.reduceLT, Int.reduceLE, Int.reduceAdd, Int.reduceSub, Int.reduceMul, Int.reduceNeg, Nat.reduceLT, Nat.reduceSub, Nat.reduceMul, Nat.reduceAdd, Nat.reduceLeDiff, reduceIte, reduceCtorEq, Nat.reduceEqDiff, eq_true hyp] | skip))
      · rw [if_neg]; intro h; exact (hG.1 h).2.1 _ (nth_mem (by omega)) hyp
      · refine lp_n ⟨d.length - (i + 1), by omega, i + 1, _, _, _, _, _, _, _, _, _, _, _, _, _, _, rfl, by omega, fun j hj => ?_, rfl⟩
        by_cases e : j = i
        · subst e; exact hyp
        · exact hneg j (by omega)
      have hneg' : ∀ x ∈ d, ¬ x < -1 := fun x hx => by
        obtain ⟨k, hk, rfl⟩ := List.getElem_of_mem hx
        rw [← nth_eq hk]; exact hneg k (by omega)
      refine w_loop (fun m vs h0 => ∃ (p : Nat) (z : Int) (x9 x10 x11 x12 x13 x14 x15 x16 x17 x18 x19 x20 x21 : AVal), m = l.length - p ∧ z = (p : Int) - 1 ∧ p ≤ l.length ∧ (∀ q, q < p → 0 ≤ valP d q → (q = 0 ∨ (nth l (q - 1)).kind ≠ 0) → ∀ x ∈ linesAt l w q, ¬ badLine d (valP d q) x) ∧
        vs = [.sl (items l) t, .int .i64 w, .sl (ls.map Ln.toA) t2, .sl (d.map (.int .i64)) t3, .int .i64 0, .int .i64 T, .bool B, .int .i64 i, .int .i64 z, x9, x10, x11, x12, x13, x14, x15, x16, x17, x18, x19, x20, x21]) l.length
        ⟨0, -1, _, _, _, _, _, _, _, _, _, _, _, _, _, rfl, by omega, by omega, by intros; omega, rfl⟩ ?_
      rintro m vs h0 ⟨p, z, x9, x10, x11, x12, x13, x14, x15, x16, x17, x18, x19, x20, x21, rfl, hz, hp, hgood, rfl⟩
      have hst : p ≤ l.length → PV F 29 [.sl (items l) t, .int .i64 z] = some (.int .i64 (skip l p)) := fun h => refStart_v p hz (by omega) (by omega)
      have hzt : z.toNat = p - 1 := by omega
      have hskl : skip l p ≤ l.length := skip_le hp
      have hnext : ∀ q, (0 ≤ valP d p → (p = 0 ∨ (nth l (p - 1)).kind ≠ 0) → ∀ x ∈ linesAt l w p, ¬ badLine d (valP d p) x) → q < p + 1 → 0 ≤ valP d q → (q = 0 ∨ (nth l (q - 1)).kind ≠ 0) → ∀ x ∈ linesAt l w q, ¬ badLine d (valP d q) x := fun q h1 h2 => by
        by_cases e : q = p
        · subst e; exact h1
        · exact hgood q (by omega)
      have hvp : 0 < p → valP d p = nth d (p - 1) := fun h => by simp only [valP]; rw [if_neg (by omega)]
      have hv0 : p = 0 → valP d p = 0 := fun h => by simp only [valP]; rw [if_pos h]
      try simp (maxSteps := 4000000) (disch := first | assumption | omega | (simp only [push_next, put_next, empty_next, List.length_cons, List.length_nil] <;> omega) | exact _root_.id rfl | exact _root_.id (fun _ => rfl) | fail) only [↓pre, post, Int.reduceEq, Int.reduceLT, Int.reduceLE, Int.reduceAdd, Int.reduceSub, Int.reduceMul, Int.reduceNeg, Nat.reduceLT, Nat.reduceSub, Nat.reduceMul, Nat.reduceAdd, Nat.reduceLeDiff, reduceIte, reduceCtorEq, Nat.reduceEqDiff, hst, hzt, Item.toA]
      repeat' (first
        | (refine ifP_pos (by first | assumption | omega) ?_ <;> try simp (maxSteps := 4000000) (disch := first | assumption | omega | (simp only [push_next, put_next, empty_next, List.length_cons, List.length_nil] <;> omega) | exact _root_.id rfl | exact _root_.id (fun _ => rfl) | fail) only [↓pre, post, Int.reduceEq, Int.reduceLT, Int.reduceLE, Int.reduceAdd, Int.reduceSub, Int.reduceMul, Int.reduceNeg, Nat.reduceLT, Nat.reduceSub, Nat.reduceMul, Nat.reduceAdd, Nat.reduceLeDiff, reduceIte, reduceCtorEq, Nat.reduceEqDiff, hst, hzt, Item.toA])
        | (refine ifP_neg (by first | assumption | omega) ?_ <;> try simp (maxSteps := 4000000) (disch := first | assumption | omega | (simp only [push_next, put_next, empty_next, List.length_cons, List.length_nil] <;> omega) | exact _root_.id rfl | exact _root_.id (fun _ => rfl) | fail) only [↓pre, post, Int.reduceEq, Int.reduceLT, Int.reduceLE, Int.reduceAdd, Int.reduceSub, Int.reduceMul, Int.reduceNeg, Nat.reduceLT, Nat.reduceSub, Nat.reduceMul, Nat.reduceAdd, Nat.reduceLeDiff, reduceIte, reduceCtorEq, Nat.reduceEqDiff, hst, hzt, Item.toA])
        | (refine ifP_intro (fun hyp => ?_) (fun hyp => ?_) <;> first | simp (maxSteps := 4000000) (disch := first | assumption | omega | (simp only [push_next, put_next, empty_next, List.length_cons, List.length_nil] <;> omega) | exact _root_.id rfl | exact _root_.id (fun _ => rfl) | fail) only [↓pre, post, Int.reduceEq, Int.reduceLT, Int.reduceLE, Int.reduceAdd, Int.reduceSub, Int.reduceMul, Int.reduceNeg, Nat.reduceLT, Nat.reduceSub, Nat.reduceMul, Nat.reduceAdd, Nat.reduceLeDiff, reduceIte, reduceCtorEq, Nat.reduceEqDiff, hst, hzt, Item.toA, eq_false hyp] | simp (maxSteps := 4000000) (disch := first | assumption | omega | (simp only [push_next, put_next, empty_next, List.length_cons, List.length_nil] <;> omega) | exact _root_.id rfl | exact _root_.id (fun _ => rfl) | fail) only [↓pre, post, Int.reduceEq, Int.reduceLT, Int.reduceLE, Int.reduceAdd, Int.reduceSub, Int.reduceMul, Int.reduceNeg, Nat.reduceLT, Nat.reduceSub, Nat.reduceMul, Nat.reduceAdd, Nat.reduceLeDiff, reduceIte, reduceCtorEq, Nat.reduceEqDiff, hst, hzt, Item.toA, eq_true hyp] | skip))
      · exact lp_n ⟨l.length - (p + 1), by omega, p + 1, z + 1, _, _, _, _, _, _, _, _, _, _, _, _, _, rfl, by omega, by omega, fun q hq => hnext q (fun h => by rw [hvp (by omega)] at h; omega) hq, rfl⟩
      · exact lp_n ⟨l.length - (p + 1), by omega, p + 1, z + 1, _, _, _, _, _, _, _, _, _, _, _, _, _, rfl, by omega, by omega, fun q hq => hnext q (fun _ h => by rcases h with h | h; omega; exact absurd hyp h) hq, rfl⟩
      · refine w_loop (fun m vs h0 => ∃ (b : Nat) (vv : Int) (x12 x13 x14 x15 x16 x17 x18 x19 x20 x21 : AVal), m = l.length + 1 - b ∧ vv = valP d p ∧ skip l p + 1 ≤ b ∧ b ≤ l.length + 1 ∧ (∀ x ∈ linesAt l w p, x.1 < b → ¬ badLine d (valP d p) x) ∧
          vs = [.sl (items l) t, .int .i64 w, .sl (ls.map Ln.toA) t2, .sl (d.map (.int .i64)) t3, .int .i64 0, .int .i64 T, .bool B, .int .i64 i, .int .i64 z, .int .i64 vv, .int .i64 (skip l p), .int .i64 b, x12, x13, x14, x15, x16, x17, x18, x19, x20, x21]) (l.length - skip l p)
          ⟨skip l p + 1, _, _, _, _, _, _, _, _, _, _, _, by omega, by first | exact (hvp (by omega)).symm | exact (hv0 (by omega)).symm, by omega, by omega, fun x hx hlt => by have := (mem_linesAt hx).1.1; omega, rfl⟩ ?_
        rintro m vs h0 ⟨b, vv, x12, x13, x14, x15, x16, x17, x18, x19, x20, x21, rfl, hvv, hb1, hb2, hnb, rfl⟩
        have hcl := costR_line (l := l) (w := w) (p := p) (b := b) hv hw
        have hvp0 : 0 ≤ valP d p := by first | (rw [hvp (by omega)]; omega) | (rw [hv0 (by omega)]; omega)
        have hkp : p = 0 ∨ (nth l (p - 1)).kind ≠ 0 := by first | exact .inl (by omega) | exact .inr (by assumption)
        have hvi : i64 (valP d p) := by
          unfold valP
          split
          · unfold i64; omega
          · exact nth_i64 hdi _
        have hdb : i64 (nth d (b - 1)) := nth_i64 hdi _
        obtain ⟨vi1, vi2⟩ := hvi
        obtain ⟨db1, db2⟩ := hdb
        have hstep : ∀ bb, bb = b → (lineOk l w (skip l p) b → ¬ badLine d (valP d p) (b, natS l (skip l p) b, costN l w (skip l p) b)) → ∀ x ∈ linesAt l w p, x.1 < bb + 1 → ¬ badLine d (valP d p) x := fun bb e h x hx hlt => by
          subst e
          by_cases e : x.1 = bb
          · obtain ⟨m1, m2, m3, m4, m5⟩ := mem_linesAt hx
            have e2 : x = (bb, natS l (skip l p) bb, costN l w (skip l p) bb) := by
              rw [e] at m4 m5
              obtain ⟨x1, x2, x3⟩ := x
              simp only at e m4 m5
              rw [e, m4, m5]
            rw [e] at m1
            rw [e2]; exact h m1
          · exact hnb x hx (by omega)
        try simp (maxSteps := 4000000) (disch := first | assumption | omega | (simp only [push_next, put_next, empty_next, List.length_cons, List.length_nil] <;> omega) | exact _root_.id rfl | exact _root_.id (fun _ => rfl) | fail) only [↓pre, post, Int.reduceEq, Int.reduceLT, Int.reduceLE, Int.reduceAdd, Int.reduceSub, Int.reduceMul, Int.reduceNeg, Nat.reduceLT, Nat.reduceSub, Nat.reduceMul, Nat.reduceAdd, Nat.reduceLeDiff, reduceIte, reduceCtorEq, Nat.reduceEqDiff, hrc]
        repeat' (first
          | (refine ifP_pos (by first | assumption | omega) ?_ <;> try simp (maxSteps := 4000000) (disch := first | assumption | omega | (simp only [push_next, put_next, empty_next, List.length_cons, List.length_nil] <;> omega) | exact _root_.id rfl | exact _root_.id (fun _ => rfl) | fail) only [↓pre, post, Int.reduceEq, Int.reduceLT, Int.reduceLE, Int.reduceAdd, Int.reduceSub, Int.reduceMul, Int.reduceNeg, Nat.reduceLT, Nat.reduceSub, Nat.reduceMul, Nat.reduceAdd, Nat.reduceLeDiff, reduceIte, reduceCtorEq, Nat.reduceEqDiff, hrc])
          | (refine ifP_neg (by first | assumption | omega) ?_ <;> try simp (maxSteps := 4000000) (disch := first | assumption | omega | (simp only [push_next, put_next, empty_next, List.length_cons, List.length_nil] <;> omega) | exact _root_.id rfl | exact _root_.id (fun _ => rfl) | fail) only [↓pre, post, Int.reduceEq, Int.reduceLT, Int.reduceLE, Int.reduceAdd, Int.reduceSub, Int.reduceMul, Int.reduceNeg, Nat.reduceLT, Nat.reduceSub, Nat.reduceMul, Nat.reduceAdd, Nat.reduceLeDiff, reduceIte, reduceCtorEq, Nat.reduceEqDiff, hrc])
          | (refine ifP_intro (fun hyp => ?_) (fun hyp => ?_) <;> first | simp (maxSteps := 4000000) (disch := first | assumption | omega | (simp only [push_next, put_next, empty_next, List.length_cons, List.length_nil] <;> omega) | exact _root_.id rfl | exact _root_.id (fun _ => rfl) | fail) only [↓pre, post, Int.reduceEq, Int.reduceLT, Int.reduceLE, Int.reduceAdd, Int.reduceSub, Int.reduceMul, Int.reduceNeg, Nat.reduceLT, Nat.reduceSub, Nat.reduceMul, Nat.reduceAdd, Nat.reduceLeDiff, reduceIte, reduceCtorEq, Nat.reduceEqDiff, hrc, eq_false hyp] | simp (maxSteps := 4000000) (disch := first | assumption | omega | (simp only [push_next, put_next, empty_next, List.length_cons, List.length_nil] <;> omega) | exact _root_.id rfl | exact _root_.id (fun _ => rfl) | fail) only [↓pre, post, Int.reduceEq, Int.reduceLT, Int.reduceLE, Int.reduceAdd, Int.reduceSub, Int.reduceMul, Int.reduceNeg, Nat.reduceLT, Nat.reduceSub, Nat.reduceMul, Nat.reduceAdd, Nat.reduceLeDiff, reduceIte, reduceCtorEq, Nat.reduceEqDiff, hrc, eq_true hyp] | skip))
        all_goals first
          | (have hlo := hcl.1.1 (by assumption)
             rw [if_neg]
             intro h
             refine (hG.1 h).2.2 p (by omega) hvp0 hkp _ (mem_of_lineOk hlo) ?_
             have := hcl.2 hlo
             unfold badLine
             simp only
             omega)
          | exact lp_n ⟨l.length + 1 - (b + 1), by omega, b + 1, _, _, _, _, _, _, _, _, _, _, _, rfl, hvv, by omega, by omega, hstep b rfl (fun hlo => by have h1 := hcl.2 hlo; have h2 := hcl.1.2 hlo; unfold badLine; simp only; omega), rfl⟩
          | exact lp_n ⟨l.length - (p + 1), by omega, p + 1, z + 1, _, _, _, _, _, _, _, _, _, _, _, _, _, rfl, by omega, by omega, fun q hq => hnext q (fun _ _ x hx => hnb x hx (by have := (mem_linesAt hx).2.2.1; omega)) hq, rfl⟩
      · refine w_loop (fun m vs h0 => ∃ (b : Nat) (vv : Int) (x12 x13 x14 x15 x16 x17 x18 x19 x20 x21 : AVal), m = l.length + 1 - b ∧ vv = valP d p ∧ skip l p + 1 ≤ b ∧ b ≤ l.length + 1 ∧ (∀ x ∈ linesAt l w p, x.1 < b → ¬ badLine d (valP d p) x) ∧
          vs = [.sl (items l) t, .int .i64 w, .sl (ls.map Ln.toA) t2, .sl (d.map (.int .i64)) t3, .int .i64 0, .int .i64 T, .bool B, .int .i64 i, .int .i64 z, .int .i64 vv, .int .i64 (skip l p), .int .i64 b, x12, x13, x14, x15, x16, x17, x18, x19, x20, x21]) (l.length - skip l p)
          ⟨skip l p + 1, _, _, _, _, _, _, _, _, _, _, _, by omega, by first | exact (hvp (by omega)).symm | exact (hv0 (by omega)).symm, by omega, by omega, fun x hx hlt => by have := (mem_linesAt hx).1.1; omega, rfl⟩ ?_
        rintro m vs h0 ⟨b, vv, x12, x13, x14, x15, x16, x17, x18, x19, x20, x21, rfl, hvv, hb1, hb2, hnb, rfl⟩
        have hcl := costR_line (l := l) (w := w) (p := p) (b := b) hv hw
        have hvp0 : 0 ≤ valP d p := by first | (rw [hvp (by omega)]; omega) | (rw [hv0 (by omega)]; omega)
        have hkp : p = 0 ∨ (nth l (p - 1)).kind ≠ 0 := by first | exact .inl (by omega) | exact .inr (by assumption)
        have hvi : i64 (valP d p) := by
          unfold valP
          split
          · unfold i64; omega
          · exact nth_i64 hdi _
        have hdb : i64 (nth d (b - 1)) := nth_i64 hdi _
        obtain ⟨vi1, vi2⟩ := hvi
        obtain ⟨db1, db2⟩ := hdb
        have hstep : ∀ bb, bb = b → (lineOk l w (skip l p) b → ¬ badLine d (valP d p) (b, natS l (skip l p) b, costN l w (skip l p) b)) → ∀ x ∈ linesAt l w p, x.1 < bb + 1 → ¬ badLine d (valP d p) x := fun bb e h x hx hlt => by
          subst e
          by_cases e : x.1 = bb
          · obtain ⟨m1, m2, m3, m4, m5⟩ := mem_linesAt hx
            have e2 : x = (bb, natS l (skip l p) bb, costN l w (skip l p) bb) := by
              rw [e] at m4 m5
              obtain ⟨x1, x2, x3⟩ := x
              simp only at e m4 m5
              rw [e, m4, m5]
            rw [e] at m1
            rw [e2]; exact h m1
          · exact hnb x hx (by omega)
        try simp (maxSteps := 4000000) (disch := first | assumption | omega | (simp only [push_next, put_next, empty_next, List.length_cons, List.length_nil] <;> omega) | exact _root_.id rfl | exact _root_.id (fun _ => rfl) | fail) only [↓pre, post, Int.reduceEq, Int.reduceLT, Int.reduceLE, Int.reduceAdd, Int.reduceSub, Int.reduceMul, Int.reduceNeg, Nat.reduceLT, Nat.reduceSub, Nat.reduceMul, Nat.reduceAdd, Nat.reduceLeDiff, reduceIte, reduceCtorEq, Nat.reduceEqDiff, hrc]
        repeat' (first
          | (refine ifP_pos (by first | assumption | omega) ?_ <;> try simp (maxSteps := 4000000) (disch := first | assumption | omega | (simp only [push_next, put_next, empty_next, List.length_cons, List.length_nil] <;> omega) | exact _root_.id rfl | exact _root_.id (fun _ => rfl) | fail) only [↓pre, post, Int.reduceEq, Int.reduceLT, Int.reduceLE, Int.reduceAdd, Int.reduceSub, Int.reduceMul, Int.reduceNeg, Nat.reduceLT, Nat.reduceSub, Nat.reduceMul, Nat.reduceAdd, Nat.reduceLeDiff, reduceIte, reduceCtorEq, Nat.reduceEqDiff, hrc])
          | (refine ifP_neg (by first | assumption | omega) ?_ <;> try simp (maxSteps := 4000000) (disch := first | assumption | omega | (simp only [push_next, put_next, empty_next, List.length_cons, List.length_nil] <;> omega) | exact _root_.id rfl | exact _root_.id (fun _ => rfl) | fail) only [↓pre, post, Int.reduceEq, Int.reduceLT, Int.reduceLE, Int.reduceAdd, Int.reduceSub, Int.reduceMul, Int.reduceNeg, Nat.reduceLT, Nat.reduceSub, Nat.reduceMul, Nat.reduceAdd, Nat.reduceLeDiff, reduceIte, reduceCtorEq, Nat.reduceEqDiff, hrc])
          | (refine ifP_intro (fun hyp => ?_) (fun hyp => ?_) <;> first | simp (maxSteps := 4000000) (disch := first | assumption | omega | (simp only [push_next, put_next, empty_next, List.length_cons, List.length_nil] <;> omega) | exact _root_.id rfl | exact _root_.id (fun _ => rfl) | fail) only [↓pre, post, Int.reduceEq, Int.reduceLT, Int.reduceLE, Int.reduceAdd, Int.reduceSub, Int.reduceMul, Int.reduceNeg, Nat.reduceLT, Nat.reduceSub, Nat.reduceMul, Nat.reduceAdd, Nat.reduceLeDiff, reduceIte, reduceCtorEq, Nat.reduceEqDiff, hrc, eq_false hyp] | simp (maxSteps := 4000000) (disch := first | assumption | omega | (simp only [push_next, put_next, empty_next, List.length_cons, List.length_nil] <;> omega) | exact _root_.id rfl | exact _root_.id (fun _ => rfl) | fail) only [↓pre, post, Int.reduceEq, Int.reduceLT, Int.reduceLE, Int.reduceAdd, Int.reduceSub, Int.reduceMul, Int.reduceNeg, Nat.reduceLT, Nat.reduceSub, Nat.reduceMul, Nat.reduceAdd, Nat.reduceLeDiff, reduceIte, reduceCtorEq, Nat.reduceEqDiff, hrc, eq_true hyp] | skip))
        all_goals first
          | (have hlo := hcl.1.1 (by assumption)
             rw [if_neg]
             intro h
             refine (hG.1 h).2.2 p (by omega) hvp0 hkp _ (mem_of_lineOk hlo) ?_
             have := hcl.2 hlo
             unfold badLine
             simp only
             omega)
          | exact lp_n ⟨l.length + 1 - (b + 1), by omega, b + 1, _, _, _, _, _, _, _, _, _, _, _, rfl, hvv, by omega, by omega, hstep b rfl (fun hlo => by have h1 := hcl.2 hlo; have h2 := hcl.1.2 hlo; unfold badLine; simp only; omega), rfl⟩
          | exact lp_n ⟨l.length - (p + 1), by omega, p + 1, z + 1, _, _, _, _, _, _, _, _, _, _, _, _, _, rfl, by omega, by omega, fun q hq => hnext q (fun _ _ x hx => hnb x hx (by have := (mem_linesAt hx).2.2.1; omega)) hq, rfl⟩
      · rw [if_pos (hG.2 ⟨⟨hB, hdl', by assumption⟩, hneg', fun q hq => hgood q (by omega)⟩)]
    · rw [if_neg (no1 (fun h => hyp h.2.2))]
    · rw [if_neg (no1 (fun h => by omega))]
    · rw [if_neg (no1 (fun h => hyp h.1))]
  · try simp (maxSteps := 4000000) (disch := first | assumption | omega | (simp only [push_next, put_next, empty_next, List.length_cons, List.length_nil] <;> omega) | exact _root_.id rfl | exact _root_.id (fun _ => rfl) | fail) only [↓pre, post, Int.reduceEq, Int.reduceLT, Int.reduceLE, Int.reduceAdd, Int.reduceSub, Int.reduceMul, Int.reduceNeg, Nat.reduceLT, Nat.reduceSub, Nat.reduceMul, Nat.reduceAdd, Nat.reduceLeDiff, reduceIte, reduceCtorEq, Nat.reduceEqDiff, refReady_v, eq_false hr]
    repeat' (first
      | (refine ifP_pos (by first | assumption | omega) ?_ <;> try simp (maxSteps := 4000000) (disch := first | assumption | omega | (simp only [push_next, put_next, empty_next, List.length_cons, List.length_nil] <;> omega) | exact _root_.id rfl | exact _root_.id (fun _ => rfl) | fail) only [↓pre, post, Int.reduceEq, Int.reduceLT, Int.reduceLE, Int.reduceAdd, Int.reduceSub, Int.reduceMul, Int.reduceNeg, Nat.reduceLT, Nat.reduceSub, Nat.reduceMul, Nat.reduceAdd, Nat.reduceLeDiff, reduceIte, reduceCtorEq, Nat.reduceEqDiff, refReady_v, eq_false hr])
      | (refine ifP_neg (by first | assumption | omega) ?_ <;> try simp (maxSteps := 4000000) (disch := first | assumption | omega | (simp only [push_next, put_next, empty_next, List.length_cons, List.length_nil] <;> omega) | exact _root_.id rfl | exact _root_.id (fun _ => rfl) | fail) only [↓pre, post, Int.reduceEq, Int.reduceLT, Int.reduceLE, Int.reduceAdd, Int.reduceSub, Int.reduceMul, Int.reduceNeg, Nat.reduceLT, Nat.reduceSub, Nat.reduceMul, Nat.reduceAdd, Nat.reduceLeDiff, reduceIte, reduceCtorEq, Nat.reduceEqDiff, refReady_v, eq_false hr])
      | (refine ifP_intro (fun hyp => ?_) (fun hyp => ?_) <;> first | simp (maxSteps := 4000000) (disch := first | assumption | omega | (simp only [push_next, put_next, empty_next, List.length_cons, List.length_nil] <;> omega) | exact _root_.id rfl | exact _root_.id (fun _ => rfl) | fail) only [↓pre, post, Int.reduceEq, Int.reduceLT, Int.reduceLE, Int.reduceAdd, Int.reduceSub, Int.reduceMul, Int.reduceNeg, Nat.reduceLT, Nat.reduceSub, Nat.reduceMul, Nat.reduceAdd, Nat.reduceLeDiff, reduceIte, reduceCtorEq, Nat.reduceEqDiff, refReady_v, eq_false hr, eq_false hyp] | simp (maxSteps := 4000000) (disch := first | assumption | omega | (simp only [push_next, put_next, empty_next, List.length_cons, List.length_nil] <;> omega) | exact _root_.id rfl | exact _root_.id (fun _ => rfl) | fail) only [↓pre, post, Int.reduceEq, Int.reduceLT, Int.reduceLE, Int.reduceAdd, Int.reduceSub, Int.reduceMul, Int.reduceNeg, Nat.reduceLT, Nat.reduceSub, Nat.reduceMul, Nat.reduceAdd, Nat.reduceLeDiff, reduceIte, reduceCtorEq, Nat.reduceEqDiff, refReady_v, eq_false hr, eq_true hyp] | skip))

end Go.Proofs.Ytcammfdljiingaa
