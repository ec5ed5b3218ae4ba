/-
  The law of Check, on the abstract machine.
-/
import Derived.Test.YtcammfdljiingaaLbR
import Derived.Test.YtcammfdljiingaaLbP
set_option linter.unusedSimpArgs false
set_option linter.unusedVariables false
set_option maxHeartbeats 8000000
namespace Go.Proofs.Ytcammfdljiingaa
open Go Go.Abs

def lnOk (x : Ln) : Prop := -1000000 ≤ x.a ∧ x.a ≤ 1000000 ∧ -1000000 ≤ x.b ∧ x.b ≤ 1000000 ∧ -100000000 ≤ x.n ∧ x.n ≤ 100000000
def Good (q : Pl) : Prop := (q.is = true → q.lines ≠ []) ∧ ∀ x ∈ q.lines, lnOk x

theorem fold_inv {α β : Type} (P : β → Prop) (f : β → α → β) : ∀ (l : List α) (s : β), P s → (∀ s x, x ∈ l → P s → P (f s x)) → P (l.foldl f s)
  | [], s, h, _ => h
  | x :: l, s, h, hs => fold_inv P f l (f s x) (hs s x (by simp) h) (fun s y hy => hs s y (by simp [hy]))

theorem set_inv {P : Pl → Prop} {s : List Pl} {k : Nat} {q : Pl} (h : ∀ i, P (nth s i)) (hq : P q) : ∀ i, P (nth (s.set k q) i) := by
  intro i
  by_cases hk : k = i
  · subst hk
    by_cases hl : k < s.length
    · rw [nth_set_self hl]; exact hq
    · rw [List.set_eq_of_length_le (by omega)]; exact h k
  · rw [nth_set_ne hk]; exact h i

theorem plans_good {l : List Item} {w : Int} (hv : valid l) : ∀ k, Good (nth (plansS l w) k) := by
  have hl := hv.2.1
  have hz : Good zeroPl := ⟨by simp [zeroPl], by simp [zeroPl]⟩
  have hd : Good default := ⟨fun h => absurd h (by decide), by simp [default, instInhabitedPl.default]⟩
  unfold plansS
  refine fold_inv (fun s => ∀ k, Good (nth s k)) _ _ _ ?_ ?_
  · intro k
    by_cases hk : k < l.length
    · rw [nth_replicate hk]; exact hz
    · rw [nth, List.getD_eq_getElem?_getD, List.getElem?_eq_none (by simp; omega)]; exact hd
  · intro s p hp hs
    rw [List.mem_range] at hp
    unfold rnd
    split
    · exact hs
    · have hq := hs (p - 1)
      generalize nth s (p - 1) = q at hq
      refine fold_inv (fun s => ∀ k, Good (nth s k)) _ _ _ hs ?_
      intro s x hx hs
      obtain ⟨m1, m2, m3, m4, m5⟩ := mem_linesAt hx
      have hb := nat_bound hv m1.1 m1.2.1
      have hk := skip_le (l := l) (p := p) (by omega)
      unfold bst
      split
      · refine set_inv hs ⟨by simp [newPl], fun y hy => ?_⟩
        simp only [newPl, List.mem_append, List.mem_singleton] at hy
        rcases hy with hy | rfl
        · split at hy
          · simp at hy
          · exact hq.2 y hy
        · rw [← m4] at hb
          unfold lnOk; simp only; omega
      · exact hs

theorem plans_bnd {l : List Item} {w : Int} (hv : valid l) (hw : widthOk w) : Bnd (plansS l w) := by
  obtain ⟨ps, _, _, h⟩ := plans_v (t := .none) (.inl rfl) hv hw
  exact h

theorem rduals_bnd {l : List Item} {w : Int} (hv : valid l) (hw : widthOk w) : ∀ x ∈ rdualsS l w, -1 ≤ x ∧ x ≤ 10000000000000 := by
  intro x hx
  have hl := hv.2.1
  unfold rdualsS at hx
  rw [List.mem_map] at hx
  obtain ⟨q, hq, rfl⟩ := hx
  obtain ⟨k, hk, rfl⟩ := List.getElem_of_mem hq
  have hb := plans_bnd hv hw k
  rw [nth_eq hk] at hb
  rw [plansS_len] at hk
  split <;> omega

/-- Lists with their rights. -/
structure LL where
  ls : List Ln
  tk : Tok
  deriving Inhabited
def LL.toA (x : LL) : AVal := .sl (x.ls.map Ln.toA) x.tk
structure DD where
  ds : List Int
  tk : Tok
  deriving Inhabited
def DD.toA (x : DD) : AVal := .sl (x.ds.map (.int .i64)) x.tk

theorem readI_take {d : List Int} {h : Heap} {id n : Nat} {mu : Bool} (hr : h.get id = some (.row mu 1 false (d.map (.int .i64)))) (hn : n ≤ d.length) : readRef h id 0 n 1 = some ((d.take n).map (.int .i64)) := by
  rw [← flat_int] at hr
  exact readRef_flat (sz := 1) (f := AVal.int .i64) (g := AVal.int .i64) (fun _ => rfl) (fun _ => rfl) false (fun _ => rfl) (fun _ => rfl) d hr hn

theorem lit3_v {D E : List Int} {k : Nat} {h : Heap} {mu : Bool} (hr : h.get 0 = some (.row mu 1 false (E.map (.int .i64)))) (hk : k ≤ E.length) :
    ∃ h2, litA 3 22 4 1 false [.sl [] .nil] (some [.sl (D.map (.int .i64)) .none, .ref 0 0 E.length 1, .ref 0 0 k 1, .sl [] .nil]) h = some (.sl (([⟨D, .none⟩, ⟨E, .none⟩, ⟨E.take k, .none⟩, ⟨[], .nil⟩] : List DD).map DD.toA) .none, h2) ∧ h2.get 0 = some (.row false 1 false (E.map (.int .i64))) := by
  have p1 : purifyL h [.sl (D.map (.int .i64)) .none, .ref 0 0 E.length 1, .ref 0 0 k 1, .sl [] .nil] = some [.sl (D.map (.int .i64)) .none, .sl (E.map (.int .i64)) .none, .sl ((E.take k).map (.int .i64)) .none, .sl [] .nil] := by
    simp only [puL_cons, puL_nil, pu_none, pu_nil, pu_ref, readI hr, readI_take hr hk, Option.map_some, sc_some]
  have hr2 : (h.put 0 (some (.row false 1 false (E.map (.int .i64))))).get 0 = some (.row false 1 false (E.map (.int .i64))) := get_put_old hr
  have f1 : Abs.freeze h (refIdsL [.sl (D.map (.int .i64)) .none, .ref 0 0 E.length 1, .ref 0 0 k 1, .sl [] .nil]) = some ((h.put 0 (some (.row false 1 false (E.map (.int .i64))))).put 0 (some (.row false 1 false (E.map (.int .i64))))) := by
    have e : refIdsL [.sl (D.map (.int .i64)) .none, .ref 0 0 E.length 1, .ref 0 0 k 1, .sl [] .nil] = [0, 0] := by simp [refIdsL, refIds]
    rw [e]
    simp only [Abs.freeze, hr, hr2]
  refine ⟨_, ?_, get_put_old hr2⟩
  simp only [litA, p1, f1]
  rfl

open Classical in
theorem checks_run {l : List Int} {tk : Tok} {a b c d : Int} (htk : Pt tk) (hl : ∀ x ∈ l, i64 x) (ha : i64 a) (hb : i64 b) (hc : i64 c) (hd : i64 d) :
    ∃ h', Gives F 4 [.sl (l.map (.int .i64)) tk, .int .i64 a, .int .i64 b, .int .i64 c, .int .i64 d] Heap.empty (.bool true) h' := by
  suffices hs : CV F 4 [.sl (l.map (.int .i64)) tk, .int .i64 a, .int .i64 b, .int .i64 c, .int .i64 d] Heap.empty (fun r _ => r = .bool true) by
    obtain ⟨r, h', g, rfl⟩ := hs; exact ⟨h', g⟩
  obtain ⟨li, e1, v1, s1, n1⟩ := items_v (t := tk) hl htk
  have B1 := around_bound a (m := 20) (by omega)
  generalize hw0 : aroundS a 20 = w0 at B1
  have hw : widthOk (3 + w0) := by unfold widthOk; omega
  have hw' : widthOk (3 + w0 + 1) := by unfold widthOk; omega
  have hr : widthOk (3 + w0) ∧ valid li := ⟨hw, v1⟩
  obtain ⟨t1, pt1, b1⟩ := refBreak_v (l := li) (t := .none) (w := 3 + w0) (.inl rfl) (by omega)
  obtain ⟨t2, pt2, b2⟩ := refBreak_v (l := li) (t := .none) (w := 3 + w0 + 1) (.inl rfl) (by omega)
  rw [if_pos hr] at b1
  rw [if_pos ⟨hw', v1⟩] at b2
  have d1 := refDuals_v (l := li) (t := .none) (w := 3 + w0) (.inl rfl) (by omega)
  rw [if_pos hr] at d1
  have hdb := rduals_bnd (w := 3 + w0) v1 hw
  have hdl : (rdualsS li (3 + w0)).length = li.length := by rw [rdualsS, List.length_map, plansS_len]
  have hl1 := v1.1
  generalize hD : rdualsS li (3 + w0) = D at d1 hdb hdl
  have hDi : ∀ x ∈ D, i64 x := fun x hx => by have := hdb x hx; unfold i64; omega
  have g1 := plans_good (w := 3 + w0) v1 (li.length - 1)
  have g2 := plans_good (w := 3 + w0 + 1) v1 (li.length - 1)
  have q1 := (plans_bnd (w := 3 + w0) v1 hw (li.length - 1)).2.2
  have q2 := (plans_bnd (w := 3 + w0 + 1) v1 hw' (li.length - 1)).2.2
  generalize nth (plansS li (3 + w0)) (li.length - 1) = P1 at b1 g1 q1
  generalize nth (plansS li (3 + w0 + 1)) (li.length - 1) = P2 at b2 g2 q2
  -- what Break of the wider lines gives
  obtain ⟨O, n2, ee2, e2, hO1, hO2, hO3⟩ : ∃ (O : LL) (n2 e2 : Int), PV F 14 [.sl (items li) .none, .int .i64 (3 + w0 + 1)] = some (.tup [LL.toA O, .int .i64 n2, .int .i64 e2]) ∧ Pt O.tk ∧ O.ls.length ≤ 1001 ∧ ∀ x ∈ O.ls, i64 x.b := by
    split at b2
    · exact ⟨⟨P2.lines, t2⟩, _, _, b2, pt2, by simp only; omega, fun x hx => by have := g2.2 x hx; unfold lnOk at this; unfold i64; omega⟩
    · exact ⟨⟨[], .nil⟩, _, _, b2, .inr rfl, by simp, by simp⟩
  have hCK : ∀ (lx : List Item) (tx : Tok) (w : Int) (x : LL) (y : DD), Pt tx → lx.length ≤ 100 → Pt x.tk → x.ls.length ≤ 1001 → (∀ z ∈ x.ls, i64 z.b) → Pt y.tk → y.ds.length ≤ 1000 → (∀ z ∈ y.ds, i64 z) →
      ∃ r : Int, PV F 20 [.sl (items lx) tx, .int .i64 w, LL.toA x, DD.toA y] = some (.int .i64 r) ∧ PV F 22 [.sl (items lx) tx, .int .i64 w, LL.toA x, DD.toA y] = some (.int .i64 r) :=
    fun lx tx w x y h1 h2 h3 h4 h5 h6 h7 h8 => ⟨_, check_v h1 h3 h6 (by omega) (by omega) h5 (by omega) h8, refCheck_v h1 h3 h6 (by omega) (by omega) h5 (by omega) h8⟩
  refine CV_wp (fn := c4) rfl ?_
  dsimp only [c4]
  by_cases h1 : P1.is = true
  · rw [if_pos h1] at b1
    have B2 := around_bound b (m := D.length) (by omega)
    generalize hk : aroundS b D.length = k at B2
    have A1 := append_arr_nil (f := AVal.int .i64) (ty := 3) (bytes := 8) (ag := false) (h := Heap.empty) (t := .none) D (sz := 1) (fun _ => rfl) (by omega) (by omega) (by omega) (by omega) (by omega)
    rw [flat_int] at A1
    have hDk := hdb _ (nth_mem (l := D) (i := k.toNat) (by omega))
    obtain ⟨hc1, hc2⟩ := hc
    have hq7 : i64 (c.tdiv 7) := by
      unfold i64
      rcases Int.le_total 0 c with h | h
      · rw [Int.tdiv_eq_ediv_of_nonneg h]; omega
      · have e : c.tdiv 7 = -((-c).tdiv 7) := by rw [Int.neg_tdiv]; omega
        rw [e, Int.tdiv_eq_ediv_of_nonneg (by omega)]; omega
    obtain ⟨q71, q72⟩ := hq7
    have B3 := around_bound (c.tdiv 7) (m := 6) (by omega)
    have hj := around_v (n := c.tdiv 7) (m := 6) ⟨q71, q72⟩ (by omega)
    generalize aroundS (c.tdiv 7) 6 = j at B3 hj
    have DK : mk false (List.take 1 (List.drop (k.toNat * 1) (D.map (.int .i64)))) = some (.int .i64 (nth D k.toNat)) := by
      rw [Nat.mul_one, ← List.map_drop, List.drop_eq_getElem_cons (by omega : k.toNat < D.length), nth_eq (by omega)]; rfl
    have SM : ∀ v, (D.map (AVal.int .i64)).set (k.toNat * 1) (.int .i64 v) = (D.set k.toNat v).map (.int .i64) := fun v => by rw [Nat.mul_one, List.map_set]
    obtain ⟨v, hv, hvi⟩ : ∃ v : Int, (∀ (x i : Opd) (h : Heap), valA (.iaddr 1 x i) (.sl [.int .i64 (nth D k.toNat - 1), .int .i64 (nth D k.toNat + 1), .int .i64 (-1), .int .i64 0, .int .i64 d, .int .i64 (-2)] .none) (.int .i64 j) h = some (.rp [.int .i64 v])) ∧ i64 v := by
      refine ⟨nth [nth D k.toNat - 1, nth D k.toNat + 1, -1, 0, d, -2] j.toNat, fun x i h => iaddr_map (f := AVal.int .i64) (sz := 1) (l := [nth D k.toNat - 1, nth D k.toNat + 1, -1, 0, d, -2]) x i h B3.1 (by simp; omega), ?_⟩
      have : nth [nth D k.toNat - 1, nth D k.toNat + 1, -1, 0, d, -2] j.toNat ∈ [nth D k.toNat - 1, nth D k.toNat + 1, -1, 0, d, -2] := nth_mem (by simp; omega)
      simp only [List.mem_cons, List.not_mem_nil, or_false] at this
      unfold i64 at hd ⊢
      rcases this with h | h | h | h | h | h <;> rw [h] <;> omega
    have hEi : ∀ x ∈ D.set k.toNat v, i64 x := fun x hx => by
      rcases List.mem_or_eq_of_mem_set hx with hx | rfl
      · exact hDi x hx
      · exact hvi
    have hDl : (D.map (AVal.int .i64)).length = D.length := by simp
    obtain ⟨lb, tv, tl, ti⟩ := turned_v (ls := P1.lines) (t := t1) (a := b) (h := c) (b := d) pt1 (by have := g1.1 h1; cases hP : P1.lines with | nil => exact absurd hP this | cons => simp) (by omega) hb ⟨hc1, hc2⟩ hd g1.2
    have hOA : LL.toA O = .sl (O.ls.map Ln.toA) O.tk := rfl
    rw [hOA] at e2
    try simp (maxSteps := 4000000) (disch := first | assumption | omega | (simp only [push_next, put_next, empty_next, List.length_cons, List.length_nil] <;> omega) | exact _root_.id rfl | exact _root_.id (fun _ => rfl) | fail) only [↓pre, post, Int.reduceEq, Int.reduceLT, Int.reduceLE, Int.reduceAdd, Int.reduceSub, Int.reduceMul, Int.reduceNeg, Nat.reduceLT, Nat.reduceSub, Nat.reduceMul, Nat.reduceAdd, Nat.reduceLeDiff, reduceIte, reduceCtorEq, Nat.reduceEqDiff, e1, hw0, b1, d1, A1, hk, around_v, DK, hj, hv, SM, tv, e2]
    repeat' (first
      | (refine ifP_pos (by first | assumption | omega) ?_ <;> try simp (maxSteps := 4000000) (disch := first | assumption | omega | (simp only [push_next, put_next, empty_next, List.length_cons, List.length_nil] <;> omega) | exact _root_.id rfl | exact _root_.id (fun _ => rfl) | fail) only [↓pre, post, Int.reduceEq, Int.reduceLT, Int.reduceLE, Int.reduceAdd, Int.reduceSub, Int.reduceMul, Int.reduceNeg, Nat.reduceLT, Nat.reduceSub, Nat.reduceMul, Nat.reduceAdd, Nat.reduceLeDiff, reduceIte, reduceCtorEq, Nat.reduceEqDiff, e1, hw0, b1, d1, A1, hk, around_v, DK, hj, hv, SM, tv, e2])
      | (refine ifP_neg (by first | assumption | omega) ?_ <;> try simp (maxSteps := 4000000) (disch := first | assumption | omega | (simp only [push_next, put_next, empty_next, List.length_cons, List.length_nil] <;> omega) | exact _root_.id rfl | exact _root_.id (fun _ => rfl) | fail) only [↓pre, post, Int.reduceEq, Int.reduceLT, Int.reduceLE, Int.reduceAdd, Int.reduceSub, Int.reduceMul, Int.reduceNeg, Nat.reduceLT, Nat.reduceSub, Nat.reduceMul, Nat.reduceAdd, Nat.reduceLeDiff, reduceIte, reduceCtorEq, Nat.reduceEqDiff, e1, hw0, b1, d1, A1, hk, around_v, DK, hj, hv, SM, tv, e2])
      | (refine ifP_intro (fun hyp => ?_) (fun hyp => ?_) <;> first | simp (maxSteps := 4000000) (disch := first | assumption | omega | (simp only [push_next, put_next, empty_next, List.length_cons, List.length_nil] <;> omega) | exact _root_.id rfl | exact _root_.id (fun _ => rfl) | fail) only [↓pre, post, Int.reduceEq, Int.reduceLT, Int.reduceLE, Int.reduceAdd, Int.reduceSub, Int.reduceMul, Int.reduceNeg, Nat.reduceLT, Nat.reduceSub, Nat.reduceMul, Nat.reduceAdd, Nat.reduceLeDiff, reduceIte, reduceCtorEq, Nat.reduceEqDiff, e1, hw0, b1, d1, A1, hk, around_v, DK, hj, hv, SM, tv, e2, eq_false hyp] | simp (maxSteps := 4000000) (disch := first | assumption | omega | (simp only [push_next, put_next, empty_next, List.length_cons, List.length_nil] <;> omega) | exact _root_.id rfl | exact _root_.id (fun _ => rfl) | fail) only [↓pre, post, Int.reduceEq, Int.reduceLT, Int.reduceLE, Int.reduceAdd, Int.reduceSub, Int.reduceMul, Int.reduceNeg, Nat.reduceLT, Nat.reduceSub, Nat.reduceMul, Nat.reduceAdd, Nat.reduceLeDiff, reduceIte, reduceCtorEq, Nat.reduceEqDiff, e1, hw0, b1, d1, A1, hk, around_v, DK, hj, hv, SM, tv, e2, eq_true hyp] | skip))
    obtain ⟨LS, hLS⟩ : ∃ LS : List LL, LS = [⟨P1.lines, t1⟩, ⟨lb, .none⟩, O, ⟨[], .nil⟩] := ⟨_, rfl⟩
    have hLSl : LS.length = 4 := by rw [hLS]; rfl
    have hLSok : ∀ x ∈ LS, Pt x.tk ∧ x.ls.length ≤ 1001 ∧ ∀ z ∈ x.ls, i64 z.b := by
      intro x hx
      rw [hLS] at hx
      simp only [List.mem_cons, List.not_mem_nil, or_false] at hx
      rcases hx with rfl | rfl | rfl | rfl
      · exact ⟨pt1, by simp only; omega, fun z hz => by have := g1.2 z hz; unfold lnOk at this; unfold i64; omega⟩
      · exact ⟨.inl rfl, tl, ti⟩
      · exact ⟨hO1, hO2, hO3⟩
      · exact ⟨.inr rfl, by simp, by simp⟩
    refine w_loop (fun m vs h0 => ∃ (i : Nat) (mu : Bool) (x16 x17 x18 x19 x20 x21 : AVal), m = 4 - i ∧ i ≤ 4 ∧ h0.get 0 = some (.row mu 1 false ((D.set k.toNat v).map (.int .i64))) ∧
      vs = [.sl (l.map (.int .i64)) tk, .int .i64 a, .int .i64 b, .int .i64 c, .int .i64 d, .bool false, .sl (items li) .none, .int .i64 (3 + w0), .sl (P1.lines.map Ln.toA) t1, .int .i64 0, .sl (D.map (.int .i64)) .none, .ref 0 0 D.length 1, .int .i64 k, .sl (O.ls.map Ln.toA) O.tk, .sl (LS.map LL.toA) .none, .int .i64 i, x16, x17, x18, x19, x20, x21]) 4
      ⟨0, true, _, _, _, _, _, _, rfl, by omega, rfl, by rw [hLS]; rfl⟩ ?_
    rintro m vs h0 ⟨i, mu, x16, x17, x18, x19, x20, x21, rfl, hi, hrow, rfl⟩
    have hEl : (D.set k.toNat v).length = D.length := by simp
    have hend1 : PV F 20 [.sl (items li) .none, .int .i64 0, .sl (P1.lines.map Ln.toA) t1, .sl (D.map (.int .i64)) .none] = some (.int .i64 1) := by
      rw [check_v (.inl rfl) pt1 (.inl rfl) (by omega) (by omega) (fun z hz => by have := g1.2 z hz; unfold lnOk at this; unfold i64; omega) (by omega) hDi, if_neg (fun h => by have := h.1.1; omega)]
    obtain ⟨r3, hend2, hend3⟩ := hCK (li.take (li.length - 1)) .none (3 + w0) ⟨P1.lines, t1⟩ ⟨D, .none⟩ (.inl rfl) (by simp; omega) pt1 (by simp only; omega) (fun z hz => by have := g1.2 z hz; unfold lnOk at this; unfold i64; omega) (.inl rfl) (by simp only; omega) hDi
    simp only [LL.toA, DD.toA] at hend2 hend3
    have sl1 : sliceA 8 (.sl (items li) .none) none (some (.int .i64 ((li.length : Int) - 1))) = some (.sl (items (li.take (li.length - 1))) .none) := by
      rw [slice_sl_b (sz := 8) Item.toA li .none .i64 ((li.length : Int) - 1) (by omega) (by omega) (fun _ => rfl) (fun h => by cases h), show ((li.length : Int) - 1).toNat = li.length - 1 by omega]; rfl
    obtain ⟨h2, l3, l3r⟩ := lit3_v (D := D) (k := k.toNat) hrow (by omega)
    rw [hEl] at l3
    try simp (maxSteps := 4000000) (disch := first | assumption | omega | (simp only [push_next, put_next, empty_next, List.length_cons, List.length_nil] <;> omega) | exact _root_.id rfl | exact _root_.id (fun _ => rfl) | fail) only [↓pre, post, Int.reduceEq, Int.reduceLT, Int.reduceLE, Int.reduceAdd, Int.reduceSub, Int.reduceMul, Int.reduceNeg, Nat.reduceLT, Nat.reduceSub, Nat.reduceMul, Nat.reduceAdd, Nat.reduceLeDiff, reduceIte, reduceCtorEq, Nat.reduceEqDiff, hLSl, lives_v, hend1, hend2, hend3, sl1, l3]
    repeat' (first
      | (refine ifP_pos (by first | assumption | omega) ?_ <;> try simp (maxSteps := 4000000) (disch := first | assumption | omega | (simp only [push_next, put_next, empty_next, List.length_cons, List.length_nil] <;> omega) | exact _root_.id rfl | exact _root_.id (fun _ => rfl) | fail) only [↓pre, post, Int.reduceEq, Int.reduceLT, Int.reduceLE, Int.reduceAdd, Int.reduceSub, Int.reduceMul, Int.reduceNeg, Nat.reduceLT, Nat.reduceSub, Nat.reduceMul, Nat.reduceAdd, Nat.reduceLeDiff, reduceIte, reduceCtorEq, Nat.reduceEqDiff, hLSl, lives_v, hend1, hend2, hend3, sl1, l3])
      | (refine ifP_neg (by first | assumption | omega) ?_ <;> try simp (maxSteps := 4000000) (disch := first | assumption | omega | (simp only [push_next, put_next, empty_next, List.length_cons, List.length_nil] <;> omega) | exact _root_.id rfl | exact _root_.id (fun _ => rfl) | fail) only [↓pre, post, Int.reduceEq, Int.reduceLT, Int.reduceLE, Int.reduceAdd, Int.reduceSub, Int.reduceMul, Int.reduceNeg, Nat.reduceLT, Nat.reduceSub, Nat.reduceMul, Nat.reduceAdd, Nat.reduceLeDiff, reduceIte, reduceCtorEq, Nat.reduceEqDiff, hLSl, lives_v, hend1, hend2, hend3, sl1, l3])
      | (refine ifP_intro (fun hyp => ?_) (fun hyp => ?_) <;> first | simp (maxSteps := 4000000) (disch := first | assumption | omega | (simp only [push_next, put_next, empty_next, List.length_cons, List.length_nil] <;> omega) | exact _root_.id rfl | exact _root_.id (fun _ => rfl) | fail) only [↓pre, post, Int.reduceEq, Int.reduceLT, Int.reduceLE, Int.reduceAdd, Int.reduceSub, Int.reduceMul, Int.reduceNeg, Nat.reduceLT, Nat.reduceSub, Nat.reduceMul, Nat.reduceAdd, Nat.reduceLeDiff, reduceIte, reduceCtorEq, Nat.reduceEqDiff, hLSl, lives_v, hend1, hend2, hend3, sl1, l3, eq_false hyp] | simp (maxSteps := 4000000) (disch := first | assumption | omega | (simp only [push_next, put_next, empty_next, List.length_cons, List.length_nil] <;> omega) | exact _root_.id rfl | exact _root_.id (fun _ => rfl) | fail) only [↓pre, post, Int.reduceEq, Int.reduceLT, Int.reduceLE, Int.reduceAdd, Int.reduceSub, Int.reduceMul, Int.reduceNeg, Nat.reduceLT, Nat.reduceSub, Nat.reduceMul, Nat.reduceAdd, Nat.reduceLeDiff, reduceIte, reduceCtorEq, Nat.reduceEqDiff, hLSl, lives_v, hend1, hend2, hend3, sl1, l3, eq_true hyp] | skip))
    · obtain ⟨DS, hDS⟩ : ∃ DS : List DD, DS = [⟨D, .none⟩, ⟨D.set k.toNat v, .none⟩, ⟨(D.set k.toNat v).take k.toNat, .none⟩, ⟨[], .nil⟩] := ⟨_, rfl⟩
      have hDSl : DS.length = 4 := by rw [hDS]; rfl
      have hDSok : ∀ y ∈ DS, Pt y.tk ∧ y.ds.length ≤ 1000 ∧ ∀ z ∈ y.ds, i64 z := by
        intro y hy
        rw [hDS] at hy
        simp only [List.mem_cons, List.not_mem_nil, or_false] at hy
        rcases hy with rfl | rfl | rfl | rfl
        · exact ⟨.inl rfl, by simp only; omega, hDi⟩
        · exact ⟨.inl rfl, by simp only; omega, hEi⟩
        · exact ⟨.inl rfl, by simp; omega, fun z hz => hEi z (List.mem_of_mem_take hz)⟩
        · exact ⟨.inr rfl, by simp, by simp⟩
      refine w_loop (fun m vs h1 => ∃ (j : Nat) (x18 x19 x20 x21 : AVal), m = 4 - j ∧ j ≤ 4 ∧ h1.get 0 = some (.row false 1 false ((D.set k.toNat v).map (.int .i64))) ∧
        vs = [.sl (l.map (.int .i64)) tk, .int .i64 a, .int .i64 b, .int .i64 c, .int .i64 d, .bool false, .sl (items li) .none, .int .i64 (3 + w0), .sl (P1.lines.map Ln.toA) t1, .int .i64 0, .sl (D.map (.int .i64)) .none, .ref 0 0 D.length 1, .int .i64 k, .sl (O.ls.map Ln.toA) O.tk, .sl (LS.map LL.toA) .none, .int .i64 i, .sl (DS.map DD.toA) .none, .int .i64 j, x18, x19, x20, x21]) 4
        ⟨0, _, _, _, _, rfl, by omega, l3r, by rw [hDS]; rfl⟩ ?_
      rintro m vs h1 ⟨j', x18, x19, x20, x21, rfl, hj', hrow', rfl⟩
      have hck : j' < 4 → i < 4 → ∃ r : Int, PV F 20 [.sl (items li) .none, .int .i64 (3 + w0), .sl ((nth LS i).ls.map Ln.toA) (nth LS i).tk, .sl ((nth DS j').ds.map (.int .i64)) (nth DS j').tk] = some (.int .i64 r) ∧ PV F 22 [.sl (items li) .none, .int .i64 (3 + w0), .sl ((nth LS i).ls.map Ln.toA) (nth LS i).tk, .sl ((nth DS j').ds.map (.int .i64)) (nth DS j').tk] = some (.int .i64 r) := fun q1 q2 => by
        have o1 := hLSok _ (nth_mem (l := LS) (i := i) (by omega))
        have o2 := hDSok _ (nth_mem (l := DS) (i := j') (by omega))
        exact hCK li .none (3 + w0) (nth LS i) (nth DS j') (.inl rfl) n1 o1.1 o1.2.1 o1.2.2 o2.1 o2.2.1 o2.2.2
      by_cases hj4 : j' < 4
      · obtain ⟨r, k1, k2⟩ := hck hj4 (by omega)
        have s1 : strip (.sl ((nth LS i).ls.map Ln.toA) (nth LS i).tk) = some (.sl ((nth LS i).ls.map Ln.toA) (nth LS i).tk) := strip_pt (hLSok _ (nth_mem (l := LS) (i := i) (by omega))).1
        have s2 : strip (.sl ((nth DS j').ds.map (.int .i64)) (nth DS j').tk) = some (.sl ((nth DS j').ds.map (.int .i64)) (nth DS j').tk) := strip_pt (hDSok _ (nth_mem (l := DS) (i := j') (by omega))).1
        try simp (maxSteps := 4000000) (disch := first | assumption | omega | (simp only [push_next, put_next, empty_next, List.length_cons, List.length_nil] <;> omega) | exact _root_.id rfl | exact _root_.id (fun _ => rfl) | fail) only [↓pre, post, Int.reduceEq, Int.reduceLT, Int.reduceLE, Int.reduceAdd, Int.reduceSub, Int.reduceMul, Int.reduceNeg, Nat.reduceLT, Nat.reduceSub, Nat.reduceMul, Nat.reduceAdd, Nat.reduceLeDiff, reduceIte, reduceCtorEq, Nat.reduceEqDiff, hDSl, hLSl, LL.toA, DD.toA, k1, k2, s1, s2]
        repeat' (first
          | (refine ifP_pos (by first | assumption | omega) ?_ <;> try simp (maxSteps := 4000000) (disch := first | assumption | omega | (simp only [push_next, put_next, empty_next, List.length_cons, List.length_nil] <;> omega) | exact _root_.id rfl | exact _root_.id (fun _ => rfl) | fail) only [↓pre, post, Int.reduceEq, Int.reduceLT, Int.reduceLE, Int.reduceAdd, Int.reduceSub, Int.reduceMul, Int.reduceNeg, Nat.reduceLT, Nat.reduceSub, Nat.reduceMul, Nat.reduceAdd, Nat.reduceLeDiff, reduceIte, reduceCtorEq, Nat.reduceEqDiff, hDSl, hLSl, LL.toA, DD.toA, k1, k2, s1, s2])
          | (refine ifP_neg (by first | assumption | omega) ?_ <;> try simp (maxSteps := 4000000) (disch := first | assumption | omega | (simp only [push_next, put_next, empty_next, List.length_cons, List.length_nil] <;> omega) | exact _root_.id rfl | exact _root_.id (fun _ => rfl) | fail) only [↓pre, post, Int.reduceEq, Int.reduceLT, Int.reduceLE, Int.reduceAdd, Int.reduceSub, Int.reduceMul, Int.reduceNeg, Nat.reduceLT, Nat.reduceSub, Nat.reduceMul, Nat.reduceAdd, Nat.reduceLeDiff, reduceIte, reduceCtorEq, Nat.reduceEqDiff, hDSl, hLSl, LL.toA, DD.toA, k1, k2, s1, s2])
          | (refine ifP_intro (fun hyp => ?_) (fun hyp => ?_) <;> first | simp (maxSteps := 4000000) (disch := first | assumption | omega | (simp only [push_next, put_next, empty_next, List.length_cons, List.length_nil] <;> omega) | exact _root_.id rfl | exact _root_.id (fun _ => rfl) | fail) only [↓pre, post, Int.reduceEq, Int.reduceLT, Int.reduceLE, Int.reduceAdd, Int.reduceSub, Int.reduceMul, Int.reduceNeg, Nat.reduceLT, Nat.reduceSub, Nat.reduceMul, Nat.reduceAdd, Nat.reduceLeDiff, reduceIte, reduceCtorEq, Nat.reduceEqDiff, hDSl, hLSl, LL.toA, DD.toA, k1, k2, s1, s2, eq_false hyp] | simp (maxSteps := 4000000) (disch := first | assumption | omega | (simp only [push_next, put_next, empty_next, List.length_cons, List.length_nil] <;> omega) | exact _root_.id rfl | exact _root_.id (fun _ => rfl) | fail) only [↓pre, post, Int.reduceEq, Int.reduceLT, Int.reduceLE, Int.reduceAdd, Int.reduceSub, Int.reduceMul, Int.reduceNeg, Nat.reduceLT, Nat.reduceSub, Nat.reduceMul, Nat.reduceAdd, Nat.reduceLeDiff, reduceIte, reduceCtorEq, Nat.reduceEqDiff, hDSl, hLSl, LL.toA, DD.toA, k1, k2, s1, s2, eq_true hyp] | skip))
        exact lp_n ⟨4 - (j' + 1), by omega, j' + 1, _, _, _, _, rfl, by omega, hrow', rfl⟩
      · try simp (maxSteps := 4000000) (disch := first | assumption | omega | (simp only [push_next, put_next, empty_next, List.length_cons, List.length_nil] <;> omega) | exact _root_.id rfl | exact _root_.id (fun _ => rfl) | fail) only [↓pre, post, Int.reduceEq, Int.reduceLT, Int.reduceLE, Int.reduceAdd, Int.reduceSub, Int.reduceMul, Int.reduceNeg, Nat.reduceLT, Nat.reduceSub, Nat.reduceMul, Nat.reduceAdd, Nat.reduceLeDiff, reduceIte, reduceCtorEq, Nat.reduceEqDiff, hDSl]
        repeat' (first
          | (refine ifP_pos (by first | assumption | omega) ?_ <;> try simp (maxSteps := 4000000) (disch := first | assumption | omega | (simp only [push_next, put_next, empty_next, List.length_cons, List.length_nil] <;> omega) | exact _root_.id rfl | exact _root_.id (fun _ => rfl) | fail) only [↓pre, post, Int.reduceEq, Int.reduceLT, Int.reduceLE, Int.reduceAdd, Int.reduceSub, Int.reduceMul, Int.reduceNeg, Nat.reduceLT, Nat.reduceSub, Nat.reduceMul, Nat.reduceAdd, Nat.reduceLeDiff, reduceIte, reduceCtorEq, Nat.reduceEqDiff, hDSl])
          | (refine ifP_neg (by first | assumption | omega) ?_ <;> try simp (maxSteps := 4000000) (disch := first | assumption | omega | (simp only [push_next, put_next, empty_next, List.length_cons, List.length_nil] <;> omega) | exact _root_.id rfl | exact _root_.id (fun _ => rfl) | fail) only [↓pre, post, Int.reduceEq, Int.reduceLT, Int.reduceLE, Int.reduceAdd, Int.reduceSub, Int.reduceMul, Int.reduceNeg, Nat.reduceLT, Nat.reduceSub, Nat.reduceMul, Nat.reduceAdd, Nat.reduceLeDiff, reduceIte, reduceCtorEq, Nat.reduceEqDiff, hDSl])
          | (refine ifP_intro (fun hyp => ?_) (fun hyp => ?_) <;> first | simp (maxSteps := 4000000) (disch := first | assumption | omega | (simp only [push_next, put_next, empty_next, List.length_cons, List.length_nil] <;> omega) | exact _root_.id rfl | exact _root_.id (fun _ => rfl) | fail) only [↓pre, post, Int.reduceEq, Int.reduceLT, Int.reduceLE, Int.reduceAdd, Int.reduceSub, Int.reduceMul, Int.reduceNeg, Nat.reduceLT, Nat.reduceSub, Nat.reduceMul, Nat.reduceAdd, Nat.reduceLeDiff, reduceIte, reduceCtorEq, Nat.reduceEqDiff, hDSl, eq_false hyp] | simp (maxSteps := 4000000) (disch := first | assumption | omega | (simp only [push_next, put_next, empty_next, List.length_cons, List.length_nil] <;> omega) | exact _root_.id rfl | exact _root_.id (fun _ => rfl) | fail) only [↓pre, post, Int.reduceEq, Int.reduceLT, Int.reduceLE, Int.reduceAdd, Int.reduceSub, Int.reduceMul, Int.reduceNeg, Nat.reduceLT, Nat.reduceSub, Nat.reduceMul, Nat.reduceAdd, Nat.reduceLeDiff, reduceIte, reduceCtorEq, Nat.reduceEqDiff, hDSl, eq_true hyp] | skip))
        exact lp_n ⟨4 - (i + 1), by omega, i + 1, false, _, _, _, _, _, _, rfl, by omega, hrow', rfl⟩
  · rw [if_neg h1] at b1
    have hck := check_v (l := li) (t := .none) (t2 := .nil) (t3 := .none) (w := 3 + w0) (ls := []) (d := D) (.inl rfl) (.inr rfl) (.inl rfl) (by omega) (by simp) (by simp) (by omega) hDi
    rw [if_pos hr, if_neg (fun h => by
      obtain ⟨⟨s, e, _⟩, _⟩ := h
      simp only [sumF, Option.some.injEq, Prod.mk.injEq] at e
      omega)] at hck
    simp only [List.map_nil] at hck
    try simp (maxSteps := 4000000) (disch := first | assumption | omega | (simp only [push_next, put_next, empty_next, List.length_cons, List.length_nil] <;> omega) | exact _root_.id rfl | exact _root_.id (fun _ => rfl) | fail) only [↓pre, post, Int.reduceEq, Int.reduceLT, Int.reduceLE, Int.reduceAdd, Int.reduceSub, Int.reduceMul, Int.reduceNeg, Nat.reduceLT, Nat.reduceSub, Nat.reduceMul, Nat.reduceAdd, Nat.reduceLeDiff, reduceIte, reduceCtorEq, Nat.reduceEqDiff, e1, hw0, b1, d1, around_v, hck, lives_v]
    repeat' (first
      | (refine ifP_pos (by first | assumption | omega) ?_ <;> try simp (maxSteps := 4000000) (disch := first | assumption | omega | (simp only [push_next, put_next, empty_next, List.length_cons, List.length_nil] <;> omega) | exact _root_.id rfl | exact _root_.id (fun _ => rfl) | fail) only [↓pre, post, Int.reduceEq, Int.reduceLT, Int.reduceLE, Int.reduceAdd, Int.reduceSub, Int.reduceMul, Int.reduceNeg, Nat.reduceLT, Nat.reduceSub, Nat.reduceMul, Nat.reduceAdd, Nat.reduceLeDiff, reduceIte, reduceCtorEq, Nat.reduceEqDiff, e1, hw0, b1, d1, around_v, hck, lives_v])
      | (refine ifP_neg (by first | assumption | omega) ?_ <;> try simp (maxSteps := 4000000) (disch := first | assumption | omega | (simp only [push_next, put_next, empty_next, List.length_cons, List.length_nil] <;> omega) | exact _root_.id rfl | exact _root_.id (fun _ => rfl) | fail) only [↓pre, post, Int.reduceEq, Int.reduceLT, Int.reduceLE, Int.reduceAdd, Int.reduceSub, Int.reduceMul, Int.reduceNeg, Nat.reduceLT, Nat.reduceSub, Nat.reduceMul, Nat.reduceAdd, Nat.reduceLeDiff, reduceIte, reduceCtorEq, Nat.reduceEqDiff, e1, hw0, b1, d1, around_v, hck, lives_v])
      | (refine ifP_intro (fun hyp => ?_) (fun hyp => ?_) <;> first | simp (maxSteps := 4000000) (disch := first | assumption | omega | (simp only [push_next, put_next, empty_next, List.length_cons, List.length_nil] <;> omega) | exact _root_.id rfl | exact _root_.id (fun _ => rfl) | fail) only [↓pre, post, Int.reduceEq, Int.reduceLT, Int.reduceLE, Int.reduceAdd, Int.reduceSub, Int.reduceMul, Int.reduceNeg, Nat.reduceLT, Nat.reduceSub, Nat.reduceMul, Nat.reduceAdd, Nat.reduceLeDiff, reduceIte, reduceCtorEq, Nat.reduceEqDiff, e1, hw0, b1, d1, around_v, hck, lives_v, eq_false hyp] | simp (maxSteps := 4000000) (disch := first | assumption | omega | (simp only [push_next, put_next, empty_next, List.length_cons, List.length_nil] <;> omega) | exact _root_.id rfl | exact _root_.id (fun _ => rfl) | fail) only [↓pre, post, Int.reduceEq, Int.reduceLT, Int.reduceLE, Int.reduceAdd, Int.reduceSub, Int.reduceMul, Int.reduceNeg, Nat.reduceLT, Nat.reduceSub, Nat.reduceMul, Nat.reduceAdd, Nat.reduceLeDiff, reduceIte, reduceCtorEq, Nat.reduceEqDiff, e1, hw0, b1, d1, around_v, hck, lives_v, eq_true hyp] | skip))

end Go.Proofs.Ytcammfdljiingaa
