/-
  Spoilt.
-/
import Derived.Test.YtcammfdljiingaaLbE
set_option linter.unusedSimpArgs false
set_option linter.unusedVariables false
set_option maxHeartbeats 4000000
namespace Go.Abs
theorem append_arr_nil {α : Type} [Inhabited α] {f : α → AVal} {sz ty bytes : Nat} {ag : Bool} {h : Heap} {t : Tok} (l : List α) (hf : ∀ x, (f x).cells.length = sz) (hne : 1 ≤ l.length) (hlen : l.length ≤ 1000000) (hb : bytes ≤ 10000) (h0 : 0 < sz) (h1 : sz < 1000000) :
    appendA true ty bytes sz ag (.sl [] .nil) (.sl (l.map f) t) h = some (.ref h.next 0 l.length sz, h.push (.row true sz ag (flat (l.map f)))) := by
  have hel := elems_sl (h := h) (l := l) (t := t) hf
  have hroom := roomOk_of (n := 0 + l.length) (bytes := bytes) (by omega) hb
  have hz : ¬ l.length = 0 := by omega
  have hsm : small sz = true := by simp [small, h1]
  simp only [appendA, lenA_sl, hel, hz, if_false, List.length_nil, hroom, h0, hsm, decide_true, Bool.and_self, Bool.not_true, Bool.false_eq_true, if_true]

/-- One more element behind the row. -/
theorem append_arr_ref {α : Type} [Inhabited α] {f : α → AVal} {sz ty bytes : Nat} {ag ag' : Bool} {h : Heap} {id j n : Nat} {mu : Bool} {s2 : Nat} {a2 : Bool} (l : List α) (x : α) (hf : ∀ x, (f x).cells.length = sz) (hr : h.get id = some (.row true sz ag' (flat (l.map f)))) (hj : h.get j = some (.row mu s2 a2 (f x).cells))
    (hlen : l.length + 1 ≤ 1000000) (hb : bytes ≤ 10000) (h0 : 0 < sz) (h1 : sz < 1000000) (hn : n = l.length) :
    appendA true ty bytes sz ag (.ref id 0 n sz) (.ref j 0 1 sz) h = some (.ref h.next 0 (n + 1) sz, (h.put id none).push (.row true sz ag' (flat ((l ++ [x]).map f)))) := by
  subst hn
  have hroom := roomOk_of (n := l.length + 1) (bytes := bytes) hlen hb
  have hsm : small sz = true := by simp [small, h1]
  have hfl := flatm_len hf l
  have hx := hf x
  have e1 : elemsA h sz (.ref j 0 1 sz) = some (f x).cells := by
    simp only [elemsA, hj, if_true, Nat.zero_add, Nat.one_mul, hx, Nat.le_refl, List.drop_zero]
    rw [List.take_of_length_le (by omega)]
  have e2 : flat ((l ++ [x]).map f) = flat (l.map f) ++ (f x).cells := by rw [List.map_append, flat_append]; simp [flat]
  simp only [appendA, lenA, e1, hr, hfl, hroom, h0, hsm, e2, and_self, if_true]
  simp
end Go.Abs
namespace Go.Proofs.Ytcammfdljiingaa
open Go Go.Abs

theorem spoilt_v {li : List Item} {t : Tok} {a h b : Int} (ht : Pt t) (hs : short li) (h1 : 1 ≤ li.length) (h2 : li.length ≤ 100) (ha : i64 a) (hh : i64 h) (hb : i64 b) :
    ∃ lb, PV F 11 [.sl (items li) t, .int .i64 a, .int .i64 h, .int .i64 b] = some (.sl (items lb) .none) ∧ short lb ∧ lb.length < 1000 := by
  suffices hsf : CV F 11 [.sl (items li) t, .int .i64 a, .int .i64 h, .int .i64 b] Heap.empty (fun r h' => ∃ lb id n, r = .ref id 0 n 8 ∧ h'.get id = some (.row true 8 true (flat (items lb))) ∧ n ≤ lb.length ∧ short lb ∧ lb.length < 1000) by
    obtain ⟨r, h', c, lb, id, n, rfl, e1, e2, e3, e4⟩ := hsf
    refine ⟨lb.take n, PV_of c ?_, fun j => ?_, by simp; omega⟩
    · rw [pu_ref, readRef_flat (sz := 8) (f := Item.toA) (g := Item.toA) (fun _ => rfl) (fun _ => rfl) true (fun _ => rfl) (fun _ => rfl) lb e1 e2]; rfl
    · by_cases hj : j < n
      · rw [nth_take hj]; exact e3 j
      · rw [nth, List.getD_eq_getElem?_getD, List.getElem?_eq_none (by simp; omega)]; simp [default, instInhabitedItem.default]
  refine CV_wp (fn := c11) rfl ?_
  have A1 := append_arr_nil (f := Item.toA) (ty := 47) (bytes := 72) (ag := true) (h := Heap.empty) (t := t) li (sz := 8) (fun _ => rfl) h1 (by omega) (by omega) (by omega) (by omega)
  have B1 := around_bound a (m := li.length) (by omega)
  have B2 := around_bound h (m := 8) (by omega)
  have B3 := around_bound b (m := 6) (by omega)
  have B4 := around_bound b (m := 4) (by omega)
  have hfl := flatm_len (f := Item.toA) (sz := 8) (fun _ => rfl) li
  obtain ⟨p1, _, P1⟩ := ints_pick [-1, 0, 1, 65536, 65537, b] (aroundS b 6).toNat (by simp; omega)
  obtain ⟨p2, _, P2⟩ := ints_pick [-1, 0, 1, 1048576, 1048577, b] (aroundS b 6).toNat (by simp; omega)
  simp only [List.map_cons, List.map_nil] at P1 P2
  have fin : ∀ (k off : Nat) (c : AVal) (x' : Item), k < li.length → off < 8 → x'.toA.cells = (nth li k).toA.cells.set off c → x'.text.length ≤ 100 →
      ∃ lb, (flat (items li)).set (k * 8 + off) c = flat (items lb) ∧ short lb ∧ lb.length = li.length := fun k off c x' hk ho hx ht => by
    refine ⟨li.set k x', set_flat (f := Item.toA) (sz := 8) (fun _ => rfl) li x' hk ho hx, fun j => ?_, by simp⟩
    by_cases hj : k = j
    · subst hj; rw [nth_set_self hk]; exact ht
    · rw [nth_set_ne hj]; exact hs j
  have fin2 : ∀ (k off : Nat) (c : AVal) (x' : Item) (h' : Heap), k < li.length → off < 8 → x'.toA.cells = (nth li k).toA.cells.set off c → x'.text.length ≤ 100 → h'.get 0 = some (.row true 8 true ((flat (items li)).set (k * 8 + off) c)) →
      ∃ lb id n, AVal.ref 0 0 li.length 8 = .ref id 0 n 8 ∧ h'.get id = some (.row true 8 true (flat (items lb))) ∧ n ≤ lb.length ∧ short lb ∧ lb.length < 1000 := fun k off c x' h' hk ho hx ht hr => by
    obtain ⟨lb, e1, e2, e3⟩ := fin k off c x' hk ho hx ht
    exact ⟨lb, 0, li.length, rfl, by rw [hr, e1], by omega, e2, by omega⟩
  dsimp only [c11]
  try simp (maxSteps := 4000000) (disch := first | assumption | omega | (simp only [push_next, put_next, empty_next, List.length_cons, List.length_nil] <;> omega) | exact _root_.id rfl | exact _root_.id (fun _ => rfl) | fail) only [↓pre, post, Int.reduceEq, Int.reduceLT, Int.reduceLE, Int.reduceAdd, Int.reduceSub, Int.reduceMul, Int.reduceNeg, Nat.reduceLT, Nat.reduceSub, Nat.reduceMul, Nat.reduceAdd, Nat.reduceLeDiff, reduceIte, reduceCtorEq, Nat.reduceEqDiff, A1, around_v, hfl, P1, P2]
  repeat' (first
    | (refine ifP_pos (by first | assumption | omega) ?_ <;> try simp (maxSteps := 4000000) (disch := first | assumption | omega | (simp only [push_next, put_next, empty_next, List.length_cons, List.length_nil] <;> omega) | exact _root_.id rfl | exact _root_.id (fun _ => rfl) | fail) only [↓pre, post, Int.reduceEq, Int.reduceLT, Int.reduceLE, Int.reduceAdd, Int.reduceSub, Int.reduceMul, Int.reduceNeg, Nat.reduceLT, Nat.reduceSub, Nat.reduceMul, Nat.reduceAdd, Nat.reduceLeDiff, reduceIte, reduceCtorEq, Nat.reduceEqDiff, A1, around_v, hfl, P1, P2])
    | (refine ifP_neg (by first | assumption | omega) ?_ <;> try simp (maxSteps := 4000000) (disch := first | assumption | omega | (simp only [push_next, put_next, empty_next, List.length_cons, List.length_nil] <;> omega) | exact _root_.id rfl | exact _root_.id (fun _ => rfl) | fail) only [↓pre, post, Int.reduceEq, Int.reduceLT, Int.reduceLE, Int.reduceAdd, Int.reduceSub, Int.reduceMul, Int.reduceNeg, Nat.reduceLT, Nat.reduceSub, Nat.reduceMul, Nat.reduceAdd, Nat.reduceLeDiff, reduceIte, reduceCtorEq, Nat.reduceEqDiff, A1, around_v, hfl, P1, P2])
    | (refine ifP_intro (fun hyp => ?_) (fun hyp => ?_) <;> first | simp (maxSteps := 4000000) (disch := first | assumption | omega | (simp only [push_next, put_next, empty_next, List.length_cons, List.length_nil] <;> omega) | exact _root_.id rfl | exact _root_.id (fun _ => rfl) | fail) only [↓pre, post, Int.reduceEq, Int.reduceLT, Int.reduceLE, Int.reduceAdd, Int.reduceSub, Int.reduceMul, Int.reduceNeg, Nat.reduceLT, Nat.reduceSub, Nat.reduceMul, Nat.reduceAdd, Nat.reduceLeDiff, reduceIte, reduceCtorEq, Nat.reduceEqDiff, A1, around_v, hfl, P1, P2, eq_false hyp] | simp (maxSteps := 4000000) (disch := first | assumption | omega | (simp only [push_next, put_next, empty_next, List.length_cons, List.length_nil] <;> omega) | exact _root_.id rfl | exact _root_.id (fun _ => rfl) | fail) only [↓pre, post, Int.reduceEq, Int.reduceLT, Int.reduceLE, Int.reduceAdd, Int.reduceSub, Int.reduceMul, Int.reduceNeg, Nat.reduceLT, Nat.reduceSub, Nat.reduceMul, Nat.reduceAdd, Nat.reduceLeDiff, reduceIte, reduceCtorEq, Nat.reduceEqDiff, A1, around_v, hfl, P1, P2, eq_true hyp] | skip))
  · exact fin2 (aroundS a li.length).toNat 0 _ { nth li (aroundS a li.length).toNat with kind := aroundS b 6 - 1 } _ (by omega) (by omega) rfl (hs _) rfl
  · exact fin2 (aroundS a li.length).toNat 2 _ { nth li (aroundS a li.length).toNat with width := p1 } _ (by omega) (by omega) rfl (hs _) rfl
  · exact fin2 (aroundS a li.length).toNat 3 _ { nth li (aroundS a li.length).toNat with cost := p2 } _ (by omega) (by omega) rfl (hs _) rfl
  · exact ⟨li, 0, _, rfl, rfl, by omega, hs, by omega⟩
  · exact fin2 (aroundS a li.length).toNat 0 _ { nth li (aroundS a li.length).toNat with kind := 3 } _ (by omega) (by omega) rfl (hs _) rfl
  · refine w_loop (fun m vs h0 => ∃ (id : Nat) (lb : List Item) (x14 x15 : AVal), m = 600 - lb.length ∧ h0.get id = some (.row true 8 true (flat (items lb))) ∧ short lb ∧ lb.length ≤ 513 ∧
      vs = [.sl (items li) t, .int .i64 a, .int .i64 h, .int .i64 b, .sl [] .nil, .ref id 0 lb.length 8, .int .i64 (aroundS a li.length), .int .i64 (aroundS h 8), .bool false, .bool false, .bool false, .bool false, .bool false, .bool true, x14, x15]) (600 - li.length)
      ⟨0, li, _, _, rfl, rfl, hs, by omega, rfl⟩ ?_
    rintro m vs h0 ⟨id, lb, x14, x15, rfl, hr, hsb, hlb, rfl⟩
    have hlt := get_lt hr
    have hr2 := get_push_old (o := .row true 8 true (Item.toA ⟨3, [], 0, 0⟩).cells) hr
    have A2 := append_arr_ref (f := Item.toA) (sz := 8) (ty := 47) (bytes := 72) (ag := true) (n := lb.length) lb ⟨3, [], 0, 0⟩ (fun _ => rfl) hr2 (get_push h0 _) (by omega) (by omega) (by omega) (by omega) rfl
    simp only [Item.toA, AVal.cells, push_next] at A2
    try simp (maxSteps := 4000000) (disch := first | assumption | omega | (simp only [push_next, put_next, empty_next, List.length_cons, List.length_nil] <;> omega) | exact _root_.id rfl | exact _root_.id (fun _ => rfl) | fail) only [↓pre, post, Int.reduceEq, Int.reduceLT, Int.reduceLE, Int.reduceAdd, Int.reduceSub, Int.reduceMul, Int.reduceNeg, Nat.reduceLT, Nat.reduceSub, Nat.reduceMul, Nat.reduceAdd, Nat.reduceLeDiff, reduceIte, reduceCtorEq, Nat.reduceEqDiff, around_v, A2]
    repeat' (first
      | (refine ifP_pos (by first | assumption | omega) ?_ <;> try simp (maxSteps := 4000000) (disch := first | assumption | omega | (simp only [push_next, put_next, empty_next, List.length_cons, List.length_nil] <;> omega) | exact _root_.id rfl | exact _root_.id (fun _ => rfl) | fail) only [↓pre, post, Int.reduceEq, Int.reduceLT, Int.reduceLE, Int.reduceAdd, Int.reduceSub, Int.reduceMul, Int.reduceNeg, Nat.reduceLT, Nat.reduceSub, Nat.reduceMul, Nat.reduceAdd, Nat.reduceLeDiff, reduceIte, reduceCtorEq, Nat.reduceEqDiff, around_v, A2])
      | (refine ifP_neg (by first | assumption | omega) ?_ <;> try simp (maxSteps := 4000000) (disch := first | assumption | omega | (simp only [push_next, put_next, empty_next, List.length_cons, List.length_nil] <;> omega) | exact _root_.id rfl | exact _root_.id (fun _ => rfl) | fail) only [↓pre, post, Int.reduceEq, Int.reduceLT, Int.reduceLE, Int.reduceAdd, Int.reduceSub, Int.reduceMul, Int.reduceNeg, Nat.reduceLT, Nat.reduceSub, Nat.reduceMul, Nat.reduceAdd, Nat.reduceLeDiff, reduceIte, reduceCtorEq, Nat.reduceEqDiff, around_v, A2])
      | (refine ifP_intro (fun hyp => ?_) (fun hyp => ?_) <;> first | simp (maxSteps := 4000000) (disch := first | assumption | omega | (simp only [push_next, put_next, empty_next, List.length_cons, List.length_nil] <;> omega) | exact _root_.id rfl | exact _root_.id (fun _ => rfl) | fail) only [↓pre, post, Int.reduceEq, Int.reduceLT, Int.reduceLE, Int.reduceAdd, Int.reduceSub, Int.reduceMul, Int.reduceNeg, Nat.reduceLT, Nat.reduceSub, Nat.reduceMul, Nat.reduceAdd, Nat.reduceLeDiff, reduceIte, reduceCtorEq, Nat.reduceEqDiff, around_v, A2, eq_false hyp] | simp (maxSteps := 4000000) (disch := first | assumption | omega | (simp only [push_next, put_next, empty_next, List.length_cons, List.length_nil] <;> omega) | exact _root_.id rfl | exact _root_.id (fun _ => rfl) | fail) only [↓pre, post, Int.reduceEq, Int.reduceLT, Int.reduceLE, Int.reduceAdd, Int.reduceSub, Int.reduceMul, Int.reduceNeg, Nat.reduceLT, Nat.reduceSub, Nat.reduceMul, Nat.reduceAdd, Nat.reduceLeDiff, reduceIte, reduceCtorEq, Nat.reduceEqDiff, around_v, A2, eq_true hyp] | skip))
    · refine lp_n ⟨600 - (lb.length + 1), by omega, h0.next + 1, lb ++ [⟨3, [], 0, 0⟩], _, _, by simp, get_push_eq (by rw [push_next, put_next]), fun j => ?_, by simp; omega, by rw [List.length_append]; rfl⟩
      by_cases hj : j < lb.length
      · rw [nth_append_left hj]; exact hsb j
      · rw [nth_append_right (by omega)]
        cases j - lb.length with
        | zero => simp [nth]
        | succ n => simp [nth, default, instInhabitedItem.default]
    · exact ⟨lb, id, lb.length, rfl, hr, by omega, hsb, by omega⟩
  · exact fin2 (li.length - 1) 0 _ { nth li (li.length - 1) with kind := 1 } _ (by omega) (by omega) rfl (hs _) rfl
  · exact fin2 (aroundS a li.length).toNat 1 _ { nth li (aroundS a li.length).toNat with text := [120, 121, 122] } _ (by omega) (by omega) rfl (by simp) rfl

end Go.Proofs.Ytcammfdljiingaa
