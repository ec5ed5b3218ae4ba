/-
  Duals of the program.
-/
import Derived.Test.YtcammfdljiingaaLbI
import Derived.Test.YtcammfdljiingaaLbMul
set_option linter.unusedSimpArgs false
set_option linter.unusedVariables false
set_option maxHeartbeats 8000000
namespace Go.Proofs.Ytcammfdljiingaa
open Go Go.Abs

theorem setCells_get : ∀ (ys cs : List AVal) (i k : Nat), i + ys.length ≤ cs.length → (setCells cs i ys)[k]? = if i ≤ k ∧ k < i + ys.length then ys[k - i]? else cs[k]?
  | [], cs, i, k, h => by rw [if_neg (by rintro ⟨h1, h2⟩; simp only [List.length_nil] at h2; omega)]; rfl
  | y :: ys, cs, i, k, h => by
    simp only [setCells, List.length_cons] at h ⊢
    rw [setCells_get ys _ _ _ (by simp; omega)]
    by_cases h1 : i + 1 ≤ k ∧ k < i + 1 + ys.length
    · rw [if_pos h1, if_pos (by omega), show k - i = (k - (i + 1)) + 1 by omega, List.getElem?_cons_succ]
    · rw [if_neg h1]
      by_cases h2 : k = i
      · subst h2
        rw [if_pos (by omega), Nat.sub_self, List.getElem?_cons_zero, List.getElem?_set_self (by omega)]
      · rw [if_neg (by omega), List.getElem?_set_ne (by omega)]

theorem wrap_u64 {x : Int} (h1 : 0 ≤ x) (h2 : x < 18446744073709551616) : IntKind.u64.wrap x = x := by
  exact IntWalk.u64_in x ⟨h1, by omega⟩

/-- Cells that are -1 up to a place. -/
def negTo (cs : List AVal) (n b : Nat) : Prop := cs.length = n ∧ ∀ k, k < b → cs[k]? = some (.int .i64 (-1))

theorem repeat_c {n : Nat} {h : Heap} (hn : n ≤ 200) (h1 : 1 ≤ n) : CV F 40 [.sl [.int .i64 (-1)] .none, .int .i64 n] h (fun r h' => r = .ref h.next 0 n 1 ∧ h' = h.push (.row true 1 false ((List.replicate n (-1)).map (.int .i64)))) := by
  have hm : PV F 55 [.int .u64 ((1 : Nat) : Int), .int .u64 n] = some (.tup [.int .u64 0, .int .u64 n]) := mul_v hn
  have hlen : ∀ m, (repl m [AVal.int .i64 0]).length = m := fun m => by simp [repl]
  have cp1 : copyA 1 (.ref h.next 0 n 1) (.sl [.int .i64 (-1)] .none) (h.push (.row true 1 false (repl n [.int .i64 0]))) = some (.int .i64 1, h.push (.row true 1 false ((repl n [.int .i64 0]).set 0 (.int .i64 (-1))))) := by
    have e2 : elemsA (h.push (.row true 1 false (repl n [.int .i64 0]))) 1 (.sl [.int .i64 (-1)] .none) = some [.int .i64 (-1)] := rfl
    have hmin : min 1 n = 1 := by omega
    simp only [copyA, lenA, List.length_cons, List.length_nil, Nat.zero_add, e2, get_push, hlen, Nat.mul_one, Nat.le_refl, hmin, put_push]
    rfl
  refine CV_wp (fn := c40) rfl ?_
  dsimp only [c40]
  try simp (maxSteps := 4000000) (disch := first | assumption | omega | (simp only [push_next, put_next, empty_next, List.length_cons, List.length_nil] <;> omega) | exact _root_.id rfl | exact _root_.id (fun _ => rfl) | fail) only [↓pre, post, Int.reduceEq, Int.reduceLT, Int.reduceLE, Int.reduceAdd, Int.reduceSub, Int.reduceMul, Int.reduceNeg, Nat.reduceLT, Nat.reduceSub, Nat.reduceMul, Nat.reduceAdd, Nat.reduceLeDiff, reduceIte, reduceCtorEq, Nat.reduceEqDiff, wrap_u64, hm, cp1]
  repeat' (first
    | (refine ifP_pos (by first | assumption | omega) ?_ <;> try simp (maxSteps := 4000000) (disch := first | assumption | omega | (simp only [push_next, put_next, empty_next, List.length_cons, List.length_nil] <;> omega) | exact _root_.id rfl | exact _root_.id (fun _ => rfl) | fail) only [↓pre, post, Int.reduceEq, Int.reduceLT, Int.reduceLE, Int.reduceAdd, Int.reduceSub, Int.reduceMul, Int.reduceNeg, Nat.reduceLT, Nat.reduceSub, Nat.reduceMul, Nat.reduceAdd, Nat.reduceLeDiff, reduceIte, reduceCtorEq, Nat.reduceEqDiff, wrap_u64, hm, cp1])
    | (refine ifP_neg (by first | assumption | omega) ?_ <;> try simp (maxSteps := 4000000) (disch := first | assumption | omega | (simp only [push_next, put_next, empty_next, List.length_cons, List.length_nil] <;> omega) | exact _root_.id rfl | exact _root_.id (fun _ => rfl) | fail) only [↓pre, post, Int.reduceEq, Int.reduceLT, Int.reduceLE, Int.reduceAdd, Int.reduceSub, Int.reduceMul, Int.reduceNeg, Nat.reduceLT, Nat.reduceSub, Nat.reduceMul, Nat.reduceAdd, Nat.reduceLeDiff, reduceIte, reduceCtorEq, Nat.reduceEqDiff, wrap_u64, hm, cp1])
    | (refine ifP_intro (fun hyp => ?_) (fun hyp => ?_) <;> first | simp (maxSteps := 4000000) (disch := first | assumption | omega | (simp only [push_next, put_next, empty_next, List.length_cons, List.length_nil] <;> omega) | exact _root_.id rfl | exact _root_.id (fun _ => rfl) | fail) only [↓pre, post, Int.reduceEq, Int.reduceLT, Int.reduceLE, Int.reduceAdd, Int.reduceSub, Int.reduceMul, Int.reduceNeg, Nat.reduceLT, Nat.reduceSub, Nat.reduceMul, Nat.reduceAdd, Nat.reduceLeDiff, reduceIte, reduceCtorEq, Nat.reduceEqDiff, wrap_u64, hm, cp1, eq_false hyp] | simp (maxSteps := 4000000) (disch := first | assumption | omega | (simp only [push_next, put_next, empty_next, List.length_cons, List.length_nil] <;> omega) | exact _root_.id rfl | exact _root_.id (fun _ => rfl) | fail) only [↓pre, post, Int.reduceEq, Int.reduceLT, Int.reduceLE, Int.reduceAdd, Int.reduceSub, Int.reduceMul, Int.reduceNeg, Nat.reduceLT, Nat.reduceSub, Nat.reduceMul, Nat.reduceAdd, Nat.reduceLeDiff, reduceIte, reduceCtorEq, Nat.reduceEqDiff, wrap_u64, hm, cp1, eq_true hyp] | skip))
  refine w_loop (fun m vs h0 => ∃ (b : Nat) (cs : List AVal) (x7 x8 x9 : AVal), m = n - b ∧ 1 ≤ b ∧ b ≤ n ∧ h0 = h.push (.row true 1 false cs) ∧ negTo cs n b ∧
    vs = [.sl [.int .i64 (-1)] .none, .int .i64 n, .sl [] .nil, .int .u64 0, .int .u64 n, .ref h.next 0 n 1, .int .i64 b, x7, x8, x9]) (n - 1)
    ⟨1, _, _, _, _, by omega, by omega, by omega, rfl, ⟨by simp [hlen], fun k hk => by
      have : k = 0 := by omega
      subst this
      rw [List.getElem?_set_self (by rw [hlen]; omega)]⟩, rfl⟩ ?_
  rintro m vs h0 ⟨b, cs, x7, x8, x9, rfl, hb1, hb, rfl, ⟨hc1, hc2⟩, rfl⟩
  have cp2 : b < n → copyA 1 (.ref h.next (b * 1) (n - b) 1) (.ref h.next 0 b 1) (h.push (.row true 1 false cs)) = some (.int .i64 (min b (n - b) : Nat), h.push (.row true 1 false (setCells cs b (cs.take (min b (n - b)))))) := fun hbn => by
    have e2 : elemsA (h.push (.row true 1 false cs)) 1 (.ref h.next 0 b 1) = some (cs.take b) := by
      simp only [elemsA, if_true, get_push, Nat.mul_one, Nat.zero_add, List.drop_zero, hc1]
      rw [if_pos hb]
    have e3 : b + (n - b) ≤ cs.length := by omega
    have e4 : (cs.take b).all AVal.one = true := by
      rw [List.all_eq_true]
      intro x hx
      obtain ⟨k, hk, rfl⟩ := List.getElem_of_mem hx
      have hk' : k < b := by simp at hk; omega
      have := hc2 k hk'
      rw [List.getElem?_eq_getElem (by omega)] at this
      simp only [Option.some.injEq] at this
      rw [List.getElem_take, this]; rfl
    simp only [copyA, lenA, e2, get_push, Nat.zero_add, Nat.mul_one, e3, e4, and_self, if_true, put_push]
    rw [List.take_take, Nat.min_eq_left (by omega : min b (n - b) ≤ b)]
  have hcast : b < n → ((min b (n - b) : Nat) : Int) ≤ n := fun _ => by omega
  try simp (maxSteps := 4000000) (disch := first | assumption | omega | (simp only [push_next, put_next, empty_next, List.length_cons, List.length_nil] <;> omega) | exact _root_.id rfl | exact _root_.id (fun _ => rfl) | fail) only [↓pre, post, Int.reduceEq, Int.reduceLT, Int.reduceLE, Int.reduceAdd, Int.reduceSub, Int.reduceMul, Int.reduceNeg, Nat.reduceLT, Nat.reduceSub, Nat.reduceMul, Nat.reduceAdd, Nat.reduceLeDiff, reduceIte, reduceCtorEq, Nat.reduceEqDiff, cp2]
  repeat' (first
    | (refine ifP_pos (by first | assumption | omega) ?_ <;> try simp (maxSteps := 4000000) (disch := first | assumption | omega | (simp only [push_next, put_next, empty_next, List.length_cons, List.length_nil] <;> omega) | exact _root_.id rfl | exact _root_.id (fun _ => rfl) | fail) only [↓pre, post, Int.reduceEq, Int.reduceLT, Int.reduceLE, Int.reduceAdd, Int.reduceSub, Int.reduceMul, Int.reduceNeg, Nat.reduceLT, Nat.reduceSub, Nat.reduceMul, Nat.reduceAdd, Nat.reduceLeDiff, reduceIte, reduceCtorEq, Nat.reduceEqDiff, cp2])
    | (refine ifP_neg (by first | assumption | omega) ?_ <;> try simp (maxSteps := 4000000) (disch := first | assumption | omega | (simp only [push_next, put_next, empty_next, List.length_cons, List.length_nil] <;> omega) | exact _root_.id rfl | exact _root_.id (fun _ => rfl) | fail) only [↓pre, post, Int.reduceEq, Int.reduceLT, Int.reduceLE, Int.reduceAdd, Int.reduceSub, Int.reduceMul, Int.reduceNeg, Nat.reduceLT, Nat.reduceSub, Nat.reduceMul, Nat.reduceAdd, Nat.reduceLeDiff, reduceIte, reduceCtorEq, Nat.reduceEqDiff, cp2])
    | (refine ifP_intro (fun hyp => ?_) (fun hyp => ?_) <;> first | simp (maxSteps := 4000000) (disch := first | assumption | omega | (simp only [push_next, put_next, empty_next, List.length_cons, List.length_nil] <;> omega) | exact _root_.id rfl | exact _root_.id (fun _ => rfl) | fail) only [↓pre, post, Int.reduceEq, Int.reduceLT, Int.reduceLE, Int.reduceAdd, Int.reduceSub, Int.reduceMul, Int.reduceNeg, Nat.reduceLT, Nat.reduceSub, Nat.reduceMul, Nat.reduceAdd, Nat.reduceLeDiff, reduceIte, reduceCtorEq, Nat.reduceEqDiff, cp2, eq_false hyp] | simp (maxSteps := 4000000) (disch := first | assumption | omega | (simp only [push_next, put_next, empty_next, List.length_cons, List.length_nil] <;> omega) | exact _root_.id rfl | exact _root_.id (fun _ => rfl) | fail) only [↓pre, post, Int.reduceEq, Int.reduceLT, Int.reduceLE, Int.reduceAdd, Int.reduceSub, Int.reduceMul, Int.reduceNeg, Nat.reduceLT, Nat.reduceSub, Nat.reduceMul, Nat.reduceAdd, Nat.reduceLeDiff, reduceIte, reduceCtorEq, Nat.reduceEqDiff, cp2, eq_true hyp] | skip))
  · refine lp_n ⟨n - (b + min b (n - b)), by omega, b + min b (n - b), _, _, _, _, rfl, by omega, by omega, rfl, ⟨by rw [setCells_length]; exact hc1, fun k hk => ?_⟩, rfl⟩
    have hl : (List.take (min b (n - b)) cs).length = min b (n - b) := by rw [List.length_take]; omega
    rw [setCells_get _ _ _ _ (by rw [hl]; omega), hl]
    by_cases hkb : b ≤ k ∧ k < b + min b (n - b)
    · rw [if_pos hkb, List.getElem?_take, if_pos (by omega)]
      exact hc2 _ (by omega)
    · rw [if_neg hkb]
      exact hc2 _ (by omega)
  · congr 2
    apply List.ext_getElem?
    intro k
    by_cases hk : k < n
    · rw [hc2 k (by omega)]
      simp [hk]
    · rw [List.getElem?_eq_none (by omega), List.getElem?_eq_none (by simp; omega)]

/-! ### the duals -/
/-- One line is put in. -/
def dstep (d : List Int) (v : Int) (x : Nat × Int × Int) : List Int := if nth d (x.1 - 1) < 0 ∨ v + x.2.2 < nth d (x.1 - 1) then d.set (x.1 - 1) (v + x.2.2) else d
def dualsS (l : List Item) (w : Int) : List Int := (List.range l.length).foldl (roundS l w (fun d k => nth d k) dstep) (List.replicate l.length (-1))

def DI (n : Nat) (d : List Int) (h : Heap) : Prop := d.length = n ∧ h.get 0 = some (.row true 1 false (d.map (.int .i64))) ∧ h.get 1 = some (.row true (typed 22) false [.ref 0 0 n 1])

theorem flat_int (l : List Int) : flat (l.map (AVal.int .i64)) = l.map (AVal.int .i64) := by
  induction l with
  | nil => rfl
  | cons x l ih => simp only [List.map_cons, flat_cons, ih]; rfl

theorem loadI {d : List Int} {h : Heap} {id : Nat} {mu : Bool} {s : Nat} {a : Bool} (hr : h.get id = some (.row mu s a (d.map (.int .i64)))) {k : Nat} (hk : k < d.length) : loadG 1 false (k * 1) (h.get id) = some (.int .i64 (nth d k)) := by
  have := loadG_flat1 (f := AVal.int .i64) (fun _ => rfl) d (n := k) (m := 1) false mu s a hk (Nat.le_refl _)
  rw [hr, ← flat_int, this]; rfl
theorem storeI {d : List Int} {h : Heap} {id : Nat} {s : Nat} {a : Bool} (hr : h.get id = some (.row true s a (d.map (.int .i64)))) {k : Nat} (hk : k < d.length) (v : Int) (H : Heap) : storeG 1 id (k * 1) (.int .i64 v) H (h.get id) = some (H.put id (some (.row true s a ((d.set k v).map (.int .i64))))) := by
  have := storeG_flat (f := AVal.int .i64) (sz := 1) (fun _ => rfl) d (n := k) (k := 0) (m := 1) (id := id) (v := .int .i64 v) (h := H) s a v hk rfl (by omega) rfl rfl
  rw [Nat.add_zero, flat_int, flat_int] at this
  rw [hr, this]

theorem readI {d : List Int} {h : Heap} {id : Nat} {mu : Bool} (hr : h.get id = some (.row mu 1 false (d.map (.int .i64)))) : readRef h id 0 d.length 1 = some (d.map (.int .i64)) := by
  rw [← flat_int] at hr
  have := readRef_flat (sz := 1) (f := AVal.int .i64) (g := AVal.int .i64) (fun _ => rfl) (fun _ => rfl) false (fun _ => rfl) (fun _ => rfl) d hr (Nat.le_refl _)
  rwa [List.take_length] at this

theorem duals1_c {n k : Nat} {d : List Int} {h : Heap} (hI : DI n d h) (hk : k < n) : CV F 42 ([.int .i64 (k : Int)] ++ [.ptr 1 0]) h (fun r h2 => r = .int .i64 (nth d k) ∧ h2 = h) := by
  obtain ⟨h1, h2, h3⟩ := hI
  have hld := loadI h2 (k := k) (by omega)
  refine CV_wp (fn := c42) rfl ?_
  dsimp only [c42]
  try simp (maxSteps := 4000000) (disch := first | assumption | omega | (simp only [push_next, put_next, empty_next, List.length_cons, List.length_nil] <;> omega) | exact _root_.id rfl | exact _root_.id (fun _ => rfl) | fail) only [↓pre, post, Int.reduceEq, Int.reduceLT, Int.reduceLE, Int.reduceAdd, Int.reduceSub, Int.reduceMul, Int.reduceNeg, Nat.reduceLT, Nat.reduceSub, Nat.reduceMul, Nat.reduceAdd, Nat.reduceLeDiff, reduceIte, reduceCtorEq, Nat.reduceEqDiff, h3, hld]
  repeat' (first
    | (refine ifP_pos (by first | assumption | omega) ?_ <;> try simp (maxSteps := 4000000) (disch := first | assumption | omega | (simp only [push_next, put_next, empty_next, List.length_cons, List.length_nil] <;> omega) | exact _root_.id rfl | exact _root_.id (fun _ => rfl) | fail) only [↓pre, post, Int.reduceEq, Int.reduceLT, Int.reduceLE, Int.reduceAdd, Int.reduceSub, Int.reduceMul, Int.reduceNeg, Nat.reduceLT, Nat.reduceSub, Nat.reduceMul, Nat.reduceAdd, Nat.reduceLeDiff, reduceIte, reduceCtorEq, Nat.reduceEqDiff, h3, hld])
    | (refine ifP_neg (by first | assumption | omega) ?_ <;> try simp (maxSteps := 4000000) (disch := first | assumption | omega | (simp only [push_next, put_next, empty_next, List.length_cons, List.length_nil] <;> omega) | exact _root_.id rfl | exact _root_.id (fun _ => rfl) | fail) only [↓pre, post, Int.reduceEq, Int.reduceLT, Int.reduceLE, Int.reduceAdd, Int.reduceSub, Int.reduceMul, Int.reduceNeg, Nat.reduceLT, Nat.reduceSub, Nat.reduceMul, Nat.reduceAdd, Nat.reduceLeDiff, reduceIte, reduceCtorEq, Nat.reduceEqDiff, h3, hld])
    | (refine ifP_intro (fun hyp => ?_) (fun hyp => ?_) <;> first | simp (maxSteps := 4000000) (disch := first | assumption | omega | (simp only [push_next, put_next, empty_next, List.length_cons, List.length_nil] <;> omega) | exact _root_.id rfl | exact _root_.id (fun _ => rfl) | fail) only [↓pre, post, Int.reduceEq, Int.reduceLT, Int.reduceLE, Int.reduceAdd, Int.reduceSub, Int.reduceMul, Int.reduceNeg, Nat.reduceLT, Nat.reduceSub, Nat.reduceMul, Nat.reduceAdd, Nat.reduceLeDiff, reduceIte, reduceCtorEq, Nat.reduceEqDiff, h3, hld, eq_false hyp] | simp (maxSteps := 4000000) (disch := first | assumption | omega | (simp only [push_next, put_next, empty_next, List.length_cons, List.length_nil] <;> omega) | exact _root_.id rfl | exact _root_.id (fun _ => rfl) | fail) only [↓pre, post, Int.reduceEq, Int.reduceLT, Int.reduceLE, Int.reduceAdd, Int.reduceSub, Int.reduceMul, Int.reduceNeg, Nat.reduceLT, Nat.reduceSub, Nat.reduceMul, Nat.reduceAdd, Nat.reduceLeDiff, reduceIte, reduceCtorEq, Nat.reduceEqDiff, h3, hld, eq_true hyp] | skip))

theorem duals2_c {n a : Nat} {v : Int} {x : Nat × Int × Int} {d : List Int} {h : Heap} (hI : DI n d h) (h1 : 1 ≤ x.1) (h2 : x.1 ≤ n) (hv : 0 ≤ v) (hv2 : v ≤ 1000000000000000000) (hc : 0 ≤ x.2.2) (hc2 : x.2.2 ≤ 1000000000000000) (hn : 2 ≤ h.next) (hn2 : n ≤ 512) :
    CV F 43 ([lineA a x, .int .i64 v, .int .i64 x.2.2] ++ [.ptr 1 0]) h (fun _ h2 => DI n (dstep d v x) h2 ∧ Fr (· = 0) h h2) := by
  obtain ⟨i1, i2, i3⟩ := hI
  have hld := loadI i2 (k := x.1 - 1) (by omega)
  have hst := storeI i2 (k := x.1 - 1) (by omega) (v + x.2.2)
  refine CV_wp (fn := c43) rfl ?_
  dsimp only [c43, lineA]
  try simp (maxSteps := 4000000) (disch := first | assumption | omega | (simp only [push_next, put_next, empty_next, List.length_cons, List.length_nil] <;> omega) | exact _root_.id rfl | exact _root_.id (fun _ => rfl) | fail) only [↓pre, post, Int.reduceEq, Int.reduceLT, Int.reduceLE, Int.reduceAdd, Int.reduceSub, Int.reduceMul, Int.reduceNeg, Nat.reduceLT, Nat.reduceSub, Nat.reduceMul, Nat.reduceAdd, Nat.reduceLeDiff, reduceIte, reduceCtorEq, Nat.reduceEqDiff, i3, hld, hst]
  repeat' (first
    | (refine ifP_pos (by first | assumption | omega) ?_ <;> try simp (maxSteps := 4000000) (disch := first | assumption | omega | (simp only [push_next, put_next, empty_next, List.length_cons, List.length_nil] <;> omega) | exact _root_.id rfl | exact _root_.id (fun _ => rfl) | fail) only [↓pre, post, Int.reduceEq, Int.reduceLT, Int.reduceLE, Int.reduceAdd, Int.reduceSub, Int.reduceMul, Int.reduceNeg, Nat.reduceLT, Nat.reduceSub, Nat.reduceMul, Nat.reduceAdd, Nat.reduceLeDiff, reduceIte, reduceCtorEq, Nat.reduceEqDiff, i3, hld, hst])
    | (refine ifP_neg (by first | assumption | omega) ?_ <;> try simp (maxSteps := 4000000) (disch := first | assumption | omega | (simp only [push_next, put_next, empty_next, List.length_cons, List.length_nil] <;> omega) | exact _root_.id rfl | exact _root_.id (fun _ => rfl) | fail) only [↓pre, post, Int.reduceEq, Int.reduceLT, Int.reduceLE, Int.reduceAdd, Int.reduceSub, Int.reduceMul, Int.reduceNeg, Nat.reduceLT, Nat.reduceSub, Nat.reduceMul, Nat.reduceAdd, Nat.reduceLeDiff, reduceIte, reduceCtorEq, Nat.reduceEqDiff, i3, hld, hst])
    | (refine ifP_intro (fun hyp => ?_) (fun hyp => ?_) <;> first | simp (maxSteps := 4000000) (disch := first | assumption | omega | (simp only [push_next, put_next, empty_next, List.length_cons, List.length_nil] <;> omega) | exact _root_.id rfl | exact _root_.id (fun _ => rfl) | fail) only [↓pre, post, Int.reduceEq, Int.reduceLT, Int.reduceLE, Int.reduceAdd, Int.reduceSub, Int.reduceMul, Int.reduceNeg, Nat.reduceLT, Nat.reduceSub, Nat.reduceMul, Nat.reduceAdd, Nat.reduceLeDiff, reduceIte, reduceCtorEq, Nat.reduceEqDiff, i3, hld, hst, eq_false hyp] | simp (maxSteps := 4000000) (disch := first | assumption | omega | (simp only [push_next, put_next, empty_next, List.length_cons, List.length_nil] <;> omega) | exact _root_.id rfl | exact _root_.id (fun _ => rfl) | fail) only [↓pre, post, Int.reduceEq, Int.reduceLT, Int.reduceLE, Int.reduceAdd, Int.reduceSub, Int.reduceMul, Int.reduceNeg, Nat.reduceLT, Nat.reduceSub, Nat.reduceMul, Nat.reduceAdd, Nat.reduceLeDiff, reduceIte, reduceCtorEq, Nat.reduceEqDiff, i3, hld, hst, eq_true hyp] | skip))
  · rw [dstep, if_pos (.inl hyp)]
    exact ⟨⟨by simpa using i1, get_push_old (get_put_old i2), get_push_old (by rw [get_put_ne (by omega)]; exact i3)⟩, (Fr.put (S := (· = 0)) (Fr.refl _ _) (.inl rfl) _).push _⟩
  · rw [dstep, if_pos (.inr hyp)]
    exact ⟨⟨by simpa using i1, get_push_old (get_put_old i2), get_push_old (by rw [get_put_ne (by omega)]; exact i3)⟩, (Fr.put (S := (· = 0)) (Fr.refl _ _) (.inl rfl) _).push _⟩
  · rw [dstep, if_neg (by omega)]
    exact ⟨⟨i1, get_push_old i2, get_push_old i3⟩, (Fr.refl _ _).push _⟩

theorem mem_linesAt {l : List Item} {w : Int} {p : Nat} {x : Nat × Int × Int} (h : x ∈ linesAt l w p) : lineOk l w (skip l p) x.1 ∧ p < x.1 ∧ x.1 ≤ l.length ∧ x.2.1 = natS l (skip l p) x.1 ∧ x.2.2 = costN l w (skip l p) x.1 := by
  unfold linesAt linesOf at h
  rw [List.mem_filterMap] at h
  obtain ⟨b, _, h⟩ := h
  unfold lineAt at h
  split at h
  · rename_i hl
    simp only [Option.some.injEq] at h
    subst h
    have := skip_ge (l := l) (p := p)
    exact ⟨hl, by have h1 := hl.1; show p < b; omega, hl.2.1, rfl, rfl⟩
  · simp at h

theorem cost_bound {l : List Item} {w : Int} (hv : valid l) (hw : widthOk w) {a b : Nat} (h : lineOk l w a b) : 0 ≤ costN l w a b ∧ costN l w a b ≤ 5000000000 := by
  have ho := hv.2.2.2 (b - 1) (by have := h.1; have := h.2.1; omega)
  have hb := nat_bound hv h.1 h.2.1
  have hn := h.2.2.2.2.2
  have hw1 : 1 ≤ w := hw.1
  have hw2 : w ≤ 65536 := hw.2
  unfold okItem at ho
  unfold costN
  split
  · omega
  · have h1 : 0 ≤ w - natS l a b := by omega
    have h2 : w - natS l a b ≤ 65536 := by omega
    generalize w - natS l a b = d at h1 h2
    have h3 : 0 ≤ d * d := Int.mul_nonneg h1 h1
    have h4 : d * d ≤ 65536 * 65536 := Int.mul_le_mul h2 h2 h1 (by omega)
    omega

theorem duals_v {l : List Item} {t : Tok} {w : Int} (ht : Pt t) (hl : l.length ≤ 200) : PV F 17 [.sl (items l) t, .int .i64 w] = some (if widthOk w ∧ valid l then .sl ((dualsS l w).map (.int .i64)) .none else .sl [] .nil) := by
  refine PV_wp (fn := c17) rfl ?_
  dsimp only [c17]
  try simp (maxSteps := 4000000) (disch := first | assumption | omega | (simp only [push_next, put_next, empty_next, List.length_cons, List.length_nil] <;> omega) | exact _root_.id rfl | exact _root_.id (fun _ => rfl) | fail) only [↓pre, post, Int.reduceEq, Int.reduceLT, Int.reduceLE, Int.reduceAdd, Int.reduceSub, Int.reduceMul, Int.reduceNeg, Nat.reduceLT, Nat.reduceSub, Nat.reduceMul, Nat.reduceAdd, Nat.reduceLeDiff, reduceIte, reduceCtorEq, Nat.reduceEqDiff, ready_v]
  repeat' (first
    | (refine ifP_pos (by first | assumption | omega) ?_ <;> try simp (maxSteps := 4000000) (disch := first | assumption | omega | (simp only [push_next, put_next, empty_next, List.length_cons, List.length_nil] <;> omega) | exact _root_.id rfl | exact _root_.id (fun _ => rfl) | fail) only [↓pre, post, Int.reduceEq, Int.reduceLT, Int.reduceLE, Int.reduceAdd, Int.reduceSub, Int.reduceMul, Int.reduceNeg, Nat.reduceLT, Nat.reduceSub, Nat.reduceMul, Nat.reduceAdd, Nat.reduceLeDiff, reduceIte, reduceCtorEq, Nat.reduceEqDiff, ready_v])
    | (refine ifP_neg (by first | assumption | omega) ?_ <;> try simp (maxSteps := 4000000) (disch := first | assumption | omega | (simp only [push_next, put_next, empty_next, List.length_cons, List.length_nil] <;> omega) | exact _root_.id rfl | exact _root_.id (fun _ => rfl) | fail) only [↓pre, post, Int.reduceEq, Int.reduceLT, Int.reduceLE, Int.reduceAdd, Int.reduceSub, Int.reduceMul, Int.reduceNeg, Nat.reduceLT, Nat.reduceSub, Nat.reduceMul, Nat.reduceAdd, Nat.reduceLeDiff, reduceIte, reduceCtorEq, Nat.reduceEqDiff, ready_v])
    | (refine ifP_intro (fun hyp => ?_) (fun hyp => ?_) <;> first | simp (maxSteps := 4000000) (disch := first | assumption | omega | (simp only [push_next, put_next, empty_next, List.length_cons, List.length_nil] <;> omega) | exact _root_.id rfl | exact _root_.id (fun _ => rfl) | fail) only [↓pre, post, Int.reduceEq, Int.reduceLT, Int.reduceLE, Int.reduceAdd, Int.reduceSub, Int.reduceMul, Int.reduceNeg, Nat.reduceLT, Nat.reduceSub, Nat.reduceMul, Nat.reduceAdd, Nat.reduceLeDiff, reduceIte, reduceCtorEq, Nat.reduceEqDiff, ready_v, eq_false hyp] | simp (maxSteps := 4000000) (disch := first | assumption | omega | (simp only [push_next, put_next, empty_next, List.length_cons, List.length_nil] <;> omega) | exact _root_.id rfl | exact _root_.id (fun _ => rfl) | fail) only [↓pre, post, Int.reduceEq, Int.reduceLT, Int.reduceLE, Int.reduceAdd, Int.reduceSub, Int.reduceMul, Int.reduceNeg, Nat.reduceLT, Nat.reduceSub, Nat.reduceMul, Nat.reduceAdd, Nat.reduceLeDiff, reduceIte, reduceCtorEq, Nat.reduceEqDiff, ready_v, eq_true hyp] | skip))
  · have hv : valid l := hyp.2
    have hw : widthOk w := hyp.1
    have hl1 := hv.1
    refine CV_mono (repeat_c (n := l.length) (by omega) hl1) ?_
    rintro r h1 ⟨rfl, rfl⟩
    try simp (maxSteps := 4000000) (disch := first | assumption | omega | (simp only [push_next, put_next, empty_next, List.length_cons, List.length_nil] <;> omega) | exact _root_.id rfl | exact _root_.id (fun _ => rfl) | fail) only [↓pre, post, Int.reduceEq, Int.reduceLT, Int.reduceLE, Int.reduceAdd, Int.reduceSub, Int.reduceMul, Int.reduceNeg, Nat.reduceLT, Nat.reduceSub, Nat.reduceMul, Nat.reduceAdd, Nat.reduceLeDiff, reduceIte, reduceCtorEq, Nat.reduceEqDiff]
    repeat' (first
      | (refine ifP_pos (by first | assumption | omega) ?_ <;> try simp (maxSteps := 4000000) (disch := first | assumption | omega | (simp only [push_next, put_next, empty_next, List.length_cons, List.length_nil] <;> omega) | exact _root_.id rfl | exact _root_.id (fun _ => rfl) | fail) only [↓pre, post, Int.reduceEq, Int.reduceLT, Int.reduceLE, Int.reduceAdd, Int.reduceSub, Int.reduceMul, Int.reduceNeg, Nat.reduceLT, Nat.reduceSub, Nat.reduceMul, Nat.reduceAdd, Nat.reduceLeDiff, reduceIte, reduceCtorEq, Nat.reduceEqDiff])
      | (refine ifP_neg (by first | assumption | omega) ?_ <;> try simp (maxSteps := 4000000) (disch := first | assumption | omega | (simp only [push_next, put_next, empty_next, List.length_cons, List.length_nil] <;> omega) | exact _root_.id rfl | exact _root_.id (fun _ => rfl) | fail) only [↓pre, post, Int.reduceEq, Int.reduceLT, Int.reduceLE, Int.reduceAdd, Int.reduceSub, Int.reduceMul, Int.reduceNeg, Nat.reduceLT, Nat.reduceSub, Nat.reduceMul, Nat.reduceAdd, Nat.reduceLeDiff, reduceIte, reduceCtorEq, Nat.reduceEqDiff])
      | (refine ifP_intro (fun hyp => ?_) (fun hyp => ?_) <;> first | simp (maxSteps := 4000000) (disch := first | assumption | omega | (simp only [push_next, put_next, empty_next, List.length_cons, List.length_nil] <;> omega) | exact _root_.id rfl | exact _root_.id (fun _ => rfl) | fail) only [↓pre, post, Int.reduceEq, Int.reduceLT, Int.reduceLE, Int.reduceAdd, Int.reduceSub, Int.reduceMul, Int.reduceNeg, Nat.reduceLT, Nat.reduceSub, Nat.reduceMul, Nat.reduceAdd, Nat.reduceLeDiff, reduceIte, reduceCtorEq, Nat.reduceEqDiff, eq_false hyp] | simp (maxSteps := 4000000) (disch := first | assumption | omega | (simp only [push_next, put_next, empty_next, List.length_cons, List.length_nil] <;> omega) | exact _root_.id rfl | exact _root_.id (fun _ => rfl) | fail) only [↓pre, post, Int.reduceEq, Int.reduceLT, Int.reduceLE, Int.reduceAdd, Int.reduceSub, Int.reduceMul, Int.reduceNeg, Nat.reduceLT, Nat.reduceSub, Nat.reduceMul, Nat.reduceAdd, Nat.reduceLeDiff, reduceIte, reduceCtorEq, Nat.reduceEqDiff, eq_true hyp] | skip))
    refine CV_mono (reach_c (S := fun j => j = 0 ∨ j = 1) ht hv hw ?_ (fun p v => v ≤ p * 5000000000) (fun d k => nth d k) dstep
      (fun d h => DI l.length d h ∧ ∀ k, nth d k ≤ (k + 1) * 5000000000) ?_ (by simp) ?_ ?_ (List.replicate l.length (-1)) ?_) ?_
    · rintro j (rfl | rfl)
      · exact Nat.lt_of_lt_of_le (by decide : 0 < 2) (Nat.le_refl 2)
      · exact Nat.lt_succ_self 1
    · rintro s h1 h2 he ⟨⟨i1, i2, i3⟩, i4⟩
      exact ⟨⟨i1, by rw [he 0 (.inl rfl)]; exact i2, by rw [he 1 (.inr rfl)]; exact i3⟩, i4⟩
    · rintro s k h1 hk ⟨i1, i4⟩ hF
      refine CV_mono (duals1_c i1 (by omega)) ?_
      rintro r h2 ⟨rfl, rfl⟩
      exact ⟨rfl, ⟨i1, i4⟩, Fr.refl _ _, by have h4 := i4 k; show nth s k ≤ ((k + 1 : Nat) : Int) * 5000000000; omega⟩
    · rintro s p v x h1 hp hV h0 hx ⟨i1, i4⟩ hF
      obtain ⟨m1, m2, m3, m4, m5⟩ := mem_linesAt hx
      have hcb := cost_bound hv hw m1
      rw [← m5] at hcb
      have hl2 := hv.2.1
      have hnx := hF.1
      simp only [push_next, empty_next] at hnx
      refine CV_mono (duals2_c i1 (by omega) m3 h0 (by omega) hcb.1 (by omega) (by omega) hl2) ?_
      rintro r h2 ⟨k1, k2⟩
      refine ⟨⟨k1, fun k => ?_⟩, k2.mono fun j _ hj => .inl hj⟩
      unfold dstep
      split
      · by_cases hk : x.1 - 1 = k
        · subst hk
          rw [nth_set_self (by have := i1.1; omega)]
          omega
        · rw [nth_set_ne hk]; exact i4 k
      · exact i4 k
    · refine ⟨⟨by simp, rfl, rfl⟩, fun k => ?_⟩
      by_cases hk : k < l.length
      · rw [nth_replicate hk]; omega
      · rw [nth, List.getD_eq_getElem?_getD, List.getElem?_eq_none (by simp; omega)]; simp; omega
    · rintro r h2 ⟨rfl, ⟨⟨i1, i2, i3⟩, i4⟩, hF⟩
      try simp (maxSteps := 4000000) (disch := first | assumption | omega | (simp only [push_next, put_next, empty_next, List.length_cons, List.length_nil] <;> omega) | exact _root_.id rfl | exact _root_.id (fun _ => rfl) | fail) only [↓pre, post, Int.reduceEq, Int.reduceLT, Int.reduceLE, Int.reduceAdd, Int.reduceSub, Int.reduceMul, Int.reduceNeg, Nat.reduceLT, Nat.reduceSub, Nat.reduceMul, Nat.reduceAdd, Nat.reduceLeDiff, reduceIte, reduceCtorEq, Nat.reduceEqDiff, i3]
      repeat' (first
        | (refine ifP_pos (by first | assumption | omega) ?_ <;> try simp (maxSteps := 4000000) (disch := first | assumption | omega | (simp only [push_next, put_next, empty_next, List.length_cons, List.length_nil] <;> omega) | exact _root_.id rfl | exact _root_.id (fun _ => rfl) | fail) only [↓pre, post, Int.reduceEq, Int.reduceLT, Int.reduceLE, Int.reduceAdd, Int.reduceSub, Int.reduceMul, Int.reduceNeg, Nat.reduceLT, Nat.reduceSub, Nat.reduceMul, Nat.reduceAdd, Nat.reduceLeDiff, reduceIte, reduceCtorEq, Nat.reduceEqDiff, i3])
        | (refine ifP_neg (by first | assumption | omega) ?_ <;> try simp (maxSteps := 4000000) (disch := first | assumption | omega | (simp only [push_next, put_next, empty_next, List.length_cons, List.length_nil] <;> omega) | exact _root_.id rfl | exact _root_.id (fun _ => rfl) | fail) only [↓pre, post, Int.reduceEq, Int.reduceLT, Int.reduceLE, Int.reduceAdd, Int.reduceSub, Int.reduceMul, Int.reduceNeg, Nat.reduceLT, Nat.reduceSub, Nat.reduceMul, Nat.reduceAdd, Nat.reduceLeDiff, reduceIte, reduceCtorEq, Nat.reduceEqDiff, i3])
        | (refine ifP_intro (fun hyp => ?_) (fun hyp => ?_) <;> first | simp (maxSteps := 4000000) (disch := first | assumption | omega | (simp only [push_next, put_next, empty_next, List.length_cons, List.length_nil] <;> omega) | exact _root_.id rfl | exact _root_.id (fun _ => rfl) | fail) only [↓pre, post, Int.reduceEq, Int.reduceLT, Int.reduceLE, Int.reduceAdd, Int.reduceSub, Int.reduceMul, Int.reduceNeg, Nat.reduceLT, Nat.reduceSub, Nat.reduceMul, Nat.reduceAdd, Nat.reduceLeDiff, reduceIte, reduceCtorEq, Nat.reduceEqDiff, i3, eq_false hyp] | simp (maxSteps := 4000000) (disch := first | assumption | omega | (simp only [push_next, put_next, empty_next, List.length_cons, List.length_nil] <;> omega) | exact _root_.id rfl | exact _root_.id (fun _ => rfl) | fail) only [↓pre, post, Int.reduceEq, Int.reduceLT, Int.reduceLE, Int.reduceAdd, Int.reduceSub, Int.reduceMul, Int.reduceNeg, Nat.reduceLT, Nat.reduceSub, Nat.reduceMul, Nat.reduceAdd, Nat.reduceLeDiff, reduceIte, reduceCtorEq, Nat.reduceEqDiff, i3, eq_true hyp] | skip))
      rw [if_pos hyp, pu_ref, ← i1, readI i2]; rfl

end Go.Proofs.Ytcammfdljiingaa
